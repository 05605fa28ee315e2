/-
 A state told otherwise: the proof found by trying.
-/
import Derived.Test.YtdpakmmkponfmaaAbsOP
import Derived.Test.YtdpakmmkponfmaaAbsQD
set_option linter.unusedVariables false
set_option linter.unusedSimpArgs false
namespace Go.Abs
theorem wG {k : Nat} {st st' : St} (kk : Nat) (ρ fz : List Nat)
  (hfr : ∀ i, DLe st.H ρ fz (st.fr i) (st'.fr i) := by repeat' (first | exact le_top _ | refine le_upd ?_ ?_ | exact o1 .sc | exact o1 .same | exact o1 (.ref rfl) | exact o1 (.own rfl) | refine DLe.tup ?_ | refine o1 ?_ | refine .t (.agg ?_) | refine .t (.top _) | exact an | refine ac ?_ ?_ | refine TLe.one ?_ | refine TLe.agg ?_ | exact .sc | exact .same | exact (.own rfl) | exact (.ref rfl) | exact (.mp rfl) | exact (.opt rfl) | exact (.er rfl) | exact (.toOpt rfl) | exact .noOpt | exact (.cut rfl) | exact .peek | exact .nil | exact CLe.ownN rfl (by simp) | exact CLe.frz e_u8_len rfl rfl rfl))
  (hH : All2 (OLe st.H ρ fz) (ρ.map fun t => st.H.getD t none) st'.H := by repeat' (first | exact an | refine ac ?_ ?_ | exact .map | exact .none _ | exact .cells id (all2_row _) | exact .cells (fun _ => rfl) (all2_row _) | refine .cells id ?_ | refine .cells (fun _ => rfl) ?_ | exact .sc | exact .same | exact (.own rfl) | exact (.ref rfl) | exact (.mp rfl) | exact (.opt rfl) | exact (.er rfl) | exact (.toOpt rfl) | exact .noOpt | exact (.cut rfl) | exact .peek | exact .nil | exact CLe.ownN rfl (by simp) | exact CLe.frz e_u8_len rfl rfl rfl))
  (hk : k = kk := by first | assumption | rfl)
  (hkk : (List.range kk).all (fun i => ρ[i]? == some i) = true := by rfl) (hkl : kk ≤ ρ.length := by decide) (hnd : ρ.Nodup := by decide) (hdj : fz.all (fun t => !ρ.contains t) = true := by rfl)
  (hfz : fz.all (cellsAt st.H) = true := by rfl) (hn : st'.n = st.n := by rfl) : Weak k st st' := Weak.gen ρ fz hk hkk hkl hnd hdj hfz hn hfr hH
/-- with the place told. -/
def OLeQ (H : List (Option AObj)) (ρ fz : List Nat) (_ : Nat) (a b : Option AObj) : Prop := OLe H ρ fz a b
def AllQ (H : List (Option AObj)) (ρ fz : List Nat) (_ : Nat) (l m : List (Option AObj)) : Prop := All2 (OLe H ρ fz) l m
theorem aqN {H : List (Option AObj)} {ρ fz : List Nat} {q : Nat} : AllQ H ρ fz q [] [] := All2.nil
theorem aqC {H : List (Option AObj)} {ρ fz : List Nat} {q : Nat} {a b : Option AObj} {l m : List (Option AObj)} (h : OLeQ H ρ fz q a b) (t : AllQ H ρ fz (q + 1) l m) : AllQ H ρ fz q (a :: l) (b :: m) := All2.cons h t
theorem oqH {H : List (Option AObj)} {ρ fz : List Nat} {q : Nat} {p : RG} {L : Nat} {F : Nat → D} {hv : Nat → Option AObj} {o : Option AObj} (hρ : rhoOk p L ρ = true) (hp : (∀ t, tkD p L (F t) = true) ∧ ∀ q, tkO p L (hv q) = true) (ho : hv q = o) : OLeQ H ρ fz q o o := ole_ok hρ (ho ▸ hp.2 q)
/-- the new objects of an operation that is drawn, under their numbers. -/
theorem wD {k : Nat} {st st' : St} (kk : Nat) (p : RG) (L : Nat) (ρ fz : List Nat) {F : Nat → D} {hv : Nat → Option AObj} (hp : (∀ t, tkD p L (F t) = true) ∧ ∀ q, tkO p L (hv q) = true)
  (hfr : ((∀ t, tkD p L (F t) = true) ∧ ∀ q, tkO p L (hv q) = true) → ∀ i, DLe st.H ρ fz (st.fr i) (st'.fr i) := by intro hp; repeat' (first | exact le_ok rfl hp.1 | refine le_upd2 (le_ok rfl hp.1) ?_ | refine DLe.tup ?_ | refine o1 ?_ | refine .t (.agg ?_) | exact an | refine ac ?_ ?_ | refine TLe.one ?_ | refine TLe.agg ?_ | exact .sc | exact .same | exact (.own rfl) | exact (.ref rfl) | exact (.mp rfl) | exact (.opt rfl) | exact (.er rfl) | exact (.toOpt rfl) | exact .noOpt | exact (.cut rfl) | exact .peek | exact .nil | exact CLe.ownN rfl (by simp) | exact CLe.frz e_u8_len rfl rfl rfl | exact CLe.frz (e_sl_len _) rfl rfl rfl))
  (hH : ((∀ t, tkD p L (F t) = true) ∧ ∀ q, tkO p L (hv q) = true) → AllQ st.H ρ fz 0 (ρ.map fun t => st.H.getD t none) st'.H := by intro hp; repeat' (first | exact aqN | refine aqC ?_ ?_ | exact oqH rfl hp rfl | exact OLe.map | exact OLe.none _ | exact OLe.cells id (all2_row _) | exact OLe.cells (fun _ => rfl) (all2_row _) | refine OLe.cells id ?_ | refine OLe.cells (fun _ => rfl) ?_ | exact an | refine ac ?_ ?_ | exact .sc | exact .same | exact (.own rfl) | exact (.ref rfl) | exact (.mp rfl) | exact (.opt rfl) | exact (.er rfl) | exact (.toOpt rfl) | exact .noOpt | exact (.cut rfl) | exact .peek | exact .nil | exact CLe.ownN rfl (by simp) | exact CLe.frz e_u8_len rfl rfl rfl | exact CLe.frz (e_sl_len _) rfl rfl rfl))
  (hk : k = kk := by first | assumption | rfl)
  (hkk : (List.range kk).all (fun i => ρ[i]? == some i) = true := by rfl) (hkl : kk ≤ ρ.length := by decide) (hnd : ρ.Nodup := by decide) (hdj : fz.all (fun t => !ρ.contains t) = true := by rfl)
  (hfz : fz.all (cellsAt st.H) = true := by rfl) (hn : st'.n = st.n := by rfl) : Weak k st st' := Weak.gen ρ fz hk hkk hkl hnd hdj hfz hn (hfr hp) (hH hp)
section
variable {pr : Program} {x : Ctx} {ops : Array Oper} {n L : Nat} {o : Oper} {f : Nat × Foot} {l : List Oper} {fs : List (Nat × Foot)}
/-! steps of a region that draws, found by trying -/
theorem pA (t : AllStep pr x ops n L l fs) (h : StepC pr x ops n L o f.2 := by intro K rest fr hv htk k; first | exact AWops.guard_undef rfl rfl k | exact AWops.guard_no rfl (nl rfl) rfl rfl k | exact s_move rfl k | exact s_assign rfl k | exact s_nilCheck rfl (.inl ⟨_, _, rfl⟩) k | exact s_not rfl k | exact s_binI rfl rfl rfl k | (refine AWops.guard_yes rfl (nl rfl) rfl rfl ?_; first | exact s_move rfl k | exact s_assign rfl k | exact s_nilCheck rfl (.inl ⟨_, _, rfl⟩) k | exact s_not rfl k | exact s_binI rfl rfl rfl k)) : AllStep pr x ops n L (o :: l) (f :: fs) := ⟨h, t⟩
theorem pE {α : Prop} (hf : α) (t : AllStep pr x ops n L l fs) (h : α → StepC pr x ops n L o f.2 := by intro hf K rest fr hv htk k; first | exact s_fieldRef hf (by decide) rfl k | exact s_load1 hf rfl rfl k | (refine AWops.guard_yes rfl (nl rfl) rfl rfl ?_; first | exact s_fieldRef hf (by decide) rfl k | exact s_load1 hf rfl rfl k)) : AllStep pr x ops n L (o :: l) (f :: fs) := ⟨h hf, t⟩
theorem pN {b v : Bool} (hc : b = v) (t : AllStep pr x ops n L l fs) (h : b = v → StepC pr x ops n L o f.2 := by intro hc K rest fr hv htk k; first | exact AWops.guard_no rfl (nl rfl) rfl hc k | exact AWops.guard_no rfl (nl rfl) rfl (by rw [hc] <;> rfl) k) : AllStep pr x ops n L (o :: l) (f :: fs) := ⟨h hc, t⟩
theorem pY {b v : Bool} (hc : b = v) (t : AllStep pr x ops n L l fs) (h : b = v → StepC pr x ops n L o f.2 := by intro hc K rest fr hv htk k; (first | refine AWops.guard_yes rfl (nl rfl) rfl hc ?_ | refine AWops.guard_yes rfl (nl rfl) rfl (by rw [hc] <;> rfl) ?_); first | exact s_move rfl k | exact s_assign rfl k | exact s_nilCheck rfl (.inl ⟨_, _, rfl⟩) k | exact s_not rfl k | exact s_binI rfl rfl rfl k) : AllStep pr x ops n L (o :: l) (f :: fs) := ⟨h hc, t⟩
theorem pYE {b v : Bool} {α : Prop} (hc : b = v) (hf : α) (t : AllStep pr x ops n L l fs) (h : b = v → α → StepC pr x ops n L o f.2 := by intro hc hf K rest fr hv htk k; (first | refine AWops.guard_yes rfl (nl rfl) rfl hc ?_ | refine AWops.guard_yes rfl (nl rfl) rfl (by rw [hc] <;> rfl) ?_); first | exact s_fieldRef hf (by decide) rfl k | exact s_load1 hf rfl rfl k) : AllStep pr x ops n L (o :: l) (f :: fs) := ⟨h hc hf, t⟩
end
end Go.Abs
