import Derived.Test.YtdpakmmkponfmaaAbsQ
set_option linter.unusedVariables false
set_option linter.unusedSimpArgs false
namespace Go.Abs
section
variable {p : RG} {L n : Nat} {H : List (Option AObj)} {ρ fz : List Nat}
theorem tk_top : ∀ t, tkD p L (topF t) = true := fun _ => rfl
theorem tk_upd {g : Nat → D} {i : Nat} {d : D} (h : ∀ t, tkD p L (g t) = true) (hd : tkD p L d = true) : ∀ t, tkD p L (upd n g i d t) = true := by
 intro t
 unfold upd
 cases (Nat.beq t i && Nat.blt i n) with
 | true => exact hd
 | false => exact h t
/-- all of what is told ahead and of what stands behind. -/
def rhoOk (p : RG) (L : Nat) (ρ : List Nat) : Bool := (List.range L).all fun t => inR p t || (ρ[t]? == some t)
theorem rhoOk.get {t : Nat} (h : rhoOk p L ρ = true) (h1 : (!inR p t && Nat.blt t L) = true) : ρ[t]? = some t := by
 unfold rhoOk at h
 rw [Bool.and_eq_true] at h1
 have hl : t < L := Nat.le_of_ble_eq_true h1.2
 rw [List.all_eq_true] at h
 have h2 := h t (List.mem_range.mpr hl)
 rw [Bool.or_eq_true] at h2
 rcases h2 with h2 | h2
 ·rw [h2] at h1; simp at h1
 ·simpa using h2
mutual
theorem cle_ok (hρ : rhoOk p L ρ = true) : ∀ c : C, tkC p L c = true → CLe H ρ fz c c
 | .own t off n sz, h => .own (rhoOk.get hρ (by unfold tkC at h; exact h))
 | .ref t off, h => .ref (rhoOk.get hρ (by unfold tkC at h; exact h))
 | .er t off, h => .er (rhoOk.get hρ (by unfold tkC at h; exact h))
 | .cut t off n sz, h => .cut (rhoOk.get hρ (by unfold tkC at h; exact h))
 | .opt o t off, h => .opt (rhoOk.get hρ (by unfold tkC at h; exact h))
 | .mp t, h => .mp (rhoOk.get hρ (by unfold tkC at h; exact h))
 | .clo f caps, h => CLe.cloL (cles_ok hρ caps (by unfold tkC at h; exact h))
 | .p f q, _ => .same
 | .peek f ps, _ => .peek
 | .top, _ => .top _
theorem cles_ok (hρ : rhoOk p L ρ = true) : ∀ cs : List C, tkCs p L cs = true → All2 (CLe H ρ fz) cs cs
 | [], _ => .nil
 | c :: cs, h => by
  unfold tkCs at h
  rw [Bool.and_eq_true] at h
  exact .cons (cle_ok hρ c h.1) (cles_ok hρ cs h.2)
end
theorem le_ok {F : Nat → D} (hρ : rhoOk p L ρ = true) (h : ∀ t, tkD p L (F t) = true) : ∀ t, DLe H ρ fz (F t) (F t) := by
 intro t
 have ht := h t
 generalize F t = d at ht
 cases d with
 | one c => exact .t (.one (cle_ok hρ c ht))
 | agg cs => exact .t (.agg (cles_ok hρ cs ht))
 | tup ds =>
  refine .tup ?_
  replace ht : (ds.all fun d => match d with | .one c => tkC p L c | .agg cs => tkCs p L cs | .tup _ => false) = true := ht
  induction ds with
  | nil => exact .nil
  | cons d ds ih =>
   rw [List.all_cons, Bool.and_eq_true] at ht
   refine .cons ?_ (ih ht.2)
   cases d with
   | one c => exact .one (cle_ok hρ c ht.1)
   | agg cs => exact .agg (cles_ok hρ cs ht.1)
   | tup _ => exact absurd ht.1 (by simp)
theorem ole_ok {o : Option AObj} (hρ : rhoOk p L ρ = true) (h : tkO p L o = true) : OLe H ρ fz o o := by
 cases o with
 | none => exact .none _
 | some o =>
  cases o with
  | cells fr cs => exact .cells (fun h => h) (cles_ok hρ cs h)
  | map fr es => exact .map
theorem le_upd2 {F F' : Nat → D} {t : Nat} {d d' : D} (h : ∀ i, DLe H ρ fz (F i) (F' i)) (hd : DLe H ρ fz d d') : ∀ i, DLe H ρ fz (upd n F t d i) (upd n F' t d' i) := by
 intro i
 unfold upd
 cases (Nat.beq i t && Nat.blt t n) with
 | true => exact hd
 | false => exact h i
theorem tkO_row {α : Type} {f : α → List P} {fr : Bool} (xs : List α) : tkO p L (some (.cells fr (rowC f xs))) = true := by
 show tkCs p L (rowC f xs) = true
 unfold rowC
 induction xs.flatMap f with
 | nil => rfl
 | cons q qs ih =>
  rw [List.map_cons]
  unfold tkCs
  rw [ih]
  cases q <;> rfl

theorem AllS.nil' {F0 : Nat → D} {feet : List (Nat × Foot)} {done : Nat → Bool} : AllS F0 feet done [] := trivial
theorem AllS.cons' {F0 : Nat → D} {feet : List (Nat × Foot)} {done : Nat → Bool} {t : Nat} {d : D} {l : List (Nat × D)} (h : slD F0 feet done t = d) (k : AllS F0 feet done l) : AllS F0 feet done ((t, d) :: l) := ⟨h, k⟩
theorem AllH.nil' {H0 : Nat → Option AObj} {feet : List (Nat × Foot)} {done : Nat → Bool} : AllH H0 feet done [] := trivial
theorem AllH.cons' {H0 : Nat → Option AObj} {feet : List (Nat × Foot)} {done : Nat → Bool} {t : Nat} {d : Option AObj} {l : List (Nat × Option AObj)} (h : hpD H0 feet done t = d) (k : AllH H0 feet done l) : AllH H0 feet done ((t, d) :: l) := ⟨h, k⟩
theorem AllF.nil' {p : Nat × Foot → Prop} : AllF p [] := trivial
theorem AllF.cons' {p : Nat × Foot → Prop} {x : Nat × Foot} {l : List (Nat × Foot)} (h : p x) (k : AllF p l) : AllF p (x :: l) := ⟨h, k⟩
theorem AllK.nil' {P : Nat → RG → Prop} : AllK P [] := trivial
theorem AllK.cons' {P : Nat → RG → Prop} {i : Nat} {p : RG} {l : List (Nat × RG)} (h : P i p) (k : AllK P l) : AllK P ((i, p) :: l) := ⟨h, k⟩
theorem AllT.nil' {p : RG} {L : Nat} : AllT p L [] := trivial
theorem AllT.cons' {p : RG} {L : Nat} {o : Option AObj} {l : List (Option AObj)} (h : tkO p L o = true) (k : AllT p L l) : AllT p L (o :: l) := ⟨h, k⟩
theorem AllStep.nil' {pr : Program} {x : Ctx} {ops : Array Oper} {n L : Nat} {fs : List (Nat × Foot)} : AllStep pr x ops n L [] fs := trivial
theorem AllStep.cons' {pr : Program} {x : Ctx} {ops : Array Oper} {n L : Nat} {o : Oper} {f : Nat × Foot} {l : List Oper} {fs : List (Nat × Foot)} (h : StepC pr x ops n L o f.2) (k : AllStep pr x ops n L l fs) : AllStep pr x ops n L (o :: l) (f :: fs) := ⟨h, k⟩
end
end Go.Abs
