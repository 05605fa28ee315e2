import Derived.Test.YtdpakmmkponfmaaPlZF
set_option linter.unusedVariables false
set_option linter.unusedSimpArgs false
set_option maxRecDepth 100000
set_option maxHeartbeats 4000000
namespace Go.Abs.GenZ
open Go.Abs

/-! ### bytes in the files -/
def Byt (Y : RD) : Prop := ∀ f ∈ Y.L, U8s f.B
/-- both disks. -/
def Rl (N : Nat) (D : VD) (Y : RD) : Prop := Rel N D Y ∧ Byt Y
theorem Rl.mono {N M : Nat} {D : VD} {Y : RD} (h : Rl N D Y) (hN : N ≤ M) : Rl M D Y := ⟨h.1.mono hN, h.2⟩
theorem old_byt {Y : RD} (hb : Byt Y) (n : ByteArray) : U8s (old Y n).B := by
 unfold old
 cases hq : fnd n Y.L with
 | none => exact U8s.nil
 | some g => exact hb g (fnd_mem hq).1
theorem aft_byt {c : Int × RD} {g : RD → RD} (h : Byt c.2) (hg : ∀ Y1, Byt (g Y1)) : Byt (aft c g).2 := by
 unfold aft; split
 ·exact hg _
 ·exact h
theorem byt_L {Y Y' : RD} (e : Y'.L = Y.L) (h : Byt Y) : Byt Y' := by unfold Byt; rw [e]; exact h
theorem ins_byt {L : List Fl} {f : Fl} (h : ∀ g ∈ L, U8s g.B) (hf : U8s f.B) : ∀ g ∈ ins f L, U8s g.B := by
 intro g hg
 rcases ins_mem f _ g hg with rfl | hg
 ·exact hf
 ·exact h g hg
theorem append_byt {Y : RD} (hb : Byt Y) (n : ByteArray) {b : List Int} (hu : U8s b) : Byt (rAppend Y n b).2 := by
 unfold rAppend
 split
 ·split
  ·exact hb
  ·split
   ·exact hb
   ·split
    ·exact ins_byt hb ((old_byt hb n).app hu)
    ·exact byt_L (brn_L Y).1 hb
 ·exact hb
theorem sync_byt {Y : RD} (hb : Byt Y) (n : ByteArray) : Byt (rSync Y n).2 := aft_byt (byt_L (chR_L Y n).1 hb) fun Y1 => ins_byt hb (old_byt hb n)
theorem trunc_byt {Y : RD} (hb : Byt Y) (n : ByteArray) (m : Int) : Byt (rTruncate Y n m).2 := by
 unfold rTruncate; split
 ·exact hb
 ·exact aft_byt (byt_L (chR_L Y n).1 hb) fun Y1 => ins_byt hb ((old_byt hb n).take _)
theorem ren_byt {Y : RD} (hb : Byt Y) (n m : ByteArray) : Byt (rRename Y n m).2 := by
 unfold rRename; split
 ·exact aft_byt (byt_L (chR_L Y n).1 hb) fun Y1 => ins_byt (fun g hg => hb g (del_mem n _ g hg)) (old_byt hb n)
 ·exact hb
theorem rem_byt {Y : RD} (hb : Byt Y) (n : ByteArray) : Byt (rRemove Y n).2 := aft_byt (byt_L (chR_L Y n).1 hb) fun Y1 g hg => hb g (del_mem n _ g hg)
theorem fuse_byt {Y : RD} (hb : Byt Y) (m : Int) : Byt (rFuse Y m).2 := by unfold rFuse; split <;> exact hb
theorem room_byt {Y : RD} (hb : Byt Y) (m : Int) : Byt (rRoom Y m).2 := by
 unfold rRoom; split
 ·exact hb
 ·split <;> exact hb
theorem crash_byt {Y : RD} (hb : Byt Y) (keeps : List Int) : Byt ⟨crs keeps 0 Y.L, Y.Most, -1, false⟩ := by
 intro g hg
 obtain ⟨f, hf, j, rfl⟩ := crs_mem keeps Y.L 0 g hg
 exact (hb f hf).take _

/-! ### a step -/
abbrev Stp := dossierplain_Step
structure SOk (s : Stp) : Prop where
 b : s.B.length ≤ 1000000000000
 u : U8s s.B
 keeps : s.Keeps.length < 9223372036854775807
 n : s.N ≤ 9223372036854775807
/-- what a step comes to: the answers are the same, and the disks. -/
def StepTo (N : Nat) (f : Nat → Option (Bool × VD × RD)) : Prop := ∃ D' Y', Evt f (true, D', Y') ∧ Rl (N + 1) D' Y'
theorem lk_le {N : Nat} {D : VD} {Y : RD} (h : Rel N D Y) (n : ByteArray) : (lk n D.files).b.length ≤ 1099511627776 := by
 rw [lk_len h.ag]
 have := blen_le (n := n) Y.L
 have := h.us
 omega
theorem spoil_tot (p1 : List Int) (h : p1.length < 9223372036854775807) : ∀ n i x1, p1.length - i = n → i ≤ p1.length → x1.length = p1.length → Tot (fun k => dossierplain_Spoil.l0 k x1 (i : Int) p1)
 | 0, i, x1, hn, hi, hx => Tot.succ (fun k => by rw [dossierplain_Spoil.l0]) (Evt.tot (Evt.neg (by rw [decide_eq_true_eq]; omega) (.pure _)))
 | n + 1, i, x1, hn, hi, hx => by
  have hl : i < x1.length := by omega
  have ih := spoil_tot p1 h n (i + 1) (x1.set i (Go.bits .xor .u8 x1[i] 255)) (by omega) (by omega) (by simpa using hx)
  obtain ⟨r, hr⟩ := ih
  refine ⟨r, Evt.succ (fun k => by rw [dossierplain_Spoil.l0]) (Evt.pos (by rw [decide_eq_true_eq]; omega) (Evt.some_bind (rd_lt hl) (Evt.some_bind (rd_lt hl) ?_)))⟩
  rw [wrap_nat (by omega), Int.toNat_natCast]
  exact hr
theorem spoil_ev (b : List Int) (h : b.length < 9223372036854775807) : ∃ r, Evt (fun k => dossierplain_Spoil.f k () b) r := by
 have := spoil_tot b h b.length 0 b (by omega) (by omega) rfl
 simpa [dossierplain_Spoil.f, Tot] using this
theorem clone_ev (b : List Int) (h : b.length ≤ 1000000000000) : Evt (fun k => bytes_Clone.f k b) b := by
 simp only [bytes_Clone.f]
 exact Evt.pos (by simp; omega) (.pure _)
theorem doP {N : Nat} {D : VD} {Y : RD} (h : Rel N D Y) (hb : Byt Y) (hN : N ≤ 1000000000) (s : Stp) (hs : SOk s) : StepTo N (fun k => dossierplain_Step_Do_12.f k s D Y) := by
 have hok := h.ok (by omega)
 have key : ∀ x : Bool, StepTo N (fun k => dossierplain_Step_Do_12.j0 k x s D Y) := by
  intro x
  have suc : ∀ {G : Nat → Option (Bool × VD × RD)}, (∀ k, dossierplain_Step_Do_12.j0 (k + 1) x s D Y = G k) → StepTo N G → StepTo N (fun k => dossierplain_Step_Do_12.j0 k x s D Y) := by
   rintro G hG ⟨D', Y', h1, h2⟩
   exact ⟨D', Y', Evt.succ hG h1, h2⟩
  have ite : ∀ {c : Prop} [Decidable c] {F G : Nat → Option (Bool × VD × RD)}, StepTo N F → StepTo N G → StepTo N (fun k => if c then F k else G k) := by
   intro c _ F G ⟨D1, Y1, a1, a2⟩ ⟨D2, Y2, b1, b2⟩
   by_cases hc : c
   ·exact ⟨D1, Y1, a1.pos hc, a2⟩
   ·exact ⟨D2, Y2, b1.neg hc, b2⟩
  have two : ∀ {P : Int × VD} {R : Int × RD} {F : Nat → Option (Int × VD)} {G : Nat → Option (Int × RD)}, (P.1 = R.1 ∧ Rel (N + 1) P.2 R.2) → Evt F P → Evt G R → Byt R.2 →
    StepTo N (fun k => (F k).bind fun r9 => (G k).bind fun r10 => some ((r9.1 == r10.1), r9.2, r10.2)) := by
   rintro P R F G ⟨p1, p2⟩ p3 p5 p6
   refine ⟨P.2, R.2, Evt.bind p3 (Evt.bind p5 ?_), p2, p6⟩
   have : (P.1 == R.1) = true := by simp [p1]
   show Evt (fun _ => some ((P.1 == R.1), P.2, R.2)) _
   rw [this]; exact .pure _
  refine suc (fun k => by rw [dossierplain_Step_Do_12.j0]) ?_
  refine ite ?_ (ite ?_ (ite ?_ (ite ?_ (ite ?_ (ite ?_ (ite ?_ ?_))))))
  ·obtain ⟨r, hr⟩ := spoil_ev s.B (by have := hs.b; omega)
   obtain ⟨p1, p2⟩ := append_rel h s.Name s.B
   have p3 := appendP D s.Name s.B (lk_le h _) (by have := hs.b; omega)
   refine ⟨_, _, Evt.bind (clone_ev s.B hs.b) (Evt.bind p3 (Evt.bind hr (Evt.bind (appendR_ev Y hok s.Name s.B (by have := hs.b; omega)) ?_))), p2, append_byt hb _ hs.u⟩
   have : ((pAppend D s.Name s.B).1 == (rAppend Y s.Name s.B).1) = true := by simp [p1]
   show Evt (fun _ => some (((pAppend D s.Name s.B).1 == (rAppend Y s.Name s.B).1), _, _)) _
   rw [this]; exact .pure _
  ·exact two (sync_rel h _) (syncP D _) (syncR_ev Y hok _) (sync_byt hb _)
  ·exact two (ren_rel h _ _) (renP D _ _) (renR_ev Y hok _ _) (ren_byt hb _ _)
  ·exact two (trunc_rel h _ _) (truncP D _ _) (truncR_ev Y hok _ _) (trunc_byt hb _ _)
  ·exact two (rem_rel h _) (remP D _) (remR_ev Y hok _) (rem_byt hb _)
  ·exact two (fuse_rel h _ hs.n) (fuseP D _) (fuseR_ev Y _) (fuse_byt hb _)
  ·obtain ⟨D', p1, p2⟩ := crashP h hN s.Keeps hs.keeps
   exact ⟨D', _, Evt.bind (crashR_ev Y hok s.Keeps hs.keeps h.sur) (Evt.bind p1 (.pure _)), p2.mono (by omega), crash_byt hb _⟩
  ·exact two (room_rel h _) (roomP D _) (roomR_ev Y _) (room_byt hb _)
 simp only [dossierplain_Step_Do_12.f]
 by_cases hc : (IntKind.i64.wrap (Int.tmod (IntKind.u64.wrap s.Op) 9) == 0) = true
 ·obtain ⟨D', Y', h1, h2⟩ := key (IntKind.i64.wrap (Int.tmod (IntKind.u64.wrap s.Op) 9) == 0)
  exact ⟨D', Y', Evt.pos hc h1, h2⟩
 ·obtain ⟨D', Y', h1, h2⟩ := key (IntKind.i64.wrap (Int.tmod (IntKind.u64.wrap s.Op) 9) == 1)
  exact ⟨D', Y', Evt.neg hc h1, h2⟩
end Go.Abs.GenZ
