import Derived.Test.YtiegaebmhpdnmaaPlRdF
set_option linter.unusedVariables false
set_option linter.unusedSimpArgs false
set_option maxRecDepth 100000
set_option maxHeartbeats 4000000
namespace Go.Abs.GenRd
open Go.Abs

/-! ### a step -/
abbrev Stp := dossierplain_Step
structure SOk (s : Stp) : Prop where
 b : s.B.length ≤ 1000000000000
 keeps : s.Keeps.length < 9223372036854775807
 n : s.N ≤ 9223372036854775807
/-- what a step comes to: the answers are the same, and the disks. -/
def StepTo (N : Nat) (f : Nat → Option (Bool × VD × RD × Option Int)) : Prop := ∃ D' fu' Y', Evt f (true, D', Y', fu') ∧ Rel (N + 1) D' fu' Y'
theorem lk_le {N : Nat} {D : VD} {fu : Option Int} {Y : RD} (h : Rel N D fu Y) (n : ByteArray) : (lk n D.files).b.length ≤ 1099511627776 := by
 rw [lk_len h.ag]
 have := blen_le (n := n) Y.L
 have := h.us
 omega
theorem spoil_ev (b : List Int) (h : b.length < 9223372036854775807) : ∃ r, Evt (fun k => dossierplain_Spoil.f k () b) r := by
 have := spoil_tot b h b.length 0 b (by omega) (by omega) rfl
 simpa [dossierplain_Spoil.f, Tot] using this
theorem clone_ev (b : List Int) (h : b.length ≤ 1000000000000) : Evt (fun k => bytes_Clone.f k b) b := by
 simp only [bytes_Clone.f]
 exact Evt.pos (by simp; omega) (.pure _)
theorem op_split {α : Type} {c0 c1 c2 c3 c4 c5 c6 c7 : Bool} : True := trivial
theorem do0 {N : Nat} {D : VD} {Y : RD} (h : Rel N D none Y) (hN : N ≤ 1000000000) (s : Stp) (hs : SOk s) : StepTo N (fun k => dossierplain_Step_Do_16.f k s D Y) := by
 have hok := h.ok (by omega)
 have key : ∀ x : Bool, StepTo N (fun k => dossierplain_Step_Do_16.j0 k x s D Y) := by
  intro x
  have suc : ∀ {G : Nat → Option (Bool × VD × RD × Option Int)}, (∀ k, dossierplain_Step_Do_16.j0 (k + 1) x s D Y = G k) → StepTo N G → StepTo N (fun k => dossierplain_Step_Do_16.j0 k x s D Y) := by
   rintro G hG ⟨D', fu', Y', h1, h2⟩
   exact ⟨D', fu', Y', Evt.succ hG h1, h2⟩
  have ite : ∀ {c : Prop} [Decidable c] {F G : Nat → Option (Bool × VD × RD × Option Int)}, StepTo N F → StepTo N G → StepTo N (fun k => if c then F k else G k) := by
   intro c _ F G ⟨D1, f1, Y1, a1, a2⟩ ⟨D2, f2, Y2, b1, b2⟩
   by_cases hc : c
   ·exact ⟨D1, f1, Y1, a1.pos hc, a2⟩
   ·exact ⟨D2, f2, Y2, b1.neg hc, b2⟩
  have two : ∀ {P : Int × VD × Option Int} {R : Int × RD} {F : Nat → Option (Int × VD)} {G : Nat → Option (Int × RD)}, (P.1 = R.1 ∧ Rel (N + 1) P.2.1 P.2.2 R.2) → (Evt F (Two P) ∧ P.2.2 = none) → Evt G R →
    StepTo N (fun k => (F k).bind fun r9 => (G k).bind fun r10 => some ((r9.1 == r10.1), r9.2, r10.2, (none : Option Int))) := by
   rintro P R F G ⟨p1, p2⟩ ⟨p3, p4⟩ p5
   rw [p4] at p2
   refine ⟨P.2.1, none, R.2, Evt.bind p3 (Evt.bind p5 ?_), p2⟩
   have : (P.1 == R.1) = true := by simp [p1]
   show Evt (fun _ => some ((P.1 == R.1), P.2.1, R.2, none)) _
   rw [this]; exact .pure _
  refine suc (fun k => by rw [dossierplain_Step_Do_16.j0]) ?_
  refine ite ?_ (ite ?_ (ite ?_ (ite ?_ (ite ?_ (ite ?_ (ite ?_ ?_))))))
  ·obtain ⟨r, hr⟩ := spoil_ev s.B (by have := hs.b; omega)
   obtain ⟨p1, p2⟩ := append_rel h s.Name s.B
   obtain ⟨p3, p4⟩ := appendP0 D s.Name s.B (lk_le h _) (by have := hs.b; omega)
   rw [p4] at p2
   refine ⟨_, none, _, Evt.bind (clone_ev s.B hs.b) (Evt.bind p3 (Evt.bind hr (Evt.bind (appendR_ev Y hok s.Name s.B (by have := hs.b; omega)) ?_))), p2⟩
   have : ((pAppend D none s.Name s.B).1 == (rAppend Y s.Name s.B).1) = true := by simp [p1]
   show Evt (fun _ => some (((pAppend D none s.Name s.B).1 == (rAppend Y s.Name s.B).1), _, _, none)) _
   rw [this]; exact .pure _
  ·exact two (sync_rel h _) (syncP0 D _) (syncR_ev Y hok _)
  ·exact two (ren_rel h _ _) (renP0 D _ _) (renR_ev Y hok _ _)
  ·exact two (trunc_rel h _ _) (truncP0 D _ _) (truncR_ev Y hok _ _)
  ·exact two (rem_rel h _) (remP0 D _) (remR_ev Y hok _)
  ·obtain ⟨p1, p2⟩ := fuse_rel h s.N hs.n
   have p3 := fuseP0 D s.N
   refine ⟨(pFuse D none s.N).2.1, (pFuse D none s.N).2.2, (rFuse Y s.N).2, Evt.bind p3 ?_, p2⟩
   have e : ((pFuse D none s.N).1 == (rFuse Y s.N).1) = true := by simp [p1]
   cases hq : (pFuse D none s.N).2.2 with
   | none =>
    rw [show (fun k => optE (none : Option Int) ((dossierref03_Disk_Fuse.f k Y s.N).bind fun r24 => some (((pFuse D none s.N).1 == r24.1), (pFuse D none s.N).2.1, r24.2, (none : Option Int))) (fun y23 => (dossierref03_Disk_Fuse.f k Y s.N).bind fun r25 => some (((pFuse D none s.N).1 == r25.1), (pFuse D none s.N).2.1, r25.2, some y23))) = fun k => ((dossierref03_Disk_Fuse.f k Y s.N).bind fun r24 => some (((pFuse D none s.N).1 == r24.1), (pFuse D none s.N).2.1, r24.2, (none : Option Int))) from rfl]
    refine Evt.bind (fuseR_ev Y s.N) ?_
    show Evt (fun _ => some (((pFuse D none s.N).1 == (rFuse Y s.N).1), _, _, none)) _
    rw [e]; exact .pure _
   | some q =>
    rw [show (fun k => optE (some q) ((dossierref03_Disk_Fuse.f k Y s.N).bind fun r24 => some (((pFuse D none s.N).1 == r24.1), (pFuse D none s.N).2.1, r24.2, (none : Option Int))) (fun y23 => (dossierref03_Disk_Fuse.f k Y s.N).bind fun r25 => some (((pFuse D none s.N).1 == r25.1), (pFuse D none s.N).2.1, r25.2, some y23))) = fun k => ((dossierref03_Disk_Fuse.f k Y s.N).bind fun r25 => some (((pFuse D none s.N).1 == r25.1), (pFuse D none s.N).2.1, r25.2, some q)) from rfl]
    refine Evt.bind (fuseR_ev Y s.N) ?_
    show Evt (fun _ => some (((pFuse D none s.N).1 == (rFuse Y s.N).1), _, _, some q)) _
    rw [e]; exact .pure _
  ·obtain ⟨D', p1, p2⟩ := crashP0 h hN s.Keeps hs.keeps
   exact ⟨D', none, _, Evt.bind (crashR_ev Y hok s.Keeps hs.keeps h.sur) (Evt.bind p1 (.pure _)), p2.mono (by omega)⟩
  ·exact two (room_rel h _) (roomP0 D _) (roomR_ev Y _)
 simp only [dossierplain_Step_Do_16.f]
 by_cases hc : (IntKind.i64.wrap (Int.tmod (IntKind.u64.wrap s.Op) 9) == 0) = true
 ·obtain ⟨D', fu', Y', h1, h2⟩ := key (IntKind.i64.wrap (Int.tmod (IntKind.u64.wrap s.Op) 9) == 0)
  exact ⟨D', fu', Y', Evt.pos hc h1, h2⟩
 ·obtain ⟨D', fu', Y', h1, h2⟩ := key (IntKind.i64.wrap (Int.tmod (IntKind.u64.wrap s.Op) 9) == 1)
  exact ⟨D', fu', Y', Evt.neg hc h1, h2⟩
theorem do1 {N : Nat} {D : VD} {p : Int} {Y : RD} (h : Rel N D (some p) Y) (hN : N ≤ 1000000000) (s : Stp) (hs : SOk s) : StepTo N (fun k => dossierplain_Step_Do_16xx.f k s D p Y) := by
 have hok := h.ok (by omega)
 have key : ∀ x : Bool, StepTo N (fun k => dossierplain_Step_Do_16xx.j0 k x s D p Y) := by
  intro x
  have suc : ∀ {G : Nat → Option (Bool × VD × RD × Option Int)}, (∀ k, dossierplain_Step_Do_16xx.j0 (k + 1) x s D p Y = G k) → StepTo N G → StepTo N (fun k => dossierplain_Step_Do_16xx.j0 k x s D p Y) := by
   rintro G hG ⟨D', fu', Y', h1, h2⟩
   exact ⟨D', fu', Y', Evt.succ hG h1, h2⟩
  have ite : ∀ {c : Prop} [Decidable c] {F G : Nat → Option (Bool × VD × RD × Option Int)}, StepTo N F → StepTo N G → StepTo N (fun k => if c then F k else G k) := by
   intro c _ F G ⟨D1, f1, Y1, a1, a2⟩ ⟨D2, f2, Y2, b1, b2⟩
   by_cases hc : c
   ·exact ⟨D1, f1, Y1, a1.pos hc, a2⟩
   ·exact ⟨D2, f2, Y2, b1.neg hc, b2⟩
  have two : ∀ {P : Int × VD × Option Int} {R : Int × RD} {F : Nat → Option (Int × VD × Int)} {G : Nat → Option (Int × RD)}, (P.1 = R.1 ∧ Rel (N + 1) P.2.1 P.2.2 R.2) → (Evt F (Thr P) ∧ P.2.2 = some (fu1 P.2.2)) → Evt G R →
    StepTo N (fun k => (F k).bind fun r9 => (G k).bind fun r10 => some ((r9.1 == r10.1), r9.2.1, r10.2, some r9.2.2)) := by
   rintro P R F G ⟨p1, p2⟩ ⟨p3, p4⟩ p5
   rw [p4] at p2
   refine ⟨P.2.1, some (fu1 P.2.2), R.2, Evt.bind p3 (Evt.bind p5 ?_), p2⟩
   have : (P.1 == R.1) = true := by simp [p1]
   show Evt (fun _ => some ((P.1 == R.1), P.2.1, R.2, some (fu1 P.2.2))) _
   rw [this]; exact .pure _
  refine suc (fun k => by rw [dossierplain_Step_Do_16xx.j0]) ?_
  refine ite ?_ (ite ?_ (ite ?_ (ite ?_ (ite ?_ (ite ?_ (ite ?_ ?_))))))
  ·obtain ⟨r, hr⟩ := spoil_ev s.B (by have := hs.b; omega)
   obtain ⟨p1, p2⟩ := append_rel h s.Name s.B
   obtain ⟨p3, p4⟩ := appendP1 D p s.Name s.B (lk_le h _) (by have := hs.b; omega)
   rw [p4] at p2
   refine ⟨_, some _, _, Evt.bind (clone_ev s.B hs.b) (Evt.bind p3 (Evt.bind hr (Evt.bind (appendR_ev Y hok s.Name s.B (by have := hs.b; omega)) ?_))), p2⟩
   have : ((pAppend D (some p) s.Name s.B).1 == (rAppend Y s.Name s.B).1) = true := by simp [p1]
   show Evt (fun _ => some (((pAppend D (some p) s.Name s.B).1 == (rAppend Y s.Name s.B).1), _, _, some _)) _
   rw [this]; exact .pure _
  ·exact two (sync_rel h _) (syncP1 D p _) (syncR_ev Y hok _)
  ·exact two (ren_rel h _ _) (renP1 D p _ _) (renR_ev Y hok _ _)
  ·exact two (trunc_rel h _ _) (truncP1 D p _ _) (truncR_ev Y hok _ _)
  ·exact two (rem_rel h _) (remP1 D p _) (remR_ev Y hok _)
  ·exact two (fuse_rel h _ hs.n) (fuseP1 D p _) (fuseR_ev Y _)
  ·obtain ⟨D', p1, p2⟩ := crashP1 h hN p s.Keeps hs.keeps
   exact ⟨D', none, _, Evt.bind (crashR_ev Y hok s.Keeps hs.keeps h.sur) (Evt.bind p1 (.pure _)), p2.mono (by omega)⟩
  ·obtain ⟨p1, p2⟩ := room_rel h s.N
   obtain ⟨p3, p4⟩ := roomP1 D p s.N
   rw [p4] at p2
   refine ⟨_, some p, _, Evt.bind p3 (Evt.bind (roomR_ev Y s.N) ?_), p2⟩
   have : ((pRoom D (some p) s.N).1 == (rRoom Y s.N).1) = true := by simp [p1]
   show Evt (fun _ => some (((pRoom D (some p) s.N).1 == (rRoom Y s.N).1), _, _, some p)) _
   rw [this]; exact .pure _
 simp only [dossierplain_Step_Do_16xx.f]
 by_cases hc : (IntKind.i64.wrap (Int.tmod (IntKind.u64.wrap s.Op) 9) == 0) = true
 ·obtain ⟨D', fu', Y', h1, h2⟩ := key (IntKind.i64.wrap (Int.tmod (IntKind.u64.wrap s.Op) 9) == 0)
  exact ⟨D', fu', Y', Evt.pos hc h1, h2⟩
 ·obtain ⟨D', fu', Y', h1, h2⟩ := key (IntKind.i64.wrap (Int.tmod (IntKind.u64.wrap s.Op) 9) == 1)
  exact ⟨D', fu', Y', Evt.neg hc h1, h2⟩
end Go.Abs.GenRd
