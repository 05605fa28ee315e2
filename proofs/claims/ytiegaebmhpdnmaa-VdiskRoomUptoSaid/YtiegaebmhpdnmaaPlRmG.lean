import Derived.Test.YtiegaebmhpdnmaaPlRmF
set_option linter.unusedVariables false
set_option linter.unusedSimpArgs false
set_option maxRecDepth 100000
set_option maxHeartbeats 4000000
namespace Go.Abs.GenRm
open Go.Abs

/-! ### a step -/
abbrev Stp := dossierplain_Step
structure SOk (s : Stp) : Prop where
 b : s.B.length ≤ 1000000000000
 keeps : s.Keeps.length < 9223372036854775807
 n : s.N ≤ 9223372036854775807
/-! ### the room is kept -/
structure Keep (Y Y' : RD) : Prop where
 most : Y'.Most = Y.Most
 us : (usum Y.L : Int) ≤ Y.Most → (usum Y'.L : Int) ≤ Y.Most
theorem Keep.refl (Y : RD) : Keep Y Y := ⟨rfl, fun h => h⟩
theorem keep_brn (Y : RD) : Keep Y (brn Y).2 := ⟨(brn_L Y).2, fun h => by rw [(brn_L Y).1]; exact h⟩
theorem keep_ch (Y : RD) (n : ByteArray) : Keep Y (chR Y n).2 := ⟨(chR_L Y n).2, fun h => by rw [(chR_L Y n).1]; exact h⟩
theorem keep_aft {Y : RD} {n : ByteArray} {g : RD → RD} (h : (chR Y n).1 = 0 → (g (chR Y n).2).Most = Y.Most ∧ usum (g (chR Y n).2).L ≤ usum Y.L) : Keep Y (aft (chR Y n) g).2 := by
 unfold aft
 by_cases h0 : (chR Y n).1 = 0
 ·rw [if_pos h0]
  exact ⟨(h h0).1, fun hu => by have := (h h0).2; show (usum (g (chR Y n).2).L : Int) ≤ _; omega⟩
 ·rw [if_neg h0]; exact keep_ch Y n
theorem keep_append {Y : RD} (h : Ok Y) (n : ByteArray) (b : List Int) : Keep Y (rAppend Y n b).2 := by
 unfold rAppend
 by_cases h1 : nb n = true
 ·rw [if_pos h1]
  by_cases h2 : Y.Off = true
  ·rw [if_pos h2]; exact .refl Y
  ·rw [if_neg h2]
   by_cases h3 : 0 < b.length ∧ (b.length : Int) > Y.Most - usum Y.L
   ·rw [if_pos h3]; exact .refl Y
   ·rw [if_neg h3]
    by_cases h4 : (brn Y).1 = 0
    ·rw [if_pos h4]
     refine ⟨(brn_L Y).2, fun hu => ?_⟩
     have h5 := usum_ins ⟨n, (old Y n).B ++ b, (old Y n).Sure⟩ Y.L h.srt
     have h6 : blen (fnd n Y.L) = (old Y n).B.length := by rw [old]; cases fnd n Y.L <;> rfl
     simp only [List.length_append] at h5
     rw [h6] at h5
     show (usum (ins ⟨n, (old Y n).B ++ b, (old Y n).Sure⟩ Y.L) : Int) ≤ _
     by_cases hb : 0 < b.length
     ·have := fun e => h3 ⟨hb, e⟩
      omega
     ·omega
    ·rw [if_neg h4]; exact keep_brn Y
 ·rw [if_neg h1]; exact .refl Y
theorem ins_us {Y : RD} {n : ByteArray} (h : Ok Y) (h0 : (chR Y n).1 = 0) (b : List Int) (q : Int) (hb : b.length ≤ (old Y n).B.length) : usum (ins ⟨n, b, q⟩ Y.L) ≤ usum Y.L := by
 have h5 := usum_ins ⟨n, b, q⟩ Y.L h.srt
 have h6 := (fd_old h0).1
 have h7 : usum (ins ⟨n, b, q⟩ Y.L) + blen (fnd n Y.L) = usum Y.L + b.length := h5
 rw [h6] at h7
 have h8 : usum (ins ⟨n, b, q⟩ Y.L) + (old Y n).B.length = usum Y.L + b.length := h7
 omega
theorem keep_sync {Y : RD} (h : Ok Y) (n : ByteArray) : Keep Y (rSync Y n).2 := keep_aft fun h0 => ⟨(chR_L Y n).2, ins_us h h0 _ _ (Nat.le_refl _)⟩
theorem keep_trunc {Y : RD} (h : Ok Y) (n : ByteArray) (m : Int) : Keep Y (rTruncate Y n m).2 := by
 unfold rTruncate
 split
 ·exact .refl Y
 ·exact keep_aft fun h0 => ⟨(chR_L Y n).2, ins_us h h0 _ _ (by rw [List.length_take]; omega)⟩
theorem keep_ren {Y : RD} (h : Ok Y) (n m : ByteArray) : Keep Y (rRename Y n m).2 := by
 unfold rRename
 split
 ·refine keep_aft fun h0 => ⟨(chR_L Y n).2, ?_⟩
  have h6 := (fd_old h0).1
  have h7 := usum_del n Y.L h.srt (by rw [h6]; rfl)
  rw [h6] at h7
  have h7' : usum (del n Y.L) + (old Y n).B.length = usum Y.L := h7
  have h8 : usum (ins ⟨m, (old Y n).B, (old Y n).Sure⟩ (del n Y.L)) + blen (fnd m (del n Y.L)) = usum (del n Y.L) + (old Y n).B.length := usum_ins ⟨m, (old Y n).B, (old Y n).Sure⟩ (del n Y.L) (del_srt n _ h.srt)
  show usum (ins ⟨m, (old Y n).B, (old Y n).Sure⟩ (del n Y.L)) ≤ _
  omega
 ·exact .refl Y
theorem keep_rem {Y : RD} (h : Ok Y) (n : ByteArray) : Keep Y (rRemove Y n).2 := keep_aft fun h0 => ⟨(chR_L Y n).2, by
 have h6 := (fd_old h0).1
 have h7 := usum_del n Y.L h.srt (by rw [h6]; rfl)
 show usum (del n Y.L) ≤ _
 omega⟩
theorem keep_fuse (Y : RD) (m : Int) : Keep Y (rFuse Y m).2 := by
 unfold rFuse
 split
 ·exact .refl Y
 ·exact ⟨rfl, fun h => h⟩
theorem keep_crash (Y : RD) (keeps : List Int) : Keep Y (⟨crs keeps 0 Y.L, Y.Most, -1, false⟩ : RD) := ⟨rfl, fun h => by have := crs_us keeps Y.L 0; show (usum (crs keeps 0 Y.L) : Int) ≤ _; omega⟩
def opn (s : Stp) : Int := IntKind.i64.wrap (Int.tmod (IntKind.u64.wrap s.Op) 9)
theorem opn_lt (s : Stp) : 0 ≤ opn s ∧ opn s < 9 := by
 unfold opn
 rw [wrap_u64]
 have h : 0 ≤ s.Op % 18446744073709551616 := by omega
 have e : Int.tmod (s.Op % 18446744073709551616) 9 = (s.Op % 18446744073709551616) % 9 := Int.tmod_eq_emod_of_nonneg h
 rw [e, wrap_i64 (by omega) (by omega)]
 omega
/-- what a step comes to: the answers are the same, and the disks. -/
def StepTo (N : Nat) (Y : RD) (f : Nat → Option (Bool × VD × RD × Option Int)) : Prop := ∃ D' fu' Y', Evt f (true, D', Y', fu') ∧ Rel (N + 1) D' fu' Y' ∧ Keep Y Y'
theorem lk_le {N : Nat} {D : VD} {fu : Option Int} {Y : RD} (h : Rel N D fu Y) (n : ByteArray) : (lk n D.files).b.length ≤ 1099511627776 := by
 rw [lk_len h.ag]
 have := blen_le (n := n) Y.L
 have := h.us
 omega
theorem spoil_ev (b : List Int) (h : b.length < 9223372036854775807) : ∃ r, Evt (fun k => dossierplain_Spoil.f k () b) r := by
 have := spoil_tot b h b.length 0 b (by omega) (by omega) rfl
 simpa [dossierplain_Spoil.f, Tot] using this
theorem clone_ev (b : List Int) (h : b.length ≤ 1000000000000) : Evt (fun k => bytes_Clone.f k b) b := by
 simp only [bytes_Clone.f]
 exact Evt.pos (by simp; omega) (.pure _)
theorem op_split {α : Type} {c0 c1 c2 c3 c4 c5 c6 c7 : Bool} : True := trivial
theorem do0 {N : Nat} {D : VD} {Y : RD} (h : Rel N D none Y) (hN : N ≤ 1000000000) (s : Stp) (hs : SOk s) (h8 : opn s ≠ 8) : StepTo N Y (fun k => dossierplain_Step_Do_16.f k s D Y) := by
 have hok := h.ok (by omega)
 have key : ∀ x : Bool, (x ≠ true → opn s ≠ 0 ∧ opn s ≠ 1) → StepTo N Y (fun k => dossierplain_Step_Do_16.j0 k x s D Y) := by
  intro x hx
  have suc : ∀ {G : Nat → Option (Bool × VD × RD × Option Int)}, (∀ k, dossierplain_Step_Do_16.j0 (k + 1) x s D Y = G k) → StepTo N Y G → StepTo N Y (fun k => dossierplain_Step_Do_16.j0 k x s D Y) := by
   rintro G hG ⟨D', fu', Y', h1, h2⟩
   exact ⟨D', fu', Y', Evt.succ hG h1, h2⟩
  have ite : ∀ {c : Prop} [Decidable c] {F G : Nat → Option (Bool × VD × RD × Option Int)}, (c → StepTo N Y F) → (¬ c → StepTo N Y G) → StepTo N Y (fun k => if c then F k else G k) := by
   intro c _ F G h1 h2
   by_cases hc : c
   ·obtain ⟨D1, f1, Y1, a1, a2⟩ := h1 hc; exact ⟨D1, f1, Y1, a1.pos hc, a2⟩
   ·obtain ⟨D2, f2, Y2, b1, b2⟩ := h2 hc; exact ⟨D2, f2, Y2, b1.neg hc, b2⟩
  have two : ∀ {P : Int × VD × Option Int} {R : Int × RD} {F : Nat → Option (Int × VD)} {G : Nat → Option (Int × RD)}, (P.1 = R.1 ∧ Rel (N + 1) P.2.1 P.2.2 R.2) → Keep Y R.2 → (Evt F (Two P) ∧ P.2.2 = none) → Evt G R →
    StepTo N Y (fun k => (F k).bind fun r9 => (G k).bind fun r10 => some ((r9.1 == r10.1), r9.2, r10.2, (none : Option Int))) := by
   rintro P R F G ⟨p1, p2⟩ pk ⟨p3, p4⟩ p5
   rw [p4] at p2
   refine ⟨P.2.1, none, R.2, Evt.bind p3 (Evt.bind p5 ?_), p2, pk⟩
   have : (P.1 == R.1) = true := by simp [p1]
   show Evt (fun _ => some ((P.1 == R.1), P.2.1, R.2, none)) _
   rw [this]; exact .pure _
  refine suc (fun k => by rw [dossierplain_Step_Do_16.j0]) ?_
  refine ite (fun _ => ?_) (fun c0 => ite (fun _ => ?_) (fun c2 => ite (fun _ => ?_) (fun c3 => ite (fun _ => ?_) (fun c4 => ite (fun _ => ?_) (fun c5 => ite (fun _ => ?_) (fun c6 => ite (fun _ => ?_) (fun c7 => ?_)))))))
  ·obtain ⟨r, hr⟩ := spoil_ev s.B (by have := hs.b; omega)
   obtain ⟨p1, p2⟩ := append_rel h s.Name s.B
   obtain ⟨p3, p4⟩ := appendP0 D s.Name s.B (lk_le h _) (by have := hs.b; omega)
   rw [p4] at p2
   refine ⟨_, none, _, Evt.bind (clone_ev s.B hs.b) (Evt.bind p3 (Evt.bind hr (Evt.bind (appendR_ev Y hok s.Name s.B (by have := hs.b; omega)) ?_))), p2, keep_append hok _ _⟩
   have : ((pAppend D none s.Name s.B).1 == (rAppend Y s.Name s.B).1) = true := by simp [p1]
   show Evt (fun _ => some (((pAppend D none s.Name s.B).1 == (rAppend Y s.Name s.B).1), _, _, none)) _
   rw [this]; exact .pure _
  ·exact two (sync_rel h _) (keep_sync hok _) (syncP0 D _) (syncR_ev Y hok _)
  ·exact two (ren_rel h _ _) (keep_ren hok _ _) (renP0 D _ _) (renR_ev Y hok _ _)
  ·exact two (trunc_rel h _ _) (keep_trunc hok _ _) (truncP0 D _ _) (truncR_ev Y hok _ _)
  ·exact two (rem_rel h _) (keep_rem hok _) (remP0 D _) (remR_ev Y hok _)
  ·obtain ⟨p1, p2⟩ := fuse_rel h s.N hs.n
   have p3 := fuseP0 D s.N
   refine ⟨(pFuse D none s.N).2.1, (pFuse D none s.N).2.2, (rFuse Y s.N).2, Evt.bind p3 ?_, p2, keep_fuse Y _⟩
   have e : ((pFuse D none s.N).1 == (rFuse Y s.N).1) = true := by simp [p1]
   cases hq : (pFuse D none s.N).2.2 with
   | none =>
    rw [show (fun k => optE (none : Option Int) ((dossierref03_Disk_Fuse.f k Y s.N).bind fun r24 => some (((pFuse D none s.N).1 == r24.1), (pFuse D none s.N).2.1, r24.2, (none : Option Int))) (fun y23 => (dossierref03_Disk_Fuse.f k Y s.N).bind fun r25 => some (((pFuse D none s.N).1 == r25.1), (pFuse D none s.N).2.1, r25.2, some y23))) = fun k => ((dossierref03_Disk_Fuse.f k Y s.N).bind fun r24 => some (((pFuse D none s.N).1 == r24.1), (pFuse D none s.N).2.1, r24.2, (none : Option Int))) from rfl]
    refine Evt.bind (fuseR_ev Y s.N) ?_
    show Evt (fun _ => some (((pFuse D none s.N).1 == (rFuse Y s.N).1), _, _, none)) _
    rw [e]; exact .pure _
   | some q =>
    rw [show (fun k => optE (some q) ((dossierref03_Disk_Fuse.f k Y s.N).bind fun r24 => some (((pFuse D none s.N).1 == r24.1), (pFuse D none s.N).2.1, r24.2, (none : Option Int))) (fun y23 => (dossierref03_Disk_Fuse.f k Y s.N).bind fun r25 => some (((pFuse D none s.N).1 == r25.1), (pFuse D none s.N).2.1, r25.2, some y23))) = fun k => ((dossierref03_Disk_Fuse.f k Y s.N).bind fun r25 => some (((pFuse D none s.N).1 == r25.1), (pFuse D none s.N).2.1, r25.2, some q)) from rfl]
    refine Evt.bind (fuseR_ev Y s.N) ?_
    show Evt (fun _ => some (((pFuse D none s.N).1 == (rFuse Y s.N).1), _, _, some q)) _
    rw [e]; exact .pure _
  ·obtain ⟨D', p1, p2⟩ := crashP0 h hN s.Keeps hs.keeps
   exact ⟨D', none, _, Evt.bind (crashR_ev Y hok s.Keeps hs.keeps h.sur) (Evt.bind p1 (.pure _)), p2.mono (by omega), keep_crash Y _⟩
  ·exfalso
   have h9 := opn_lt s
   obtain ⟨x0, x1⟩ := hx c0
   unfold opn at *
   simp only [beq_iff_eq] at c2 c3 c4 c5 c6 c7
   omega
 simp only [dossierplain_Step_Do_16.f]
 by_cases hc : (IntKind.i64.wrap (Int.tmod (IntKind.u64.wrap s.Op) 9) == 0) = true
 ·obtain ⟨D', fu', Y', h1, h2⟩ := key (IntKind.i64.wrap (Int.tmod (IntKind.u64.wrap s.Op) 9) == 0) (fun e => absurd hc e)
  exact ⟨D', fu', Y', Evt.pos hc h1, h2⟩
 ·obtain ⟨D', fu', Y', h1, h2⟩ := key (IntKind.i64.wrap (Int.tmod (IntKind.u64.wrap s.Op) 9) == 1) (fun e => ⟨by unfold opn; simpa using hc, by unfold opn; simpa using e⟩)
  exact ⟨D', fu', Y', Evt.neg hc h1, h2⟩
theorem do1 {N : Nat} {D : VD} {p : Int} {Y : RD} (h : Rel N D (some p) Y) (hN : N ≤ 1000000000) (s : Stp) (hs : SOk s) (h8 : opn s ≠ 8) : StepTo N Y (fun k => dossierplain_Step_Do_16xx.f k s D p Y) := by
 have hok := h.ok (by omega)
 have key : ∀ x : Bool, (x ≠ true → opn s ≠ 0 ∧ opn s ≠ 1) → StepTo N Y (fun k => dossierplain_Step_Do_16xx.j0 k x s D p Y) := by
  intro x hx
  have suc : ∀ {G : Nat → Option (Bool × VD × RD × Option Int)}, (∀ k, dossierplain_Step_Do_16xx.j0 (k + 1) x s D p Y = G k) → StepTo N Y G → StepTo N Y (fun k => dossierplain_Step_Do_16xx.j0 k x s D p Y) := by
   rintro G hG ⟨D', fu', Y', h1, h2⟩
   exact ⟨D', fu', Y', Evt.succ hG h1, h2⟩
  have ite : ∀ {c : Prop} [Decidable c] {F G : Nat → Option (Bool × VD × RD × Option Int)}, (c → StepTo N Y F) → (¬ c → StepTo N Y G) → StepTo N Y (fun k => if c then F k else G k) := by
   intro c _ F G h1 h2
   by_cases hc : c
   ·obtain ⟨D1, f1, Y1, a1, a2⟩ := h1 hc; exact ⟨D1, f1, Y1, a1.pos hc, a2⟩
   ·obtain ⟨D2, f2, Y2, b1, b2⟩ := h2 hc; exact ⟨D2, f2, Y2, b1.neg hc, b2⟩
  have two : ∀ {P : Int × VD × Option Int} {R : Int × RD} {F : Nat → Option (Int × VD × Int)} {G : Nat → Option (Int × RD)}, (P.1 = R.1 ∧ Rel (N + 1) P.2.1 P.2.2 R.2) → Keep Y R.2 → (Evt F (Thr P) ∧ P.2.2 = some (fu1 P.2.2)) → Evt G R →
    StepTo N Y (fun k => (F k).bind fun r9 => (G k).bind fun r10 => some ((r9.1 == r10.1), r9.2.1, r10.2, some r9.2.2)) := by
   rintro P R F G ⟨p1, p2⟩ pk ⟨p3, p4⟩ p5
   rw [p4] at p2
   refine ⟨P.2.1, some (fu1 P.2.2), R.2, Evt.bind p3 (Evt.bind p5 ?_), p2, pk⟩
   have : (P.1 == R.1) = true := by simp [p1]
   show Evt (fun _ => some ((P.1 == R.1), P.2.1, R.2, some (fu1 P.2.2))) _
   rw [this]; exact .pure _
  refine suc (fun k => by rw [dossierplain_Step_Do_16xx.j0]) ?_
  refine ite (fun _ => ?_) (fun c0 => ite (fun _ => ?_) (fun c2 => ite (fun _ => ?_) (fun c3 => ite (fun _ => ?_) (fun c4 => ite (fun _ => ?_) (fun c5 => ite (fun _ => ?_) (fun c6 => ite (fun _ => ?_) (fun c7 => ?_)))))))
  ·obtain ⟨r, hr⟩ := spoil_ev s.B (by have := hs.b; omega)
   obtain ⟨p1, p2⟩ := append_rel h s.Name s.B
   obtain ⟨p3, p4⟩ := appendP1 D p s.Name s.B (lk_le h _) (by have := hs.b; omega)
   rw [p4] at p2
   refine ⟨_, some _, _, Evt.bind (clone_ev s.B hs.b) (Evt.bind p3 (Evt.bind hr (Evt.bind (appendR_ev Y hok s.Name s.B (by have := hs.b; omega)) ?_))), p2, keep_append hok _ _⟩
   have : ((pAppend D (some p) s.Name s.B).1 == (rAppend Y s.Name s.B).1) = true := by simp [p1]
   show Evt (fun _ => some (((pAppend D (some p) s.Name s.B).1 == (rAppend Y s.Name s.B).1), _, _, some _)) _
   rw [this]; exact .pure _
  ·exact two (sync_rel h _) (keep_sync hok _) (syncP1 D p _) (syncR_ev Y hok _)
  ·exact two (ren_rel h _ _) (keep_ren hok _ _) (renP1 D p _ _) (renR_ev Y hok _ _)
  ·exact two (trunc_rel h _ _) (keep_trunc hok _ _) (truncP1 D p _ _) (truncR_ev Y hok _ _)
  ·exact two (rem_rel h _) (keep_rem hok _) (remP1 D p _) (remR_ev Y hok _)
  ·exact two (fuse_rel h _ hs.n) (keep_fuse Y _) (fuseP1 D p _) (fuseR_ev Y _)
  ·obtain ⟨D', p1, p2⟩ := crashP1 h hN p s.Keeps hs.keeps
   exact ⟨D', none, _, Evt.bind (crashR_ev Y hok s.Keeps hs.keeps h.sur) (Evt.bind p1 (.pure _)), p2.mono (by omega), keep_crash Y _⟩
  ·exfalso
   have h9 := opn_lt s
   obtain ⟨x0, x1⟩ := hx c0
   unfold opn at *
   simp only [beq_iff_eq] at c2 c3 c4 c5 c6 c7
   omega
 simp only [dossierplain_Step_Do_16xx.f]
 by_cases hc : (IntKind.i64.wrap (Int.tmod (IntKind.u64.wrap s.Op) 9) == 0) = true
 ·obtain ⟨D', fu', Y', h1, h2⟩ := key (IntKind.i64.wrap (Int.tmod (IntKind.u64.wrap s.Op) 9) == 0) (fun e => absurd hc e)
  exact ⟨D', fu', Y', Evt.pos hc h1, h2⟩
 ·obtain ⟨D', fu', Y', h1, h2⟩ := key (IntKind.i64.wrap (Int.tmod (IntKind.u64.wrap s.Op) 9) == 1) (fun e => ⟨by unfold opn; simpa using hc, by unfold opn; simpa using e⟩)
  exact ⟨D', fu', Y', Evt.neg hc h1, h2⟩
end Go.Abs.GenRm
