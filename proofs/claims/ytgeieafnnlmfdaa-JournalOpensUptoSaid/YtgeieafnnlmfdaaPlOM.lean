import Derived.Test.YtgeieafnnlmfdaaPlOL
set_option linter.unusedVariables false
set_option linter.unusedSimpArgs false
set_option maxRecDepth 100000
set_option maxHeartbeats 4000000
namespace Go.Abs.GenO
open Go.Abs
variable {N : Nat} {D : VD} {Y : RD}
def Byt (Y : RD) : Prop := ∀ f ∈ Y.L, U8s f.B
theorem thr_off {Y : RD} (hO : Y.Off = false) (n : ByteArray) : thr Y n = match fnd n Y.L with | some f => (f, 0) | none => (zF, 33) := by rw [thr, if_neg (by rw [hO]; decide)]; cases fnd n Y.L <;> rfl
theorem mem_len {f : Fl} (h : Rel N D none Y) (hf : f ∈ Y.L) : f.B.length ≤ 4194304 := by have := mem_usum hf; have := h.us; omega
/-- a journal's file is read. -/
theorem scan_both (h : Rel N D none Y) (hN : N ≤ 100000000) (b : List Int) (hu : U8s b) (hl : b.length ≤ 100000000000) :
  OpenR (N + 1) (fun k => (journal_Journal_scan.f k (⟨(), ([] : List Int), ([] : List (List Int)), false⟩ : journal_Journal) b D).bind fun r7 => optE r7.1 (some ((none : Option journal_Journal), r7.2.1, r7.2.2.2)) (fun y9 => some (some (⟨(), r7.2.2.1.snap, r7.2.2.1.l, r7.2.2.1.stopped⟩ : journal_Journal), r7.2.1, r7.2.2.2)))
   (fun k => (dossierref04_frames.f k b).bind fun r16 => if ((r16.1.length : Int) == 0) = true then (some ((none : Option dossierref04_Journal), 72, Y)) else (if (decide (r16.2 < (b.length : Int))) = true then ((dossierref03_Disk_Truncate_45.f k Y (⟨#[106, 111, 117, 114, 110, 97, 108]⟩ : ByteArray) r16.2).bind fun r19 => if (r19.1 != 0) = true then (some ((none : Option dossierref04_Journal), r19.1, r19.2)) else ((rd r16.1 0).bind fun v21 => if (decide (0 ≤ 1 ∧ 1 ≤ (r16.1.length : Int) ∧ (r16.1.length : Int) ≤ (r16.1.length : Int))) = true then (some (some (⟨(), v21, sub r16.1 1 (r16.1.length : Int), false⟩ : dossierref04_Journal), 0, r19.2)) else none)) else ((rd r16.1 0).bind fun v23 => if (decide (0 ≤ 1 ∧ 1 ≤ (r16.1.length : Int) ∧ (r16.1.length : Int) ≤ (r16.1.length : Int))) = true then (some (some (⟨(), v23, sub r16.1 1 (r16.1.length : Int), false⟩ : dossierref04_Journal), 0, Y)) else none))) := by
 obtain ⟨L, n, h1, ⟨h2, h3, h4⟩, h5⟩ := frames_scan b.length [] b [] (Nat.le_refl _) hu (by simpa using hl) (Nat.le_refl _) (fun x hx => by cases hx)
 simp only [List.nil_append, List.length_nil] at h1 h2 h5
 have h5' : ∀ r, Evt (fun k => scanTail k L (n : Int) ⟨(), [], [], false⟩ b D) r → Evt (fun k => journal_Journal_scan.f k (⟨(), ([] : List Int), ([] : List (List Int)), false⟩ : journal_Journal) b D) r := fun r hr => h5 _ _ _ hr
 have h1' : Evt (fun k => dossierref04_frames.f k b) (L, (n : Int)) := h1
 cases L with
 | nil =>
  exact ⟨none, none, 72, D, Y, (h5' _ (Evt.pos (by rfl) (.pure _))).bind (.pure _), h1'.bind (Evt.pos (by rfl) (.pure _)), trivial, h.up (by omega)⟩
 | cons s t =>
  have hne : ¬ (((s :: t : List (List Int)).length : Int) == 0) = true := by simp; omega
  have hc : decide (0 ≤ 1 ∧ 1 ≤ ((s :: t : List (List Int)).length : Int) ∧ ((s :: t : List (List Int)).length : Int) ≤ ((s :: t : List (List Int)).length : Int)) = true := by rw [decide_eq_true_eq]; simp only [List.length_cons]; omega
  have hr0 : rd (s :: t) 0 = some s := rfl
  have hj : ∀ (Z : VD), Evt (fun k => journal_Journal_scan.j1 k Z.room Z.used Z.dead Z.files (⟨(), ([] : List Int), ([] : List (List Int)), false⟩ : journal_Journal) (s :: t)) (some (), 0, (⟨(), s, sub (s :: t) 1 ((s :: t).length : Int), false⟩ : journal_Journal), Z) := by
   intro Z
   refine Evt.succ (fun k => by rw [journal_Journal_scan.j1]) (Evt.some_bind hr0 (Evt.pos hc ?_))
   exact .pure _
  have hpair : PairR (some ⟨(), s, sub (s :: t) 1 ((s :: t).length : Int), false⟩) (some ⟨(), s, sub (s :: t) 1 ((s :: t).length : Int), false⟩) := by
   have es : sub (s :: t) 1 ((s :: t).length : Int) = t := by simp [sub]
   refine ⟨rfl, rfl, by have := h4 s (by simp); show s.length ≤ _; omega, ?_, ?_⟩
   ·show (sub (s :: t) 1 ((s :: t).length : Int)).length ≤ _
    rw [es]; simp only [List.length_cons] at h3; omega
   ·intro x hx
    have hx' : x ∈ sub (s :: t) 1 ((s :: t).length : Int) := hx
    rw [es] at hx'
    have := h4 x (by simp [hx'])
    omega
  by_cases hn : (n : Int) < (b.length : Int)
  ·obtain ⟨D1, p1, q1, g1⟩ := trunc_both h (by omega) nm (n : Int)
   by_cases e1 : (rTruncate Y nm (n : Int)).1 = 0
   ·refine ⟨some ⟨(), s, sub (s :: t) 1 ((s :: t).length : Int), false⟩, some ⟨(), s, sub (s :: t) 1 ((s :: t).length : Int), false⟩, 0, D1, (rTruncate Y nm (n : Int)).2, (h5' _ (Evt.neg hne (Evt.pos (by simpa using hn) (p1.bind (Evt.neg (by simpa using e1) (hj D1)))))).bind (.pure _), ?_, hpair, g1⟩
    refine h1'.bind (Evt.neg hne (Evt.pos (by simpa using hn) (q1.bind (Evt.neg (by simpa using e1) (Evt.some_bind hr0 (Evt.pos hc (.pure _)))))))
   ·exact ⟨none, none, (rTruncate Y nm (n : Int)).1, D1, (rTruncate Y nm (n : Int)).2, (h5' _ (Evt.neg hne (Evt.pos (by simpa using hn) (p1.bind (Evt.pos (by simpa using e1) (.pure _)))))).bind (.pure _), h1'.bind (Evt.neg hne (Evt.pos (by simpa using hn) (q1.bind (Evt.pos (by simpa using e1) (.pure _))))), trivial, g1⟩
  ·refine ⟨some ⟨(), s, sub (s :: t) 1 ((s :: t).length : Int), false⟩, some ⟨(), s, sub (s :: t) 1 ((s :: t).length : Int), false⟩, 0, D, Y, (h5' _ (Evt.neg hne (Evt.neg (by simpa using hn) (hj D)))).bind (.pure _), ?_, hpair, h.up (by omega)⟩
   refine h1'.bind (Evt.neg hne (Evt.neg (by simpa using hn) (Evt.some_bind hr0 (Evt.pos hc (.pure _)))))
end Go.Abs.GenO
