import Derived.Test.YtdpakmmkponfmaaPlZK
set_option linter.unusedVariables false
set_option linter.unusedSimpArgs false
set_option maxRecDepth 100000
set_option maxHeartbeats 4000000
namespace Go.Abs.GenZ
open Go.Abs
/-- one call, on both. -/
def Both (N : Nat) (p : Nat → Option (Int × VD)) (q : Nat → Option (Int × RD)) (r : Int × RD) : Prop := ∃ D', Evt p (r.1, D') ∧ Evt q r ∧ Rl N D' r.2
theorem both_of {N : Nat} {p : Nat → Option (Int × VD)} {q : Nat → Option (Int × RD)} {r : Int × RD} {x : Int × VD} (h1 : Evt p x) (h2 : x.1 = r.1 ∧ Rel N x.2 r.2) (h3 : Evt q r) (h4 : Byt r.2) : Both N p q r := by
 refine ⟨x.2, ?_, h3, h2.2, h4⟩
 rw [← h2.1]; exact h1
variable {N : Nat} {D : VD} {Y : RD}
theorem app_both (h : Rl N D Y) (hN : N ≤ 1000000000) (n : ByteArray) {b : List Int} (hu : U8s b) (hb : b.length ≤ 1099511627776) : Both (N + 1) (fun k => vdisk_Disk_Append.f k D n b) (fun k => dossierref03_Disk_Append_36.f k Y n b) (rAppend Y n b) :=
 both_of (appendP D n b (lk_le h.1 n) hb) (append_rel h.1 n b) (appendR_ev Y (h.1.ok (by omega)) n b (by omega)) (append_byt h.2 n hu)
theorem sync_both (h : Rl N D Y) (hN : N ≤ 1000000000) (n : ByteArray) : Both (N + 1) (fun k => vdisk_Disk_Sync.f k D n) (fun k => dossierref03_Disk_Sync_38.f k Y n) (rSync Y n) :=
 both_of (syncP D n) (sync_rel h.1 n) (syncR_ev Y (h.1.ok (by omega)) n) (sync_byt h.2 n)
theorem ren_both (h : Rl N D Y) (hN : N ≤ 1000000000) (n m : ByteArray) : Both (N + 1) (fun k => vdisk_Disk_Rename.f k D n m) (fun k => dossierref03_Disk_Rename_40.f k Y n m) (rRename Y n m) :=
 both_of (renP D n m) (ren_rel h.1 n m) (renR_ev Y (h.1.ok (by omega)) n m) (ren_byt h.2 n m)
theorem trunc_both (h : Rl N D Y) (hN : N ≤ 1000000000) (n : ByteArray) (m : Int) : Both (N + 1) (fun k => vdisk_Disk_Truncate.f k D n m) (fun k => dossierref03_Disk_Truncate_32.f k Y n m) (rTruncate Y n m) :=
 both_of (truncP D n m) (trunc_rel h.1 n m) (truncR_ev Y (h.1.ok (by omega)) n m) (trunc_byt h.2 n m)
theorem rem_both (h : Rl N D Y) (hN : N ≤ 1000000000) (n : ByteArray) : Both (N + 1) (fun k => vdisk_Disk_Remove.f k D n) (fun k => dossierref03_Disk_Remove_29.f k Y n) (rRemove Y n) :=
 both_of (remP D n) (rem_rel h.1 n) (remR_ev Y (h.1.ok (by omega)) n) (rem_byt h.2 n)
/-- a snapshot's file is made. -/
theorem fresh_both (h : Rl N D Y) (hN : N ≤ 100000000) (b : List Int) (hu : U8s b) (hb : b.length ≤ 1000000000000) : ∃ r, Both (N + 3) (fun k => journal_replace.f k D b) (fun k => dossierref04_fresh_30.f k Y b) r := by
 obtain ⟨D1, p1, q1, h1⟩ := app_both h (by omega) nn (frm_u8 hu) (by rw [frm_len]; omega)
 simp only [Both, journal_replace.f, dossierref04_fresh_30.f]
 by_cases e1 : (rAppend Y nn (frm b)).1 = 0
 ·obtain ⟨D2, p2, q2, h2⟩ := sync_both h1 (by omega) nn
  by_cases e2 : (rSync (rAppend Y nn (frm b)).2 nn).1 = 0
  ·obtain ⟨D3, p3, q3, h3⟩ := ren_both h2 (by omega) nn nm
   refine ⟨_, D3, (frameP_ev b (by omega)).bind (p1.bind (Evt.pos (by simpa using e1) (p2.bind (Evt.pos (by simpa using e2) (p3.bind (.pure _)))))),
    (frameR_ev b (by omega)).bind (q1.bind (Evt.neg (by simpa using e1) (q2.bind (Evt.neg (by simpa using e2) (q3.bind (.pure _)))))), h3⟩
  ·refine ⟨_, D2, (frameP_ev b (by omega)).bind (p1.bind (Evt.pos (by simpa using e1) (p2.bind (Evt.neg (by simpa using e2) (.pure _))))),
    (frameR_ev b (by omega)).bind (q1.bind (Evt.neg (by simpa using e1) (q2.bind (Evt.pos (by simpa using e2) (.pure _))))), h2.mono (by omega)⟩
 ·refine ⟨_, D1, (frameP_ev b (by omega)).bind (p1.bind (Evt.neg (by simpa using e1) (.pure _))), (frameR_ev b (by omega)).bind (q1.bind (Evt.pos (by simpa using e1) (.pure _))), h1.mono (by omega)⟩
/-- what both hand back. -/
def PairR (M : Nat) : Option Jn → Option Jr → Prop
 | none, none => True
 | some a, some b => a = ⟨(), b.Snap, b.L, b.Stop⟩ ∧ b.Snap.length ≤ 1000000000000 ∧ b.L.length ≤ 1000000000 + M ∧ ∀ x ∈ b.L, x.length ≤ 1000000000000
 | _, _ => False
def OpenR (N : Nat) (p : Nat → Option (Option Jn × Int × VD)) (q : Nat → Option (Option Jr × Int × RD)) : Prop := ∃ a b e D' Y', Evt p (a, e, D') ∧ Evt q (b, e, Y') ∧ PairR 0 a b ∧ Rl N D' Y'
theorem mem_len {f : Fl} (h : Rel N D Y) (hf : f ∈ Y.L) : f.B.length ≤ 4194304 := by have := mem_usum hf; have := h.us; omega
/-- a journal's file is read. -/
theorem scan_both (h : Rl N D Y) (hN : N ≤ 100000000) (b : List Int) (hu : U8s b) (hl : b.length ≤ 1000000000) :
  OpenR (N + 1) (fun k => (journal_Journal_scan.f k (⟨(), ([] : List Int), ([] : List (List Int)), false⟩ : journal_Journal) b D).bind fun r7 => optE r7.1 (some ((none : Option journal_Journal), r7.2.1, r7.2.2.2)) (fun y9 => some (some r7.2.2.1, r7.2.1, r7.2.2.2)))
   (fun k => (dossierref04_frames.f k b).bind fun r16 => if ((r16.1.length : Int) == 0) = true then (some ((none : Option dossierref04_Journal), 72, Y)) else (if (decide (r16.2 < (b.length : Int))) = true then ((dossierref03_Disk_Truncate_32.f k Y (⟨#[106, 111, 117, 114, 110, 97, 108]⟩ : ByteArray) r16.2).bind fun r19 => if (r19.1 != 0) = true then (some ((none : Option dossierref04_Journal), r19.1, r19.2)) else ((rd r16.1 0).bind fun v21 => if (decide (1 ≤ r16.1.length)) = true then (some (some (⟨(), v21, r16.1.drop 1, false⟩ : dossierref04_Journal), 0, r19.2)) else none)) else ((rd r16.1 0).bind fun v24 => if (decide (1 ≤ r16.1.length)) = true then (some (some (⟨(), v24, r16.1.drop 1, false⟩ : dossierref04_Journal), 0, Y)) else none))) := by
 obtain ⟨L, n, h1, ⟨h2, h3, h4⟩, h5⟩ := frames_scan b.length [] b [] (Nat.le_refl _) hu (by simp; omega) (Nat.le_refl _) (fun x hx => by cases hx)
 simp only [List.nil_append, List.length_nil] at h1 h2 h5
 have h5' : ∀ r, Evt (fun k => scanTail k L (n : Int) ⟨(), [], [], false⟩ b D) r → Evt (fun k => journal_Journal_scan.f k (⟨(), ([] : List Int), ([] : List (List Int)), false⟩ : journal_Journal) b D) r := fun r hr => h5 _ _ _ hr
 have h1' : Evt (fun k => dossierref04_frames.f k b) (L, (n : Int)) := h1
 cases L with
 | nil =>
  exact ⟨none, none, 72, D, Y, (h5' _ (Evt.pos (by rfl) (.pure _))).bind (.pure _), h1'.bind (Evt.pos (by rfl) (.pure _)), trivial, h.mono (by omega)⟩
 | cons s t =>
  have hne : ¬ (((s :: t : List (List Int)).length : Int) == 0) = true := by simp; omega
  have hc : decide (1 ≤ (s :: t : List (List Int)).length) = true := by simp
  have hr0 : rd (s :: t) 0 = some s := rfl
  have hj : ∀ (Z : VD), Evt (fun k => journal_Journal_scan.j1 k Z.fuse Z.room Z.used Z.dead Z.files (⟨(), ([] : List Int), ([] : List (List Int)), false⟩ : journal_Journal) (s :: t)) (some (), 0, (⟨(), s, t, false⟩ : journal_Journal), Z) := by
   intro Z
   refine Evt.succ (fun k => by rw [journal_Journal_scan.j1]) (Evt.some_bind hr0 (Evt.pos hc ?_))
   exact .pure _
  have hpair : PairR 0 (some ⟨(), s, t, false⟩) (some ⟨(), s, t, false⟩) := by
   refine ⟨rfl, by have := h4 s (by simp); show s.length ≤ _; omega, ?_, ?_⟩
   ·show t.length ≤ _
    simp only [List.length_cons] at h3; omega
   ·intro x hx
    have := h4 x (by simp [show x ∈ t from hx])
    omega
  by_cases hn : (n : Int) < (b.length : Int)
  ·obtain ⟨D1, p1, q1, g1⟩ := trunc_both h (by omega) nm (n : Int)
   by_cases e1 : (rTruncate Y nm (n : Int)).1 = 0
   ·refine ⟨some ⟨(), s, t, false⟩, some ⟨(), s, t, false⟩, 0, D1, (rTruncate Y nm (n : Int)).2, (h5' _ (Evt.neg hne (Evt.pos (by simpa using hn) (p1.bind (Evt.neg (by simpa using e1) (hj D1)))))).bind (.pure _), ?_, hpair, g1⟩
    refine h1'.bind (Evt.neg hne (Evt.pos (by simpa using hn) (q1.bind (Evt.neg (by simpa using e1) (Evt.some_bind hr0 (Evt.pos hc (.pure _)))))))
   ·exact ⟨none, none, (rTruncate Y nm (n : Int)).1, D1, (rTruncate Y nm (n : Int)).2, (h5' _ (Evt.neg hne (Evt.pos (by simpa using hn) (p1.bind (Evt.pos (by simpa using e1) (.pure _)))))).bind (.pure _), h1'.bind (Evt.neg hne (Evt.pos (by simpa using hn) (q1.bind (Evt.pos (by simpa using e1) (.pure _))))), trivial, g1⟩
  ·refine ⟨some ⟨(), s, t, false⟩, some ⟨(), s, t, false⟩, 0, D, Y, (h5' _ (Evt.neg hne (Evt.neg (by simpa using hn) (hj D)))).bind (.pure _), ?_, hpair, h.mono (by omega)⟩
   refine h1'.bind (Evt.neg hne (Evt.neg (by simpa using hn) (Evt.some_bind hr0 (Evt.pos hc (.pure _)))))
end Go.Abs.GenZ
