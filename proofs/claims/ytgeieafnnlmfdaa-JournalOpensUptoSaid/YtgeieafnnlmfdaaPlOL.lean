import Derived.Test.YtgeieafnnlmfdaaPlOK
set_option linter.unusedVariables false
set_option linter.unusedSimpArgs false
set_option maxRecDepth 100000
set_option maxHeartbeats 4000000
namespace Go.Abs.GenO
open Go.Abs
/-- one call, on both. -/
def Both (N : Nat) (p : Nat → Option (Int × VD)) (q : Nat → Option (Int × RD)) (r : Int × RD) : Prop := ∃ D', Evt p (r.1, D') ∧ Evt q r ∧ Rel N D' none r.2
theorem both_of {N : Nat} {p : Nat → Option (Int × VD)} {q : Nat → Option (Int × RD)} {r : Int × RD} {x : Int × VD × Option Int} (h1 : Evt p (Two x) ∧ x.2.2 = none) (h2 : x.1 = r.1 ∧ Rel N x.2.1 x.2.2 r.2) (h3 : Evt q r) : Both N p q r := by
 obtain ⟨h1, h4⟩ := h1
 obtain ⟨h2, h5⟩ := h2
 rw [h4] at h5
 refine ⟨x.2.1, ?_, h3, h5⟩
 rw [← h2]; exact h1
theorem lk_le' {N : Nat} {D : VD} {Y : RD} (h : Rel N D none Y) (n : ByteArray) : (lk n D.files).b.length ≤ 1099511627776 := lk_le h n
variable {N : Nat} {D : VD} {Y : RD}
theorem app_both (h : Rel N D none Y) (hN : N ≤ 1000000000) (n : ByteArray) (b : List Int) (hb : b.length ≤ 1099511627776) : Both (N + 1) (fun k => vdisk_Disk_Append.f k D n b) (fun k => dossierref03_Disk_Append_40.f k Y n b) (rAppend Y n b) :=
 both_of (appendP0 D n b (lk_le' h n) hb) (append_rel h n b) (appendR_ev Y (h.ok (by omega)) n b (by omega))
theorem sync_both (h : Rel N D none Y) (hN : N ≤ 1000000000) (n : ByteArray) : Both (N + 1) (fun k => vdisk_Disk_Sync.f k D n) (fun k => dossierref03_Disk_Sync_41.f k Y n) (rSync Y n) :=
 both_of (syncP0 D n) (sync_rel h n) (syncR_ev Y (h.ok (by omega)) n)
theorem ren_both (h : Rel N D none Y) (hN : N ≤ 1000000000) (n m : ByteArray) : Both (N + 1) (fun k => vdisk_Disk_Rename.f k D n m) (fun k => dossierref03_Disk_Rename_43.f k Y n m) (rRename Y n m) :=
 both_of (renP0 D n m) (ren_rel h n m) (renR_ev Y (h.ok (by omega)) n m)
theorem trunc_both (h : Rel N D none Y) (hN : N ≤ 1000000000) (n : ByteArray) (m : Int) : Both (N + 1) (fun k => vdisk_Disk_Truncate.f k D n m) (fun k => dossierref03_Disk_Truncate_45.f k Y n m) (rTruncate Y n m) :=
 both_of (truncP0 D n m) (trunc_rel h n m) (truncR_ev Y (h.ok (by omega)) n m)
theorem rem_both (h : Rel N D none Y) (hN : N ≤ 1000000000) (n : ByteArray) : Both (N + 1) (fun k => vdisk_Disk_Remove.f k D n) (fun k => dossierref03_Disk_Remove_46.f k Y n) (rRemove Y n) :=
 both_of (remP0 D n) (rem_rel h n) (remR_ev Y (h.ok (by omega)) n)
theorem Rel.up {N M : Nat} {D : VD} {Y : RD} (h : Rel N D none Y) (hN : N ≤ M) : Rel M D none Y := h.mono hN
/-- a snapshot's file is made. -/
theorem fresh_both (h : Rel N D none Y) (hN : N ≤ 100000000) (b : List Int) (hb : b.length ≤ 1000000000000) : ∃ r, Both (N + 3) (fun k => journal_replace.f k D b) (fun k => dossierref04_fresh_71.f k Y b) r := by
 obtain ⟨D1, p1, q1, h1⟩ := app_both h (by omega) nn (frm b) (by rw [frm_len]; omega)
 simp only [Both, journal_replace.f, dossierref04_fresh_71.f]
 by_cases e1 : (rAppend Y nn (frm b)).1 = 0
 ·obtain ⟨D2, p2, q2, h2⟩ := sync_both h1 (by omega) nn
  by_cases e2 : (rSync (rAppend Y nn (frm b)).2 nn).1 = 0
  ·obtain ⟨D3, p3, q3, h3⟩ := ren_both h2 (by omega) nn nm
   refine ⟨_, D3, (frameP_ev b (by omega)).bind (p1.bind (Evt.pos (by simpa using e1) (p2.bind (Evt.pos (by simpa using e2) (p3.bind (.pure _)))))),
    (frameR_ev b (by omega)).bind (q1.bind (Evt.neg (by simpa using e1) (q2.bind (Evt.neg (by simpa using e2) (q3.bind (.pure _)))))), h3⟩
  ·refine ⟨_, D2, (frameP_ev b (by omega)).bind (p1.bind (Evt.pos (by simpa using e1) (p2.bind (Evt.neg (by simpa using e2) (.pure _))))),
    (frameR_ev b (by omega)).bind (q1.bind (Evt.neg (by simpa using e1) (q2.bind (Evt.pos (by simpa using e2) (.pure _))))), h2.up (by omega)⟩
 ·refine ⟨_, D1, (frameP_ev b (by omega)).bind (p1.bind (Evt.neg (by simpa using e1) (.pure _))), (frameR_ev b (by omega)).bind (q1.bind (Evt.pos (by simpa using e1) (.pure _))), h1.up (by omega)⟩
/-- what both hand back. -/
def PairR : Option Jn → Option Jr → Prop
 | none, none => True
 | some a, some b => a = ⟨(), b.Snap, b.L, false⟩ ∧ b.Stop = false ∧ b.Snap.length ≤ 1000000000000 ∧ b.L.length ≤ 1000000000000 ∧ ∀ x ∈ b.L, x.length ≤ 1000000000000
 | _, _ => False
def OpenR (N : Nat) (p : Nat → Option (Option Jn × Int × VD)) (q : Nat → Option (Option Jr × Int × RD)) : Prop := ∃ a b e D' Y', Evt p (a, e, D') ∧ Evt q (b, e, Y') ∧ PairR a b ∧ Rel N D' none Y'
end Go.Abs.GenO
