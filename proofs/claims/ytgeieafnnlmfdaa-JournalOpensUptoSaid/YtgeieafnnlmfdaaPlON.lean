import Derived.Test.YtgeieafnnlmfdaaPlOM
set_option linter.unusedVariables false
set_option linter.unusedSimpArgs false
set_option maxRecDepth 100000
set_option maxHeartbeats 4000000
namespace Go.Abs.GenO
open Go.Abs
variable {N : Nat} {D : VD} {Y : RD}
theorem open_j0 (h : Rel N D none Y) (hN : N ≤ 100000000) (hO : Y.Off = false) (hb : Byt Y) (e0 : Int) (first : List Int) (hf : first.length ≤ 1000000000000) :
  OpenR (N + 3) (fun k => journal_Open.j0 k true first (e0, D)) (fun k => dossierref04_Open_51.j0 k Y.Most Y.Burns Y.Off Y.L first) := by
 have hr : Evt (fun k => vdisk_Disk_Read.f k D nm) (rdR Y nm) := by rw [← rd_eq h]; exact readP0 h nm
 have hq : Evt (fun k => dossierref03_Disk_Read.f k Y nm) (rdR Y nm) := readR_ev Y (h.ok (by omega)) nm
 unfold rdR at hr hq
 rw [thr_off hO] at hr hq
 cases hm : fnd nm Y.L with
 | none =>
  simp only [hm] at hr hq
  rw [if_pos (by decide)] at hr hq
  by_cases hl : (first.length : Int) > 4194304
  ·refine ⟨none, none, 1, D, Y, ?_, ?_, trivial, h.up (by omega)⟩
   ·refine Evt.succ (fun k => by rw [journal_Open.j0]) ?_
    refine Evt.pos rfl ?_
    refine Evt.bind hr ?_
    exact Evt.neg (by decide) (Evt.neg (by decide) (Evt.pos (by simpa using hl) (.pure _)))
   ·refine Evt.succ (fun k => by rw [dossierref04_Open_51.j0]) ?_
    refine Evt.bind hq ?_
    exact Evt.pos (by decide) (Evt.pos (by simpa using hl) (.pure _))
  ·obtain ⟨r, D1, p1, q1, g1⟩ := fresh_both h hN first hf
   by_cases e1 : r.1 = 0
   ·refine ⟨some ⟨(), first, [], false⟩, some ⟨(), first, [], false⟩, 0, D1, r.2, ?_, ?_, ⟨rfl, rfl, hf, Nat.zero_le _, fun x hx => by cases hx⟩, g1⟩
    ·refine Evt.succ (fun k => by rw [journal_Open.j0]) ?_
     refine Evt.pos rfl ?_
     refine Evt.bind hr ?_
     refine Evt.neg (by decide) (Evt.neg (by decide) (Evt.neg (by simpa using hl) (p1.bind (Evt.neg (by simpa using e1) ?_))))
     exact (bclone_ev first (by omega)).bind (.pure _)
    ·refine Evt.succ (fun k => by rw [dossierref04_Open_51.j0]) ?_
     refine Evt.bind hq ?_
     refine Evt.pos (by decide) (Evt.neg (by simpa using hl) (q1.bind (Evt.neg (by simpa using e1) ?_)))
     exact Evt.pos (by rw [decide_eq_true_eq]; simp only [List.length_nil]; omega) (.pure _)
   ·refine ⟨none, none, r.1, D1, r.2, ?_, ?_, trivial, g1⟩
    ·refine Evt.succ (fun k => by rw [journal_Open.j0]) ?_
     refine Evt.pos rfl ?_
     refine Evt.bind hr ?_
     exact Evt.neg (by decide) (Evt.neg (by decide) (Evt.neg (by simpa using hl) (p1.bind (Evt.pos (by simpa using e1) (.pure _)))))
    ·refine Evt.succ (fun k => by rw [dossierref04_Open_51.j0]) ?_
     refine Evt.bind hq ?_
     exact Evt.pos (by decide) (Evt.neg (by simpa using hl) (q1.bind (Evt.pos (by simpa using e1) (.pure _))))
 | some f =>
  simp only [hm] at hr hq
  rw [if_neg (by decide)] at hr hq
  have hfm := (fnd_mem hm).1
  obtain ⟨a, b, e, D', Y', p1, q1, g1, g2⟩ := scan_both h hN f.B (hb f hfm) (by have := mem_len h hfm; omega)
  refine ⟨a, b, e, D', Y', ?_, ?_, g1, g2.up (by omega)⟩
  ·refine Evt.succ (fun k => by rw [journal_Open.j0]) ?_
   refine Evt.pos rfl ?_
   refine Evt.bind hr ?_
   exact Evt.pos (by rfl) p1
  ·refine Evt.succ (fun k => by rw [dossierref04_Open_51.j0]) ?_
   refine Evt.bind hq ?_
   exact Evt.neg (by simp) q1
theorem open_both (h : Rel N D none Y) (hN : N ≤ 10000000) (hO : Y.Off = false) (hb : Byt Y) (first : List Int) (hf : first.length ≤ 1000000000000) :
  OpenR (N + 4) (fun k => journal_Open.f k D first) (fun k => dossierref04_Open_51.f k Y first) := by
 have hB : Y.Burns = -1 := h.fuse
 have hbr : brn Y = (0, Y) := by rw [brn, if_neg (by omega), if_neg (by omega)]
 obtain ⟨D1, p1, q1, h1⟩ := rem_both h (by omega) nn
 have hq : Evt (fun k => dossierref03_Disk_Read.f k Y nn) (rdR Y nn) := readR_ev Y (h.ok (by omega)) nn
 unfold rdR at hq
 rw [thr_off hO] at hq
 simp only [journal_Open.f, dossierref04_Open_51.f]
 cases hm : fnd nn Y.L with
 | none =>
  have hR : rRemove Y nn = (33, Y) := by
   have : thr Y nn = (zF, 33) := by rw [thr_off hO, hm]
   rw [rRemove, chR, this, if_neg (by simp), aft, if_neg (by simp)]
  rw [hR] at p1 h1
  simp only [hm] at hq
  rw [if_pos (by decide)] at hq
  obtain ⟨a, b, e, D', Y', x1, x2, x3, x4⟩ := open_j0 h1 (by omega) hO hb 33 first hf
  refine ⟨a, b, e, D', Y', p1.bind (Evt.neg (by simp) x1), Evt.neg (by rw [hO]; decide) (hq.bind (Evt.neg (by decide) x2)), x3, x4⟩
 | some f =>
  have hR : rRemove Y nn = (0, ⟨del nn Y.L, Y.Most, Y.Burns, Y.Off⟩) := by
   have : thr Y nn = (f, 0) := by rw [thr_off hO, hm]
   rw [rRemove, chR, this, if_pos rfl, hbr, aft, if_pos rfl]
  rw [hR] at p1 h1 q1
  simp only [hm] at hq
  rw [if_neg (by decide)] at hq
  obtain ⟨a, b, e, D', Y', x1, x2, x3, x4⟩ := open_j0 h1 (by omega) hO (fun g hg => hb g (del_mem nn Y.L g hg)) 0 first hf
  refine ⟨a, b, e, D', Y', p1.bind (Evt.pos (by rfl) x1), Evt.neg (by rw [hO]; decide) (hq.bind (Evt.pos (by rfl) (q1.bind (Evt.neg (by simp) x2)))), x3, x4⟩
end Go.Abs.GenO
