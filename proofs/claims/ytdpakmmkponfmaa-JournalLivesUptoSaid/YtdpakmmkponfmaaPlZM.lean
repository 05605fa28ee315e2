import Derived.Test.YtdpakmmkponfmaaPlZL
set_option linter.unusedVariables false
set_option linter.unusedSimpArgs false
set_option maxRecDepth 100000
set_option maxHeartbeats 4000000
namespace Go.Abs.GenZ
open Go.Abs
variable {N : Nat} {D : VD} {Y : RD}
theorem thr_off {Y : RD} (hO : Y.Off = false) (n : ByteArray) : thr Y n = match fnd n Y.L with | some f => (f, 0) | none => (zF, 33) := by rw [thr, if_neg (by rw [hO]; decide)]; cases fnd n Y.L <;> rfl
theorem open_j0 (h : Rl N D Y) (hN : N ≤ 100000000) (hO : Y.Off = false) (e0 : Int) (first : List Int) (hu : U8s first) (hf : first.length ≤ 1000000000000) :
  OpenR (N + 3) (fun k => journal_Open.j0 k true first (e0, D)) (fun k => dossierref04_Open_11.j0 k Y.Most Y.Burns Y.Off Y.L first) := by
 have hr : Evt (fun k => vdisk_Disk_Read.f k D nm) (rdR Y nm) := by rw [← rd_eq h.1]; exact readP h.1 nm
 have hq : Evt (fun k => dossierref03_Disk_Read.f k Y nm) (rdR Y nm) := readR_ev Y (h.1.ok (by omega)) nm
 unfold rdR at hr hq
 rw [thr_off hO] at hr hq
 cases hm : fnd nm Y.L with
 | none =>
  simp only [hm] at hr hq
  rw [if_pos (by decide)] at hr hq
  by_cases hl : (first.length : Int) > 4194304
  ·refine ⟨none, none, 1, D, Y, ?_, ?_, trivial, h.mono (by omega)⟩
   ·refine Evt.succ (fun k => by rw [journal_Open.j0]) ?_
    refine Evt.pos rfl ?_
    refine Evt.bind hr ?_
    exact Evt.neg (by decide) (Evt.neg (by decide) (Evt.pos (by simpa using hl) (.pure _)))
   ·refine Evt.succ (fun k => by rw [dossierref04_Open_11.j0]) ?_
    refine Evt.bind hq ?_
    exact Evt.pos (by decide) (Evt.pos (by simpa using hl) (.pure _))
  ·obtain ⟨r, D1, p1, q1, g1⟩ := fresh_both h hN first hu hf
   by_cases e1 : r.1 = 0
   ·refine ⟨some ⟨(), first, [], false⟩, some ⟨(), first, [], false⟩, 0, D1, r.2, ?_, ?_, ⟨rfl, hf, Nat.zero_le _, fun x hx => by cases hx⟩, g1⟩
    ·refine Evt.succ (fun k => by rw [journal_Open.j0]) ?_
     refine Evt.pos rfl ?_
     refine Evt.bind hr ?_
     refine Evt.neg (by decide) (Evt.neg (by decide) (Evt.neg (by simpa using hl) (p1.bind (Evt.neg (by simpa using e1) ?_))))
     exact (bclone_ev first (by omega)).bind (.pure _)
    ·refine Evt.succ (fun k => by rw [dossierref04_Open_11.j0]) ?_
     refine Evt.bind hq ?_
     refine Evt.pos (by decide) (Evt.neg (by simpa using hl) (q1.bind (Evt.neg (by simpa using e1) ?_)))
     exact Evt.pos (by rw [decide_eq_true_eq]; simp only [List.length_nil]; omega) (.pure _)
   ·refine ⟨none, none, r.1, D1, r.2, ?_, ?_, trivial, g1⟩
    ·refine Evt.succ (fun k => by rw [journal_Open.j0]) ?_
     refine Evt.pos rfl ?_
     refine Evt.bind hr ?_
     exact Evt.neg (by decide) (Evt.neg (by decide) (Evt.neg (by simpa using hl) (p1.bind (Evt.pos (by simpa using e1) (.pure _)))))
    ·refine Evt.succ (fun k => by rw [dossierref04_Open_11.j0]) ?_
     refine Evt.bind hq ?_
     exact Evt.pos (by decide) (Evt.neg (by simpa using hl) (q1.bind (Evt.pos (by simpa using e1) (.pure _))))
 | some f =>
  simp only [hm] at hr hq
  rw [if_neg (by decide)] at hr hq
  have hfm := (fnd_mem hm).1
  obtain ⟨a, b, e, D', Y', p1, q1, g1, g2⟩ := scan_both h hN f.B (h.2 f hfm) (by have := mem_len h.1 hfm; omega)
  refine ⟨a, b, e, D', Y', ?_, ?_, g1, g2.mono (by omega)⟩
  ·refine Evt.succ (fun k => by rw [journal_Open.j0]) ?_
   refine Evt.pos rfl ?_
   refine Evt.bind hr ?_
   exact Evt.pos (by rfl) p1
  ·refine Evt.succ (fun k => by rw [dossierref04_Open_11.j0]) ?_
   refine Evt.bind hq ?_
   exact Evt.neg (by simp) q1
theorem brn_off {Y : RD} (h : (brn Y).1 = 0) : (brn Y).2.Off = Y.Off := by
 unfold brn at h ⊢
 split at h
 ·simp at h
 ·rename_i h1
  rw [if_neg h1]; split <;> rfl
theorem open_both (h : Rl N D Y) (hN : N ≤ 10000000) (first : List Int) (hu : U8s first) (hf : first.length ≤ 1000000000000) :
  OpenR (N + 4) (fun k => journal_Open.f k D first) (fun k => dossierref04_Open_11.f k Y first) := by
 obtain ⟨D1, p1, q1, h1⟩ := rem_both h (by omega) nn
 have hq : Evt (fun k => dossierref03_Disk_Read.f k Y nn) (rdR Y nn) := readR_ev Y (h.1.ok (by omega)) nn
 simp only [journal_Open.f, dossierref04_Open_11.f]
 have bad : ∀ e (D' : VD), e ≠ 0 → e ≠ 33 → Evt (fun k => if (e == 0) = true then (journal_Open.j0 k (e == 0) first (e, D')) else (journal_Open.j0 k (e == 33) first (e, D'))) (none, e, D') := by
  intro e D' e0 e1
  refine Evt.neg (by simpa using e0) (Evt.succ (fun k => by rw [journal_Open.j0]) ?_)
  exact Evt.neg (by simpa using e1) (.pure _)
 by_cases hO : Y.Off = true
 ·have hR : rRemove Y nn = (70, Y) := by
   have : thr Y nn = (zF, 70) := by rw [thr, if_pos hO]
   rw [rRemove, chR, this, if_neg (by simp), aft, if_neg (by simp)]
  rw [hR] at p1 h1
  exact ⟨none, none, 70, D1, Y, p1.bind (bad 70 D1 (by decide) (by decide)), Evt.pos hO (.pure _), trivial, h1.mono (by omega)⟩
 ·have hO : Y.Off = false := by simpa using hO
  unfold rdR at hq
  rw [thr_off hO] at hq
  cases hm : fnd nn Y.L with
  | none =>
   have hR : rRemove Y nn = (33, Y) := by
    have : thr Y nn = (zF, 33) := by rw [thr_off hO, hm]
    rw [rRemove, chR, this, if_neg (by simp), aft, if_neg (by simp)]
   rw [hR] at p1 h1
   simp only [hm] at hq
   rw [if_pos (by decide)] at hq
   obtain ⟨a, b, e, D', Y', x1, x2, x3, x4⟩ := open_j0 h1 (by omega) hO 33 first hu hf
   exact ⟨a, b, e, D', Y', p1.bind (Evt.neg (by simp) x1), Evt.neg (by rw [hO]; decide) (hq.bind (Evt.neg (by decide) x2)), x3, x4⟩
  | some f =>
   have hT : thr Y nn = (f, 0) := by rw [thr_off hO, hm]
   simp only [hm] at hq
   rw [if_neg (by decide)] at hq
   by_cases hb : (brn Y).1 = 0
   ·have hR : rRemove Y nn = (0, ⟨del nn Y.L, (brn Y).2.Most, (brn Y).2.Burns, (brn Y).2.Off⟩) := by
     rw [rRemove, chR, hT, if_pos rfl, aft, if_pos hb]
    rw [hR] at p1 h1 q1
    obtain ⟨a, b, e, D', Y', x1, x2, x3, x4⟩ := open_j0 h1 (by omega) (by show (brn Y).2.Off = false; rw [brn_off hb]; exact hO) 0 first hu hf
    exact ⟨a, b, e, D', Y', p1.bind (Evt.pos (by rfl) x1), Evt.neg (by rw [hO]; decide) (hq.bind (Evt.pos (by rfl) (q1.bind (Evt.neg (by simp) x2)))), x3, x4⟩
   ·have hR : rRemove Y nn = brn Y := by
     rw [rRemove, chR, hT, if_pos rfl, aft, if_neg hb]
    have h70 : (brn Y).1 = 70 := by
     unfold brn at hb ⊢
     split
     ·rfl
     ·rename_i hz
      rw [if_neg hz] at hb
      split at hb <;> simp at hb
    rw [hR] at p1 h1 q1
    rw [h70] at p1
    refine ⟨none, none, 70, D1, (brn Y).2, p1.bind (bad 70 D1 (by decide) (by decide)), Evt.neg (by rw [hO]; decide) (hq.bind (Evt.pos (by rfl) (q1.bind (Evt.pos (by simp [h70]) ?_)))), trivial, h1.mono (by omega)⟩
    rw [h70]; exact .pure _
/-! ### a journal's calls -/
def JBoth (N M : Nat) (p : Nat → Option (Int × Jn × VD)) (q : Nat → Option (Int × Jr × RD)) : Prop := ∃ e a b D' Y', Evt p (e, a, D') ∧ Evt q (e, b, Y') ∧ PairR M (some a) (some b) ∧ Rl N D' Y'
theorem may_ev (j : Jn) (c : Bool) (D : VD) : Evt (fun k => journal_Journal_may.f k j c D) (if c = true then if j.stopped = true then 70 else 0 else 1) := by
 simp only [journal_Journal_may.f, journal_Journal_none.f, Option.bind_some]
 cases c
 ·exact Evt.neg (by decide) (.pure _)
 ·refine Evt.pos rfl ?_
  by_cases h : j.stopped = true
  ·simp only [if_pos h]; exact .pure _
  ·simp only [if_neg h]; exact .pure _
theorem PairR.up {M M' : Nat} {a : Option Jn} {b : Option Jr} (h : PairR M a b) (hM : M ≤ M') : PairR M' a b := by
 match a, b, h with
 | none, none, _ => trivial
 | some a, some b, ⟨h1, h2, h3, h4⟩ => exact ⟨h1, h2, by omega, h4⟩
abbrev jn (j : Jr) : Jn := ⟨(), j.Snap, j.L, j.Stop⟩
theorem compact_both (h : Rl N D Y) (hN : N ≤ 10000000) {M : Nat} (j : Jr) (hp : PairR M (some (jn j)) (some j)) (a : List Int) (hu : U8s a) (ha : a.length ≤ 1000000000000) :
  JBoth (N + 3) M (fun k => journal_Journal_Compact_13.f k (jn j) a D) (fun k => dossierref04_Journal_Compact_14.f k j a Y) := by
 obtain ⟨_, g1, g2, g3⟩ := hp
 simp only [JBoth, journal_Journal_Compact_13.f, dossierref04_Journal_Compact_14.f]
 by_cases h1 : (a.length : Int) ≤ 4194304
 ·have hm := may_ev (jn j) (decide ((a.length : Int) ≤ 4194304)) D
  rw [if_pos (by simpa using h1)] at hm
  have n1 : ¬ decide ((a.length : Int) > 4194304) = true := by rw [decide_eq_true_eq]; omega
  by_cases h2 : j.Stop = true
  ·rw [if_pos h2] at hm
   exact ⟨70, jn j, j, D, Y, hm.bind (Evt.pos (by rfl) (.pure _)), Evt.neg n1 (Evt.pos h2 (.pure _)), ⟨rfl, g1, g2, g3⟩, h.mono (by omega)⟩
  ·rw [if_neg h2] at hm
   obtain ⟨r, D1, p1, q1, x1⟩ := fresh_both h (by omega) a hu ha
   by_cases e1 : r.1 = 0
   ·refine ⟨0, ⟨(), a, [], j.Stop⟩, ⟨(), a, [], j.Stop⟩, D1, r.2, ?_, ?_, ⟨rfl, ha, Nat.zero_le _, fun x hx => by cases hx⟩, x1⟩
    ·exact hm.bind (Evt.neg (by decide) (p1.bind (Evt.pos (by simpa using e1) ((bclone_ev a (by omega)).bind (.pure _)))))
    ·refine Evt.neg n1 (Evt.neg h2 (q1.bind (Evt.neg (by rw [e1]; decide) (Evt.neg (by simpa using e1) (Evt.pos ?_ (.pure _))))))
     rw [decide_eq_true_eq]; simp only [List.length_nil]; omega
   ·by_cases e2 : r.1 = 71
    ·exact ⟨r.1, jn j, j, D1, r.2, hm.bind (Evt.neg (by decide) (p1.bind (Evt.neg (by simpa using e1) (Evt.pos (by simpa using e2) (.pure _))))), Evt.neg n1 (Evt.neg h2 (q1.bind (Evt.pos (by simpa using e2) (.pure _)))), ⟨rfl, g1, g2, g3⟩, x1⟩
    ·exact ⟨r.1, ⟨(), j.Snap, j.L, true⟩, ⟨(), j.Snap, j.L, true⟩, D1, r.2, hm.bind (Evt.neg (by decide) (p1.bind (Evt.neg (by simpa using e1) (Evt.neg (by simpa using e2) (.pure _))))), Evt.neg n1 (Evt.neg h2 (q1.bind (Evt.neg (by simpa using e2) (Evt.pos (by simpa using e1) (.pure _))))), ⟨rfl, g1, g2, g3⟩, x1⟩
 ·have hm := may_ev (jn j) (decide ((a.length : Int) ≤ 4194304)) D
  rw [if_neg (by simpa using h1)] at hm
  exact ⟨1, jn j, j, D, Y, hm.bind (Evt.pos (by decide) (.pure _)), Evt.pos (by rw [decide_eq_true_eq]; omega) (.pure _), ⟨rfl, g1, g2, g3⟩, h.mono (by omega)⟩
theorem append_both (h : Rl N D Y) (hN : N ≤ 10000000) {M : Nat} (hM : M ≤ 1000000) (j : Jr) (hp : PairR M (some (jn j)) (some j)) (a : List Int) (hu : U8s a) (ha : a.length ≤ 1000000000000) :
  JBoth (N + 2) (M + 1) (fun k => journal_Journal_Append_15.f k (jn j) a D) (fun k => dossierref04_Journal_Append_16.f k j a Y) := by
 obtain ⟨_, g1, g2, g3⟩ := hp
 have stay : PairR (M + 1) (some (jn j)) (some j) := ⟨rfl, g1, by omega, g3⟩
 simp only [JBoth, journal_Journal_Append_15.f, dossierref04_Journal_Append_16.f]
 by_cases h0 : a.length = 0
 ·exact ⟨1, jn j, j, D, Y, Evt.neg (by rw [decide_eq_true_eq]; omega) (Evt.bind (a := 1) (may_ev (jn j) false D) (Evt.pos (by decide) (.pure _))), Evt.pos (by simp [h0]) (.pure _), stay, h.mono (by omega)⟩
 have n0 : ¬ ((a.length : Int) == 0) = true := by simp; intro e; simp [e] at h0
 have p0 : decide ((a.length : Int) > 0) = true := by rw [decide_eq_true_eq]; omega
 by_cases h1 : (a.length : Int) ≤ 4194304
 ·have hm := may_ev (jn j) (decide ((a.length : Int) ≤ 4194304)) D
  rw [if_pos (by simpa using h1)] at hm
  have n1 : ¬ decide ((a.length : Int) > 4194304) = true := by rw [decide_eq_true_eq]; omega
  by_cases h2 : j.Stop = true
  ·rw [if_pos h2] at hm
   exact ⟨70, jn j, j, D, Y, Evt.pos p0 (hm.bind (Evt.pos (by rfl) (.pure _))), Evt.neg n0 (Evt.neg n1 (Evt.pos h2 (.pure _))), stay, h.mono (by omega)⟩
  ·rw [if_neg h2] at hm
   have bad : ∀ e (D' : VD) (Y' : RD), e ≠ 0 → Rl (N + 2) D' Y' → Evt (fun k => journal_Journal_Append_15.j0 k D'.fuse D'.room D'.used D'.dead D'.files e (jn j) a) (e, ⟨(), j.Snap, j.L, true⟩, D') ∧
     Evt (fun k => dossierref04_Journal_Append_16.j0 k Y'.Most Y'.Burns Y'.Off Y'.L e j a) (e, ⟨(), j.Snap, j.L, true⟩, Y') := by
    intro e D' Y' e0 _
    exact ⟨Evt.succ (fun k => by rw [journal_Journal_Append_15.j0]) (Evt.pos (by simpa using e0) (.pure _)), Evt.succ (fun k => by rw [dossierref04_Journal_Append_16.j0]) (Evt.pos (by simpa using e0) (.pure _))⟩
   have sp : PairR (M + 1) (some ⟨(), j.Snap, j.L, true⟩) (some ⟨(), j.Snap, j.L, true⟩) := ⟨rfl, g1, by show j.L.length ≤ _; omega, g3⟩
   obtain ⟨D1, p1, q1, x1⟩ := app_both h (by omega) nm (frm_u8 hu) (by rw [frm_len]; omega)
   have hfp := frameP_ev a (by omega)
   have hfr := frameR_ev a (by omega)
   by_cases e1 : (rAppend Y nm (frm a)).1 = 71
   ·exact ⟨(rAppend Y nm (frm a)).1, jn j, j, D1, (rAppend Y nm (frm a)).2, Evt.pos p0 (hm.bind (Evt.neg (by decide) (hfp.bind (p1.bind (Evt.pos (by simpa using e1) (.pure _)))))),
     Evt.neg n0 (Evt.neg n1 (Evt.neg h2 (hfr.bind (q1.bind (Evt.pos (by simpa using e1) (.pure _)))))), stay, x1.mono (by omega)⟩
   ·by_cases e2 : (rAppend Y nm (frm a)).1 = 0
    ·obtain ⟨D2, p2, q2, x2⟩ := sync_both x1 (by omega) nm
     by_cases e3 : (rSync (rAppend Y nm (frm a)).2 nm).1 = 0
     ·refine ⟨0, ⟨(), j.Snap, j.L ++ [a], j.Stop⟩, ⟨(), j.Snap, j.L ++ [a], j.Stop⟩, D2, (rSync (rAppend Y nm (frm a)).2 nm).2, Evt.pos p0 (hm.bind (Evt.neg (by decide) (hfp.bind (p1.bind (Evt.neg (by simpa using e1) (Evt.pos (by simpa using e2) (p2.bind ?_))))))),
       Evt.neg n0 (Evt.neg n1 (Evt.neg h2 (hfr.bind (q1.bind (Evt.neg (by simpa using e1) (Evt.pos (by simpa using e2) (q2.bind ?_))))))), ⟨rfl, g1, by show (j.L ++ [a]).length ≤ _; simp; omega, ?_⟩, x2⟩
      ·refine Evt.succ (fun k => by rw [journal_Journal_Append_15.j0]) (Evt.neg (by rw [e3]; decide) ((bclone_ev a (by omega)).bind (Evt.pos ?_ (.pure _))))
       rw [decide_eq_true_eq]; show j.L.length + 1 ≤ _; omega
      ·refine Evt.succ (fun k => by rw [dossierref04_Journal_Append_16.j0]) (Evt.neg (by rw [e3]; decide) (Evt.pos ?_ (Evt.pos ?_ (.pure _))))
       ·rw [decide_eq_true_eq]; simp only [List.length_nil]; omega
       ·rw [decide_eq_true_eq]; show j.L.length + 1 ≤ _; omega
      ·intro x hx
       rcases List.mem_append.mp hx with hx | hx
       ·exact g3 x hx
       ·simp at hx; rw [hx]; exact ha
     ·obtain ⟨b1, b2⟩ := bad _ D2 _ e3 x2
      exact ⟨_, ⟨(), j.Snap, j.L, true⟩, ⟨(), j.Snap, j.L, true⟩, D2, (rSync (rAppend Y nm (frm a)).2 nm).2, Evt.pos p0 (hm.bind (Evt.neg (by decide) (hfp.bind (p1.bind (Evt.neg (by simpa using e1) (Evt.pos (by simpa using e2) (p2.bind b1))))))),
       Evt.neg n0 (Evt.neg n1 (Evt.neg h2 (hfr.bind (q1.bind (Evt.neg (by simpa using e1) (Evt.pos (by simpa using e2) (q2.bind b2))))))), sp, x2⟩
    ·obtain ⟨b1, b2⟩ := bad _ D1 _ e2 (x1.mono (by omega))
     exact ⟨_, ⟨(), j.Snap, j.L, true⟩, ⟨(), j.Snap, j.L, true⟩, D1, (rAppend Y nm (frm a)).2, Evt.pos p0 (hm.bind (Evt.neg (by decide) (hfp.bind (p1.bind (Evt.neg (by simpa using e1) (Evt.neg (by simpa using e2) b1)))))),
      Evt.neg n0 (Evt.neg n1 (Evt.neg h2 (hfr.bind (q1.bind (Evt.neg (by simpa using e1) (Evt.neg (by simpa using e2) b2)))))), sp, x1.mono (by omega)⟩
 ·have hm := may_ev (jn j) (decide ((a.length : Int) ≤ 4194304)) D
  rw [if_neg (by simpa using h1)] at hm
  exact ⟨1, jn j, j, D, Y, Evt.pos p0 (hm.bind (Evt.pos (by decide) (.pure _))), Evt.neg n0 (Evt.pos (by rw [decide_eq_true_eq]; omega) (.pure _)), stay, h.mono (by omega)⟩
end Go.Abs.GenZ
