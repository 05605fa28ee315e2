import Derived.Test.YtgeieafnnlmfdaaPlKE
set_option linter.unusedVariables false
set_option linter.unusedSimpArgs false
set_option maxRecDepth 100000
set_option maxHeartbeats 4000000
namespace Go.Abs.GenK
open Go.Abs
/-! ### of a disk with a fuse -/
def bt (p : Int) (D D' : VD) : Int × VD × Int := if p = 0 then (70, off D, 0) else (0, D', p - 1)
theorem thr_bu {p : Int} (h : 0 ≤ p ∧ p ≤ 10) (D D' : VD) : Thr (bu (some p) D D') = bt p D D' := by
 unfold bu bt
 simp only
 by_cases hp : p = 0
 ·rw [if_pos hp, if_pos hp, hp]; rfl
 ·rw [if_neg hp, if_neg hp, wrap_i64 (by omega) (by omega)]; rfl
theorem rem1f {p : Int} (hp : 0 ≤ p ∧ p ≤ 10) {R : Int} {c : List Int} {s : Int} : Evt (fun k => vdisk_Disk_Remove_31.f k (d1 R c s false) nn p) (33, d1 R c s false, p) := by
 have := (remP1 (d1 R c s false) p nn).1
 rw [pM1 R c s (some p)] at this
 exact this
theorem bt0 {p : Int} (hp : 0 ≤ p ∧ p ≤ 10) (D D' : VD) (h : p = 0) : bt p D D' = (70, off D, 0) := if_pos h
theorem bt1 {p : Int} (hp : 0 ≤ p ∧ p ≤ 10) (D D' : VD) (h : ¬ p = 0) : bt p D D' = (0, D', p - 1) := if_neg h
theorem appendF_none {p : Int} (hp : 0 ≤ p ∧ p ≤ 10) {R : Int} {c snap : List Int} {l : List (List Int)} {x : Bool} {s : Int} :
  Evt (fun k => journal_Journal_Append_fresh_7xx.f k (⟨(), snap, l, false⟩ : Jn) [] (d1 R c s x) p) (1, (⟨(), snap, l, false⟩ : Jn), d1 R c s x, p) := by
 simp only [journal_Journal_Append_fresh_7xx.f]
 refine Evt.neg (by simp) ?_
 refine Evt.bind (a := (1, (⟨(), snap, l, false⟩ : Jn))) ⟨0, fun k _ => rfl⟩ ?_
 exact Evt.pos (by rfl) (.pure _)
section
variable {p : Int} (hp : 0 ≤ p ∧ p ≤ 10)
include hp
theorem app1f {R : Int} {c b : List Int} {s : Int} (h : ((c.length + b.length : Nat) : Int) ≤ R) (hR : R ≤ 4194304) : Evt (fun k => vdisk_Disk_Append_25.f k (d1 R c s false) nm b p) (bt p (d1 R c s false) (d1 R (c ++ b) s false)) := by
 have := (appendP1 (d1 R c s false) p nm b (by rw [lk_d1]; show c.length ≤ _; omega) (by omega)).1
 rw [pA1 (some p) h hR, thr_bu hp] at this
 exact this
theorem app2f {R : Int} {c b : List Int} {s : Int} (h : ((c.length + b.length : Nat) : Int) ≤ R) (hR : R ≤ 4194304) : Evt (fun k => vdisk_Disk_Append_25.f k (d1 R c s false) nn b p) (bt p (d1 R c s false) (d2 R c s b 0 false)) := by
 have := (appendP1 (d1 R c s false) p nn b (by rw [lk_d1n]; show (0 : Nat) ≤ _; omega) (by omega)).1
 rw [pA2 (some p) h hR, thr_bu hp] at this
 exact this
theorem syn1f {R : Int} {c : List Int} {s : Int} (hc : c.length ≤ 4194304) : Evt (fun k => vdisk_Disk_Sync_27.f k (d1 R c s false) nm p) (bt p (d1 R c s false) (d1 R c (c.length : Int) false)) := by
 have := (syncP1 (d1 R c s false) p nm).1
 rw [pS1 (some p) hc, thr_bu hp] at this
 exact this
theorem syn2f {R : Int} {c g : List Int} {s q : Int} (hc : c.length + g.length ≤ 4194304) : Evt (fun k => vdisk_Disk_Sync_27.f k (d2 R c s g q false) nn p) (bt p (d2 R c s g q false) (d2 R c s g (g.length : Int) false)) := by
 have := (syncP1 (d2 R c s g q false) p nn).1
 rw [pS2 (some p) hc, thr_bu hp] at this
 exact this
theorem ren2f {R : Int} {c g : List Int} {s q : Int} (hc : c.length + g.length ≤ 4194304) : Evt (fun k => vdisk_Disk_Rename_42.f k (d2 R c s g q false) nn nm p) (bt p (d2 R c s g q false) (d1 R g q false)) := by
 have := (renP1 (d2 R c s g q false) p nn nm).1
 rw [pR2 (some p) hc, thr_bu hp] at this
 exact this
theorem rem2f {R : Int} {c g : List Int} {s q : Int} (hc : c.length + g.length ≤ 4194304) : Evt (fun k => vdisk_Disk_Remove_31.f k (d2 R c s g q false) nn p) (bt p (d2 R c s g q false) (d1 R c s false)) := by
 have := (remP1 (d2 R c s g q false) p nn).1
 rw [pM2 (some p) hc, thr_bu hp] at this
 exact this
theorem tru1f {R : Int} {c : List Int} {n : Nat} (hc : c.length ≤ 4194304) (hn : n ≤ c.length) : Evt (fun k => vdisk_Disk_Truncate.f k (d1 R c (c.length : Int) false) nm (n : Int) p) (bt p (d1 R c (c.length : Int) false) (d1 R (c.take n) ((c.take n).length : Int) false)) := by
 have := (truncP1 (d1 R c (c.length : Int) false) p nm (n : Int)).1
 rw [pT1 (some p) hc hn, thr_bu hp] at this
 exact this
/-- a record, the disk stopping somewhere. -/
theorem appendF_ev {R : Int} {c b snap : List Int} {l : List (List Int)} (hf : fits R c b) (hb : 0 < b.length) (hl : l.length ≤ 1000000000000) :
  ∃ told J' D' q, Evt (fun k => journal_Journal_Append_fresh_7xx.f k (⟨(), snap, l, false⟩ : Jn) b (d1 R c (c.length : Int) false) p) (told, J', D', q) ∧
   ((told = 0 ∧ D' = d1 R (c ++ frm b) ((c ++ frm b).length : Int) false) ∨ (told = 70 ∧ (D' = d1 R c (c.length : Int) true ∨ D' = d1 R (c ++ frm b) (c.length : Int) true))) := by
 obtain ⟨h1, h2⟩ := hf
 have hlen : (c ++ frm b).length = c.length + (8 + b.length) := by rw [List.length_append, frm_len]
 have start : ∀ r, Evt (fun k => (vdisk_Disk_Append_25.f k (d1 R c (c.length : Int) false) (⟨#[106, 111, 117, 114, 110, 97, 108]⟩ : ByteArray) (frm b) p).bind fun r5 => if (r5.1 == 71) = true then (some (r5.1, (⟨(), snap, l, false⟩ : journal_Journal), r5.2.1, r5.2.2)) else (if (r5.1 == 0) = true then ((vdisk_Disk_Sync_27.f k r5.2.1 (⟨#[106, 111, 117, 114, 110, 97, 108]⟩ : ByteArray) r5.2.2).bind fun r8 => journal_Journal_Append_fresh_7xx.j0 k r8.2.1.room r8.2.1.used r8.2.1.dead r8.2.1.files r8.2.2 r8.1 b (0, (⟨(), snap, l, false⟩ : Jn))) else (journal_Journal_Append_fresh_7xx.j0 k r5.2.1.room r5.2.1.used r5.2.1.dead r5.2.1.files r5.2.2 r5.1 b (0, (⟨(), snap, l, false⟩ : Jn))))) r →
   Evt (fun k => journal_Journal_Append_fresh_7xx.f k (⟨(), snap, l, false⟩ : Jn) b (d1 R c (c.length : Int) false) p) r := by
  intro r hr
  simp only [journal_Journal_Append_fresh_7xx.f]
  refine Evt.pos (by rw [decide_eq_true_eq]; omega) ?_
  refine Evt.bind (a := (0, (⟨(), snap, l, false⟩ : Jn))) ?_ ?_
  ·rw [show decide ((b.length : Int) ≤ 4194304) = true by rw [decide_eq_true_eq]; omega]
   exact ⟨0, fun k _ => rfl⟩
  refine Evt.neg (by simp) ?_
  exact (frameP_ev b (by omega)).bind hr
 have hA := app1f hp (R := R) (c := c) (b := frm b) (s := (c.length : Int)) (by rw [frm_len]; exact h1) h2
 by_cases hp0 : p = 0
 ·rw [bt0 hp _ _ hp0] at hA
  refine ⟨70, ⟨(), snap, l, true⟩, d1 R c (c.length : Int) true, 0, start _ (hA.bind (Evt.neg (by simp) (Evt.neg (by simp) ?_))), .inr ⟨rfl, .inl rfl⟩⟩
  refine Evt.succ (fun k => by rw [journal_Journal_Append_fresh_7xx.j0]) ?_
  exact Evt.pos (by rfl) (.pure _)
 ·rw [bt1 hp _ _ hp0] at hA
  have hS := syn1f (p := p - 1) (by omega) (R := R) (c := c ++ frm b) (s := (c.length : Int)) (by rw [hlen]; omega)
  by_cases hp1 : p - 1 = 0
  ·rw [bt0 (by omega) _ _ hp1] at hS
   refine ⟨70, ⟨(), snap, l, true⟩, d1 R (c ++ frm b) (c.length : Int) true, 0, start _ (hA.bind (Evt.neg (by simp) (Evt.pos (by rfl) (hS.bind ?_)))), .inr ⟨rfl, .inr rfl⟩⟩
   refine Evt.succ (fun k => by rw [journal_Journal_Append_fresh_7xx.j0]) ?_
   exact Evt.pos (by rfl) (.pure _)
  ·rw [bt1 (by omega) _ _ hp1] at hS
   refine ⟨0, ⟨(), snap, l ++ [b], false⟩, d1 R (c ++ frm b) ((c ++ frm b).length : Int) false, p - 1 - 1, start _ (hA.bind (Evt.neg (by simp) (Evt.pos (by rfl) (hS.bind ?_)))), .inl ⟨rfl, rfl⟩⟩
   refine Evt.succ (fun k => by rw [journal_Journal_Append_fresh_7xx.j0]) ?_
   refine Evt.neg (by simp) ?_
   refine (bclone_ev b (by omega)).bind ?_
   refine Evt.pos (by rw [decide_eq_true_eq]; simp only [List.length_cons, List.length_nil]; omega) ?_
   exact .pure _
/-- all becomes a snapshot, the disk stopping somewhere. -/
theorem compactF_ev {R : Int} {c b snap : List Int} {l : List (List Int)} (hf : fits R c b) :
  ∃ told J' D' q, Evt (fun k => journal_Journal_Compact_fresh_8.f k (⟨(), snap, l, false⟩ : Jn) b (d1 R c (c.length : Int) false) p) (told, J', D', q) ∧
   ((told = 0 ∧ D' = d1 R (frm b) ((frm b).length : Int) false) ∨ (told = 70 ∧ (D' = d1 R c (c.length : Int) true ∨ ∃ n : Nat, n ≤ (frm b).length ∧ D' = d2 R c (c.length : Int) (frm b) (n : Int) true))) := by
 obtain ⟨h1, h2⟩ := hf
 have hlen : (frm b).length = 8 + b.length := frm_len b
 have start : ∀ r3 : Int × VD × Int, ∀ r, Evt (fun k => journal_replace_29.f k (d1 R c (c.length : Int) false) b p) r3 → Evt (fun k => if (r3.1 == 0) = true then ((slices_Clone_byte_byte.f k b).bind fun r5 => some (0, (⟨(), r5, ([] : List (List Int)), false⟩ : journal_Journal), r3.2.1, r3.2.2)) else (if (r3.1 == 71) = true then (some (r3.1, (⟨(), snap, l, false⟩ : journal_Journal), r3.2.1, r3.2.2)) else (some (r3.1, (⟨(), snap, l, true⟩ : journal_Journal), r3.2.1, r3.2.2)))) r →
   Evt (fun k => journal_Journal_Compact_fresh_8.f k (⟨(), snap, l, false⟩ : Jn) b (d1 R c (c.length : Int) false) p) r := by
  intro r3 r hr3 hr
  simp only [journal_Journal_Compact_fresh_8.f]
  refine Evt.bind (a := (0, (⟨(), snap, l, false⟩ : Jn))) ?_ ?_
  ·rw [show decide ((b.length : Int) ≤ 4194304) = true by rw [decide_eq_true_eq]; omega]
   exact ⟨0, fun k _ => rfl⟩
  refine Evt.neg (by simp) ?_
  exact hr3.bind hr
 have hA := app2f hp (R := R) (c := c) (b := frm b) (s := (c.length : Int)) (by rw [frm_len]; exact h1) h2
 by_cases hp0 : p = 0
 ·rw [bt0 hp _ _ hp0] at hA
  refine ⟨70, ⟨(), snap, l, true⟩, d1 R c (c.length : Int) true, 0, start (70, d1 R c (c.length : Int) true, 0) _ ?_ (Evt.neg (by simp) (Evt.neg (by simp) (.pure _))), .inr ⟨rfl, .inl rfl⟩⟩
  simp only [journal_replace_29.f]
  refine (frameP_ev b (by omega)).bind (hA.bind (Evt.neg (by simp) ?_))
  exact .pure _
 ·rw [bt1 hp _ _ hp0] at hA
  have hS := syn2f (p := p - 1) (by omega) (R := R) (c := c) (g := frm b) (s := (c.length : Int)) (q := 0) (by omega)
  by_cases hp1 : p - 1 = 0
  ·rw [bt0 (by omega) _ _ hp1] at hS
   refine ⟨70, ⟨(), snap, l, true⟩, d2 R c (c.length : Int) (frm b) 0 true, 0, start (70, d2 R c (c.length : Int) (frm b) 0 true, 0) _ ?_ (Evt.neg (by simp) (Evt.neg (by simp) (.pure _))), .inr ⟨rfl, .inr ⟨0, by omega, rfl⟩⟩⟩
   simp only [journal_replace_29.f]
   refine (frameP_ev b (by omega)).bind (hA.bind (Evt.pos (by rfl) (hS.bind (Evt.neg (by simp) ?_))))
   exact .pure _
  ·rw [bt1 (by omega) _ _ hp1] at hS
   have hN := ren2f (p := p - 1 - 1) (by omega) (R := R) (c := c) (g := frm b) (s := (c.length : Int)) (q := ((frm b).length : Int)) (by omega)
   by_cases hp2 : p - 1 - 1 = 0
   ·rw [bt0 (by omega) _ _ hp2] at hN
    refine ⟨70, ⟨(), snap, l, true⟩, d2 R c (c.length : Int) (frm b) ((frm b).length : Int) true, 0, start (70, d2 R c (c.length : Int) (frm b) ((frm b).length : Int) true, 0) _ ?_ (Evt.neg (by simp) (Evt.neg (by simp) (.pure _))), .inr ⟨rfl, .inr ⟨(frm b).length, Nat.le_refl _, rfl⟩⟩⟩
    simp only [journal_replace_29.f]
    refine (frameP_ev b (by omega)).bind (hA.bind (Evt.pos (by rfl) (hS.bind (Evt.pos (by rfl) (hN.bind ?_)))))
    exact .pure _
   ·rw [bt1 (by omega) _ _ hp2] at hN
    refine ⟨0, ⟨(), b, [], false⟩, d1 R (frm b) ((frm b).length : Int) false, p - 1 - 1 - 1, start (0, d1 R (frm b) ((frm b).length : Int) false, p - 1 - 1 - 1) _ ?_ (Evt.pos (by rfl) ((bclone_ev b (by omega)).bind (.pure _))), .inl ⟨rfl, rfl⟩⟩
    simp only [journal_replace_29.f]
    refine (frameP_ev b (by omega)).bind (hA.bind (Evt.pos (by rfl) (hS.bind (Evt.pos (by rfl) (hN.bind ?_)))))
    exact .pure _
end
end Go.Abs.GenK
