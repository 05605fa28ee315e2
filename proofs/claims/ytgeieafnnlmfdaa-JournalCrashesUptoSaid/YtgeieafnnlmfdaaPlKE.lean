import Derived.Test.YtgeieafnnlmfdaaPlKD
set_option linter.unusedVariables false
set_option linter.unusedSimpArgs false
set_option maxRecDepth 100000
set_option maxHeartbeats 4000000
namespace Go.Abs.GenK
open Go.Abs
abbrev Jn := journal_Journal
/-! ### of a disk without a fuse -/
theorem app1 {R : Int} {c b : List Int} {s : Int} (h : ((c.length + b.length : Nat) : Int) ≤ R) (hR : R ≤ 4194304) : Evt (fun k => vdisk_Disk_Append.f k (d1 R c s false) nm b) (0, d1 R (c ++ b) s false) := by
 have := (appendP0 (d1 R c s false) nm b (by rw [lk_d1]; show c.length ≤ _; omega) (by omega)).1
 rw [pA1 none h hR] at this
 exact this
theorem syn1 {R : Int} {c : List Int} {s : Int} (hc : c.length ≤ 4194304) : Evt (fun k => vdisk_Disk_Sync.f k (d1 R c s false) nm) (0, d1 R c (c.length : Int) false) := by
 have := (syncP0 (d1 R c s false) nm).1
 rw [pS1 none hc] at this
 exact this
def fits (R : Int) (c b : List Int) : Prop := ((c.length + (8 + b.length) : Nat) : Int) ≤ R ∧ R ≤ 4194304
/-- a record is put behind the others. -/
theorem append_ev {R : Int} {c b snap : List Int} {l : List (List Int)} (hf : fits R c b) (hb : 0 < b.length) (hl : l.length ≤ 1000000000000) :
  Evt (fun k => journal_Journal_Append_fresh_7.f k (⟨(), snap, l, false⟩ : Jn) b (d1 R c (c.length : Int) false)) (0, (⟨(), snap, l ++ [b], false⟩ : Jn), d1 R (c ++ frm b) ((c ++ frm b).length : Int) false) := by
 obtain ⟨h1, h2⟩ := hf
 have hlen : (c ++ frm b).length = c.length + (8 + b.length) := by rw [List.length_append, frm_len]
 simp only [journal_Journal_Append_fresh_7.f]
 refine Evt.pos (by rw [decide_eq_true_eq]; omega) ?_
 refine Evt.bind (a := (0, (⟨(), snap, l, false⟩ : Jn))) ?_ ?_
 ·rw [show decide ((b.length : Int) ≤ 4194304) = true by rw [decide_eq_true_eq]; omega]
  exact ⟨0, fun k _ => rfl⟩
 refine Evt.neg (by simp) ?_
 refine (frameP_ev b (by omega)).bind ?_
 refine (app1 (s := (c.length : Int)) (by rw [frm_len]; exact h1) h2).bind ?_
 refine Evt.neg (by simp) (Evt.pos rfl ?_)
 refine (syn1 (R := R) (s := (c.length : Int)) (by rw [hlen]; omega)).bind ?_
 refine Evt.succ (fun k => by rw [journal_Journal_Append_fresh_7.j0]) ?_
 refine Evt.neg (by simp) ?_
 refine (bclone_ev b (by omega)).bind ?_
 refine Evt.pos (by rw [decide_eq_true_eq]; simp only [List.length_cons, List.length_nil]; omega) ?_
 exact .pure _
theorem append_none {R : Int} {c snap : List Int} {l : List (List Int)} {x : Bool} {s : Int} :
  Evt (fun k => journal_Journal_Append_fresh_7.f k (⟨(), snap, l, false⟩ : Jn) [] (d1 R c s x)) (1, (⟨(), snap, l, false⟩ : Jn), d1 R c s x) := by
 simp only [journal_Journal_Append_fresh_7.f]
 refine Evt.neg (by simp) ?_
 refine Evt.bind (a := (1, (⟨(), snap, l, false⟩ : Jn))) ⟨0, fun k _ => rfl⟩ ?_
 exact Evt.pos (by rfl) (.pure _)
/-- an empty disk becomes one with a snapshot. -/
theorem open0_ev {R : Int} {b : List Int} (h : ((8 + b.length : Nat) : Int) ≤ R) (hR : R ≤ 4194304) : Evt (fun k => journal_Open_fresh.f k (d0 R) b) ((⟨(), b, [], false⟩ : Jn), 0, d1 R (frm b) ((frm b).length : Int) false) := by
 have r1 : Evt (fun k => vdisk_Disk_Remove.f k (d0 R) nn) (33, d0 R) := (remP0 (d0 R) nn).1
 have hr : Evt (fun k => vdisk_Disk_Read.f k (d0 R) nm) ([], 33) := readP0 (d0 R) nm (by show (0 : Nat) ≤ _; omega)
 have hl : (frm b).length = 8 + b.length := frm_len b
 have a1 : Evt (fun k => vdisk_Disk_Append.f k (d0 R) nn (frm b)) (0, e1 R (frm b) 0) := by
  have := (appendP0 (d0 R) nn (frm b) (by show (0 : Nat) ≤ _; omega) (by omega)).1
  rw [pA0 none (by rw [hl]; exact h) hR] at this
  exact this
 have a2 : Evt (fun k => vdisk_Disk_Sync.f k (e1 R (frm b) 0) nn) (0, e1 R (frm b) ((frm b).length : Int)) := by
  have := (syncP0 (e1 R (frm b) 0) nn).1
  rw [pS0 none (by omega)] at this
  exact this
 have a3 : Evt (fun k => vdisk_Disk_Rename.f k (e1 R (frm b) ((frm b).length : Int)) nn nm) (0, d1 R (frm b) ((frm b).length : Int) false) := by
  have := (renP0 (e1 R (frm b) ((frm b).length : Int)) nn nm).1
  rw [pR0 none (by omega)] at this
  exact this
 have hrep : Evt (fun k => journal_replace.f k (d0 R) b) (0, d1 R (frm b) ((frm b).length : Int) false) := by
  simp only [journal_replace.f]
  refine (frameP_ev b (by omega)).bind (a1.bind (Evt.pos (by rfl) (a2.bind (Evt.pos (by rfl) (a3.bind ?_)))))
  exact .pure _
 simp only [journal_Open_fresh.f]
 refine r1.bind (Evt.neg (by simp) ?_)
 refine Evt.succ (fun k => by rw [journal_Open_fresh.j0]) ?_
 refine Evt.pos (by rfl) ?_
 refine Evt.bind hr ?_
 refine Evt.neg (by decide) (Evt.neg (by decide) (Evt.neg (by rw [decide_eq_true_eq]; omega) (hrep.bind (Evt.neg (by simp) ?_))))
 exact (bclone_ev b (by omega)).bind (.pure _)
/-! ### records and snapshot, of both kinds of journal -/
theorem recs_gen {S : Nat → List (List Int) → Int → Option (List (List Int) × Jn)} {j : Jn} (hl : j.l.length ≤ 1000000000000) (hx : ∀ x ∈ j.l, x.length ≤ 1000000000000)
  (hS : ∀ k x3 x4, S (k + 1) x3 x4 = if (decide (x4 < (j.l.length : Int))) = true then ((rd j.l x4).bind fun v6 => (slices_Clone_byte_byte.f k v6).bind fun r8 => if (decide (x3.length + ([r8] : List (List Int)).length ≤ 5864062014805)) = true then (S k (x3 ++ ([r8] : List (List Int))) (IntKind.i64.wrap (x4 + 1))) else none) else (some (x3, (⟨(), j.snap, j.l, j.stopped⟩ : journal_Journal)))) :
  ∀ suf pre, j.l = pre ++ suf → Evt (fun k => S k pre (pre.length : Int)) (j.l, (⟨(), j.snap, j.l, j.stopped⟩ : Jn))
 | [], pre, he => by
  refine Evt.succ (fun k => hS k _ _) (Evt.neg (by rw [he]; simp) ?_)
  rw [show pre = j.l by rw [he]; simp]
  exact .pure _
 | x :: suf, pre, he => by
  have hlt : pre.length < j.l.length := by rw [he]; simp
  have hv : j.l[pre.length]? = some x := by rw [he]; simp
  refine Evt.succ (fun k => hS k _ _) (Evt.pos (by simpa using hlt) (Evt.some_bind (by rw [rd_nat]; exact hv) ?_))
  refine (bclone_ev x (by have := hx x (by rw [he]; simp); omega)).bind ?_
  refine Evt.pos (by rw [decide_eq_true_eq]; simp only [List.length_cons, List.length_nil]; omega) ?_
  rw [wrap_nat (by omega)]
  have := recs_gen hl hx hS suf (pre ++ [x]) (by rw [he]; simp)
  simpa using this
theorem recsF_ev (j : Jn) (D : VD) (hl : j.l.length ≤ 1000000000000) (hx : ∀ x ∈ j.l, x.length ≤ 1000000000000) : Evt (fun k => journal_Journal_Records_fresh.f k j D) (j.l, (⟨(), j.snap, j.l, j.stopped⟩ : Jn)) := by
 simp only [journal_Journal_Records_fresh.f, journal_Journal_none_fresh.f, Option.bind_some]
 refine Evt.neg (by simp) ?_
 exact recs_gen (S := fun k x3 x4 => journal_Journal_Records_fresh.l0 k x3 x4 (false, ⟨(), j.snap, j.l, j.stopped⟩)) (j := j) hl hx (fun k x3 x4 => by rw [journal_Journal_Records_fresh.l0]) j.l [] rfl
theorem recsN_ev (j : Jn) (D : VD) (hl : j.l.length ≤ 1000000000000) (hx : ∀ x ∈ j.l, x.length ≤ 1000000000000) : Evt (fun k => journal_Journal_Records.f k j D) (j.l, (⟨(), j.snap, j.l, j.stopped⟩ : Jn)) := by
 simp only [journal_Journal_Records.f, journal_Journal_none.f, Option.bind_some]
 refine Evt.neg (by simp) ?_
 exact recs_gen (S := fun k x3 x4 => journal_Journal_Records.l0 k x3 x4 (false, ⟨(), j.snap, j.l, j.stopped⟩)) (j := j) hl hx (fun k x3 x4 => by rw [journal_Journal_Records.l0]) j.l [] rfl
theorem snapF_ev (j : Jn) (D : VD) (h : j.snap.length ≤ 1000000000000) : Evt (fun k => journal_Journal_Snapshot_fresh.f k j D) (j.snap, (⟨(), j.snap, j.l, j.stopped⟩ : Jn)) := by
 simp only [journal_Journal_Snapshot_fresh.f, journal_Journal_none_fresh.f, Option.bind_some]
 exact Evt.neg (by simp) ((bclone_ev j.snap (by omega)).bind (.pure _))
theorem snapN_ev (j : Jn) (D : VD) (h : j.snap.length ≤ 1000000000000) : Evt (fun k => journal_Journal_Snapshot.f k j D) (j.snap, (⟨(), j.snap, j.l, j.stopped⟩ : Jn)) := by
 simp only [journal_Journal_Snapshot.f, journal_Journal_none.f, Option.bind_some]
 exact Evt.neg (by simp) ((bclone_ev j.snap (by omega)).bind (.pure _))
/-! ### a record is there -/
theorem awake_ev : Evt (fun k => dossierlaw04_awake.f k) true := by
 have e1 : ∀ k, vdisk_New.f k 100 = some (d0 100, 0) := fun k => rfl
 have h1 := open0_ev (R := 100) (b := [115]) (by simp) (by omega)
 have h2 := append_ev (R := 100) (c := frm [115]) (b := [97]) (snap := [115]) (l := []) ⟨by rw [frm_len]; simp, by omega⟩ (by simp) (by simp)
 simp only [dossierlaw04_awake.f, e1, Option.bind_some]
 refine Evt.neg (by decide) (h1.bind (Evt.pos (by rfl) (h2.bind (Evt.pos (by rfl) ?_))))
 refine (recsF_ev _ _ (by simp) (by simp)).bind (Evt.pos (by rfl) ((snapF_ev _ _ (by simp)).bind ?_))
 have hb : ((ofNums [115]).toList == (⟨#[115]⟩ : ByteArray).toList) = true := by rw [toList_beq]; decide
 show Evt (fun k => some ((ofNums [115]).toList == (⟨#[115]⟩ : ByteArray).toList)) true
 rw [hb]; exact .pure _
end Go.Abs.GenK
