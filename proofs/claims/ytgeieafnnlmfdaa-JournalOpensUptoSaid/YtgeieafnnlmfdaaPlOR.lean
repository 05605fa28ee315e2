import Derived.Test.YtgeieafnnlmfdaaPlOQ
set_option linter.unusedVariables false
set_option linter.unusedSimpArgs false
set_option maxRecDepth 100000
set_option maxHeartbeats 4000000
namespace Go.Abs.GenO
open Go.Abs
theorem nn_nm : nn ≠ nm := by decide
theorem a1 (b : List Int) (hb : b.length = 9) : rAppend (⟨[], 100, -1, false⟩ : RD) nn b = (0, ⟨[⟨nn, b, 0⟩], 100, -1, false⟩) := by
 simp [rAppend, brn, old, fnd, ins, usum, hb, show nb nn = true from rfl]
theorem a2 (b : List Int) (hb : b.length = 9) : rSync (⟨[⟨nn, b, 0⟩], 100, -1, false⟩ : RD) nn = (0, ⟨[⟨nn, b, 9⟩], 100, -1, false⟩) := by
 simp [rSync, aft, chR, thr, brn, old, fnd, ins, kl, hb]
theorem a3 (b : List Int) (hb : b.length = 9) : rRename (⟨[⟨nn, b, 9⟩], 100, -1, false⟩ : RD) nn nm = (0, ⟨[⟨nm, b, 9⟩], 100, -1, false⟩) := by
 simp [rRename, aft, chR, thr, brn, old, fnd, ins, del, kl_irrefl, hb, show nb nm = true from rfl, nn_nm]
theorem a4 (b c : List Int) (hb : b.length = 9) (hc : c.length = 9) : rAppend (⟨[⟨nm, b, 9⟩], 100, -1, false⟩ : RD) nm c = (0, ⟨[⟨nm, b ++ c, 9⟩], 100, -1, false⟩) := by
 simp [rAppend, brn, old, fnd, ins, usum, kl, hb, hc, show nb nm = true from rfl]
theorem a5 (b : List Int) (q : Int) : (rSync (⟨[⟨nm, b, q⟩], 100, -1, false⟩ : RD) nm).1 = 0 := by
 simp [rSync, aft, chR, thr, brn, old, fnd, ins, kl]
theorem awake_ev : Evt (fun k => dossierlaw04_awake.f k) true := by
 have h0 : Rel 0 (⟨[], 100, 0, (), false⟩ : VD) none (⟨[], 100, -1, false⟩ : RD) := rel_new 100 (by omega)
 have e1 : ∀ k, vdisk_New.f k 100 = some ((⟨[], 100, 0, (), false⟩ : VD), 0) := fun k => rfl
 obtain ⟨D1, p1, _, h1⟩ := rem_both h0 (by omega) nn
 have r1 : rRemove (⟨[], 100, -1, false⟩ : RD) nn = (33, ⟨[], 100, -1, false⟩) := rfl
 rw [r1] at p1 h1
 have hr : Evt (fun k => vdisk_Disk_Read.f k D1 nm) ([], 33) := by
  have := readP0 h1 nm
  rw [rd_eq h1] at this
  exact this
 obtain ⟨D2, p2, _, h2⟩ := app_both h1 (by omega) nn (frm [115]) (by rw [frm_len]; simp)
 rw [a1 _ (by rw [frm_len]; rfl)] at p2 h2
 obtain ⟨D3, p3, _, h3⟩ := sync_both h2 (by omega) nn
 rw [a2 _ (by rw [frm_len]; rfl)] at p3 h3
 obtain ⟨D4, p4, _, h4⟩ := ren_both h3 (by omega) nn nm
 rw [a3 _ (by rw [frm_len]; rfl)] at p4 h4
 obtain ⟨D5, p5, _, h5⟩ := app_both h4 (by omega) nm (frm [97]) (by rw [frm_len]; simp)
 rw [a4 _ _ (by rw [frm_len]; rfl) (by rw [frm_len]; rfl)] at p5 h5
 obtain ⟨D6, p6, _, h6⟩ := sync_both h5 (by omega) nm
 rw [a5] at p6
 have hrep : Evt (fun k => journal_replace.f k D1 [115]) (0, D4) := by
  simp only [journal_replace.f]
  refine (frameP_ev [115] (by simp)).bind (p2.bind (Evt.pos (by rfl) (p3.bind (Evt.pos (by rfl) (p4.bind ?_)))))
  exact .pure _
 have hop : Evt (fun k => journal_Open_fresh.f k (⟨[], 100, 0, (), false⟩ : VD) [115]) ((⟨(), [115], [], false⟩ : Jn), 0, D4) := by
  simp only [journal_Open_fresh.f]
  refine p1.bind (Evt.neg (by simp) ?_)
  refine Evt.succ (fun k => by rw [journal_Open_fresh.j0]) ?_
  refine Evt.pos (by rfl) ?_
  refine Evt.bind hr ?_
  refine Evt.neg (by decide) (Evt.neg (by decide) (Evt.neg (by decide) (hrep.bind (Evt.neg (by simp) ?_))))
  exact (bclone_ev [115] (by simp)).bind (.pure _)
 have happ : Evt (fun k => journal_Journal_Append_fresh_7.f k (⟨(), [115], [], false⟩ : Jn) [97] D4) (0, (⟨(), [115], [[97]], false⟩ : Jn), D6) := by
  simp only [journal_Journal_Append_fresh_7.f]
  refine Evt.pos (by rfl) ?_
  refine Evt.bind (a := (0, (⟨(), [115], [], false⟩ : Jn))) ⟨0, fun k _ => rfl⟩ ?_
  refine Evt.neg (by decide) ?_
  refine (frameP_ev [97] (by simp)).bind (p5.bind ?_)
  refine Evt.neg (by simp) (Evt.pos (by rfl) (p6.bind ?_))
  refine Evt.succ (fun k => by rw [journal_Journal_Append_fresh_7.j0]) ?_
  refine Evt.neg (by simp) ?_
  refine (bclone_ev [97] (by simp)).bind ?_
  refine Evt.pos (by rfl) ?_
  exact .pure _
 simp only [dossierlaw04_awake.f, e1, Option.bind_some]
 refine Evt.neg (by decide) (hop.bind (Evt.pos (by rfl) (happ.bind (Evt.pos (by rfl) ?_))))
 have hrec : Evt (fun k => journal_Journal_Records_fresh.f k (⟨(), [115], [[97]], false⟩ : Jn) D6) ([[97]], (⟨(), [115], [[97]], false⟩ : Jn)) := by
  simp only [journal_Journal_Records_fresh.f, journal_Journal_none_fresh.f, Option.bind_some]
  refine Evt.neg (by decide) ?_
  refine Evt.succ (fun k => by rw [journal_Journal_Records_fresh.l0]) ?_
  refine Evt.pos (by rfl) ?_
  refine Evt.some_bind (a := [97]) (by rfl) ?_
  refine (bclone_ev [97] (by simp)).bind ?_
  refine Evt.pos (by rfl) ?_
  refine Evt.succ (fun k => by rw [journal_Journal_Records_fresh.l0]) ?_
  exact Evt.neg (by decide) (.pure _)
 have hsn : Evt (fun k => journal_Journal_Snapshot_fresh.f k (⟨(), [115], [[97]], false⟩ : Jn) D6) ([115], (⟨(), [115], [[97]], false⟩ : Jn)) := by
  simp only [journal_Journal_Snapshot_fresh.f, journal_Journal_none_fresh.f, Option.bind_some]
  exact Evt.neg (by decide) ((bclone_ev [115] (by simp)).bind (.pure _))
 refine hrec.bind (Evt.pos (by rfl) (hsn.bind ?_))
 have hb : ((ofNums [115]).toList == (⟨#[115]⟩ : ByteArray).toList) = true := by rw [toList_beq]; decide
 rw [hb]; exact .pure _
theorem opens_true (f m first : List Int) (hf : U8s f) (hm : U8s m) (lf : f.length ≤ 100000000000) (lm : m.length ≤ 100000000000) (l1 : first.length ≤ 1000000000000) : ∃ k, dossierlaw04_JournalOpens.f k f m first = some true := (opens_ev awake_ev f m first hf hm lf lm l1).get
end Go.Abs.GenO
