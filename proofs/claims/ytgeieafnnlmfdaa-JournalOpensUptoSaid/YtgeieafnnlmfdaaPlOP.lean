import Derived.Test.YtgeieafnnlmfdaaPlON
set_option linter.unusedVariables false
set_option linter.unusedSimpArgs false
set_option maxRecDepth 100000
set_option maxHeartbeats 4000000
namespace Go.Abs.GenO
open Go.Abs
variable {N : Nat} {D : VD} {Y : RD}
theorem same_nn (h : Rel N D none Y) (hN : N ≤ 1000000000) : Evt (fun k => dossierlaw04_pair_same.f k (⟨(), (), (), ()⟩ : dossierlaw04_pair) D Y) (true, ⟨(), (), (), ()⟩) :=
 (same0 h hN).bind (Evt.pos rfl (.pure _))
theorem recs_suf (j : Jn) (hl : j.l.length ≤ 1000000000000) (hx : ∀ x ∈ j.l, x.length ≤ 1000000000000) : ∀ suf pre, j.l = pre ++ suf → Evt (fun k => journal_Journal_Records.l0 k pre (pre.length : Int) (false, j)) (j.l, (⟨(), j.snap, j.l, j.stopped⟩ : Jn))
 | [], pre, h => by
  have hp : j.l = pre := by rw [h, List.append_nil]
  refine Evt.succ (fun k => by rw [journal_Journal_Records.l0]) ?_
  refine Evt.neg (by simp [hp]) ?_
  rw [← hp]; exact .pure _
 | g :: t, pre, h => by
  have hv : j.l[pre.length]? = some g := by rw [h]; simp
  have hlt : pre.length < j.l.length := by rw [h]; simp
  have hg : g ∈ j.l := by rw [h]; simp
  have ih := recs_suf j hl hx t (pre ++ [g]) (by rw [h]; simp)
  refine Evt.succ (fun k => by rw [journal_Journal_Records.l0]) ?_
  refine Evt.pos (by simpa using hlt) ?_
  refine Evt.some_bind (a := g) (by rw [rd_nat]; exact hv) ?_
  refine (bclone_ev g (by have := hx g hg; omega)).bind ?_
  refine Evt.pos (by rw [decide_eq_true_eq]; simp only [List.length_cons, List.length_nil]; omega) ?_
  rw [wrap_nat (by omega)]
  rw [List.length_append] at ih
  exact ih
theorem recs_ev (j : Jn) (hl : j.l.length ≤ 1000000000000) (hx : ∀ x ∈ j.l, x.length ≤ 1000000000000) : Evt (fun k => journal_Journal_Records.f k j D) (j.l, (⟨(), j.snap, j.l, j.stopped⟩ : Jn)) := by
 simp only [journal_Journal_Records.f, journal_Journal_none.f, Option.bind_some]
 refine Evt.neg (by decide) ?_
 exact recs_suf ⟨(), j.snap, j.l, j.stopped⟩ hl hx j.l [] rfl
theorem eqF_suf (l : List (List Int)) (hl : l.length < 9223372036854775807) : ∀ suf pre, l = pre ++ suf → Evt (fun k => slices_EqualFunc_byte__byte__byte__byte.l0 k (pre.length : Int) l l) true
 | [], pre, h => Evt.succ (fun k => by rw [slices_EqualFunc_byte__byte__byte__byte.l0]) (Evt.neg (by rw [h]; simp) (.pure _))
 | g :: t, pre, h => by
  have hv : l[pre.length]? = some g := by rw [h]; simp
  have hlt : pre.length < l.length := by rw [h]; simp
  have ih := eqF_suf l hl t (pre ++ [g]) (by rw [h]; simp)
  refine Evt.succ (fun k => by rw [slices_EqualFunc_byte__byte__byte__byte.l0]) ?_
  refine Evt.pos (by simpa using hlt) ?_
  refine Evt.some_bind (a := g) (by rw [rd_nat]; exact hv) ?_
  refine Evt.some_bind (a := g) (by rw [rd_nat]; exact hv) ?_
  refine (bytesEq_ev g).bind (Evt.pos rfl ?_)
  rw [wrap_nat (by omega)]
  rw [List.length_append] at ih
  exact ih
theorem sameT_ev (l : List (List Int)) (hl : l.length < 9223372036854775807) : Evt (fun k => dossierplain_SameTexts.f k l l) true := by
 simp only [dossierplain_SameTexts.f, slices_EqualFunc_byte__byte__byte__byte.f]
 refine Evt.bind (a := true) ?_ (.pure _)
 exact Evt.neg (by simp) (eqF_suf l hl l [] rfl)
theorem same_ss (h : Rel N D none Y) (hN : N ≤ 1000000000) (b : Jr) (hs : b.Stop = false) (h1 : b.Snap.length ≤ 1000000000000) (h2 : b.L.length ≤ 1000000000000) (h3 : ∀ x ∈ b.L, x.length ≤ 1000000000000) :
  ∃ r, Evt (fun k => dossierlaw04_pair_same_22xx.f k (⟨(), (), (), ()⟩ : dossierlaw04_pair) (⟨(), b.Snap, b.L, false⟩ : Jn) (⟨(), b.Snap, b.L, b.Stop⟩ : Jr) D Y) r ∧ r.1 = true := by
 have hsn : Evt (fun k => journal_Journal_Snapshot.f k (⟨(), b.Snap, b.L, false⟩ : Jn) D) (b.Snap, (⟨(), b.Snap, b.L, false⟩ : Jn)) := by
  simp only [journal_Journal_Snapshot.f, journal_Journal_none.f, Option.bind_some]
  exact Evt.neg (by decide) ((bclone_ev b.Snap (by omega)).bind (.pure _))
 have hst : ∀ k, journal_Journal_Stopped.f k (⟨(), b.Snap, b.L, false⟩ : Jn) D = some (false, (⟨(), b.Snap, b.L, false⟩ : Jn)) := fun k => rfl
 refine ⟨((false == b.Stop), (⟨(), (), (), ()⟩ : dossierlaw04_pair), (⟨(), b.Snap, b.L, false⟩ : Jn), (⟨(), b.Snap, b.L, b.Stop⟩ : Jr)), ?_, by rw [hs]; rfl⟩
 simp only [dossierlaw04_pair_same_22xx.f]
 refine (same0 h hN).bind (Evt.pos rfl ?_)
 refine hsn.bind ?_
 refine (bytesEq_ev b.Snap).bind (Evt.pos rfl ?_)
 refine (recs_ev ⟨(), b.Snap, b.L, false⟩ h2 h3).bind ?_
 refine (sameT_ev b.L (by omega)).bind (Evt.pos rfl ?_)
 exact .pure _
end Go.Abs.GenO
