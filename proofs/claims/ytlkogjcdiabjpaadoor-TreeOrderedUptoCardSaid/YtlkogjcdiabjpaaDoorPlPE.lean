import Derived.Test.YtlkogjcdiabjpaaDoorPlPD
set_option linter.unusedVariables false
set_option linter.unusedSimpArgs false
set_option maxRecDepth 100000
set_option maxHeartbeats 4000000
namespace Go.Abs.GenP
open Go.Abs
theorem sorted_ev (l : List api_Inst) (hl : l.length ≤ 1048577) (hp : ∀ y ∈ l, y.Path.size ≤ 1048576) (hs : Srt l) : Evt (fun k => slices_IsSortedFunc_api_Inst_api_Inst.f k l) true := by
 simp only [slices_IsSortedFunc_api_Inst_api_Inst.f]
 have all : ∀ n : Nat, n < l.length → Evt (fun k => slices_IsSortedFunc_api_Inst_api_Inst.l0 k (n : Int) l) true := by
  intro n
  induction n with
  | zero =>
   intro hn
   exact Evt.succ (fun k => by rw [slices_IsSortedFunc_api_Inst_api_Inst.l0]) (Evt.neg (by simp) (.pure _))
  | succ n ih =>
   intro hn
   refine Evt.succ (fun k => by rw [slices_IsSortedFunc_api_Inst_api_Inst.l0]) (Evt.pos (by simp) (Evt.some_bind (rd_lt hn) ?_))
   have e : IntKind.i64.wrap (((n + 1 : Nat) : Int) - 1) = (n : Int) := by rw [wrap_i64 (by omega) (by omega)]; omega
   rw [e]
   refine Evt.some_bind (rd_lt (by omega)) ?_
   refine Evt.bind (a := ordP l[n + 1].Path l[n].Path) (by simp only [dossierlaw18_TreeOrdered_1.f]; exact (tree_order _ _ (hp _ (List.getElem_mem _)) (hp _ (List.getElem_mem _))).map) ?_
   have h1 : ordP l[n].Path l[n + 1].Path < 0 := (List.pairwise_iff_getElem.mp hs) n (n + 1) (by omega) hn (by omega)
   have h2 := ordP_lin.neg l[n].Path l[n + 1].Path
   exact Evt.neg (by simp; omega) (ih (by omega))
 rcases Nat.eq_zero_or_pos l.length with h0 | h0
 ·rw [h0]
  refine Evt.succ (fun k => by rw [slices_IsSortedFunc_api_Inst_api_Inst.l0]) (Evt.neg (by decide) (.pure _))
 ·have e : IntKind.i64.wrap ((l.length : Int) - 1) = ((l.length - 1 : Nat) : Int) := by rw [wrap_i64 (by omega) (by omega)]; omega
  rw [e]
  exact all _ (by omega)
/-- the built case, behind the paths of `pre`. -/
structure Made (c m : api_Case) (pre : List api_Inst) : Prop where
 srt : Srt m.Insts
 from_ : ∀ y ∈ m.Insts, y ∈ c.Insts
 has : ∀ y ∈ pre, ∃ z ∈ m.Insts, z.Path = y.Path
 len : m.Insts.length ≤ pre.length
 docs : m.Docs = []
theorem Made.fine {c m : api_Case} {pre : List api_Inst} (h : Made c m pre) (hc : Fine c) (hl : pre.length ≤ c.Insts.length) : Fine m :=
 ⟨Nat.le_trans h.len (Nat.le_trans hl hc.insts), by rw [h.docs]; simp, fun x hx => hc.path x (h.from_ x hx), fun x hx => hc.latches x (h.from_ x hx), by rw [h.docs]; simp⟩
theorem ordered_ev (c : api_Case) (x : api_Inst) (h : Fine c) (hn : c.Insts.length + 1 ≤ 1048576) (hx : x.Path.size ≤ 1048576) (hl : x.Latches.length ≤ 1048576) : Evt (fun k => dossierlaw18_TreeOrdered.f k c x) true := by
 have aw := awake_ev.map
 have fin : ∀ m m' : api_Case, Made c m c.Insts → Put m m' x → Evt (fun k => dossierlaw18_TreeOrdered.l1 k 0 c m' true) true := by
  intro m m' hm hp
  have hf : Fine m' := ⟨Nat.le_trans hp.len (by have := hm.len; omega), by rw [hp.docs, hm.docs]; simp, fun y hy => by
   rcases hp.from_ y hy with rfl | h1
   ·exact hx
   ·exact h.path y (hm.from_ y h1), fun y hy => by
   rcases hp.from_ y hy with rfl | h1
   ·exact hl
   ·exact h.latches y (hm.from_ y h1), by rw [hp.docs, hm.docs]; simp⟩
  exact loop_pre (xs := c.Insts) (F := fun k i (_ : Unit) => dossierlaw18_TreeOrdered.l1 k i c m' true) (E := fun k _ => if true = true then ((dossierlaw18_awake.f k).bind fun r22 => some r22) else (some false)) (by omega) (fun k i s => by rw [dossierlaw18_TreeOrdered.l1])
   (R := fun _ _ => true) (fun s => Evt.pos rfl aw)
   (fun pre v suf s hxs ih => by
    obtain ⟨z, hz, he⟩ := hm.has v (by rw [hxs]; simp)
    obtain ⟨w, hw, he'⟩ := hp.keep z hz
    refine (tree_find m' v.Path hf).bind ?_
    rw [← he, ← he', find_mem _ _ hp.srt hw]
    exact Evt.pos rfl (ih ())) c.Insts [] () rfl
 have put : ∀ (suf pre : List api_Inst) (m : api_Case), c.Insts = pre ++ suf → Made c m pre → Evt (fun k => dossierlaw18_TreeOrdered.l0 k m (pre.length : Int) c x) true := by
  intro suf
  induction suf with
  | nil =>
   intro pre m hc hm
   have hpre : pre = c.Insts := by rw [hc, List.append_nil]
   refine Evt.succ (fun k => by rw [dossierlaw18_TreeOrdered.l0]) (Evt.neg (by rw [hpre]; simp) ?_)
   obtain ⟨m', e1, hp⟩ := put_ev m x (hm.fine h (by rw [hpre]; exact Nat.le_refl _)) hm.srt hx hl
   have hf : Fine m' := ⟨Nat.le_trans hp.len (by have := hm.len; rw [hpre] at this; omega), by rw [hp.docs, hm.docs]; simp, fun y hy => by
    rcases hp.from_ y hy with rfl | h1
    ·exact hx
    ·exact h.path y (hm.from_ y h1), fun y hy => by
    rcases hp.from_ y hy with rfl | h1
    ·exact hl
    ·exact h.latches y (hm.from_ y h1), by rw [hp.docs, hm.docs]; simp⟩
   refine e1.bind ((tree_find m' x.Path hf).bind ?_)
   rw [find_mem _ _ hp.srt hp.mem]
   refine Evt.pos rfl (Evt.bind (ref_sameInst x x hl) ?_)
   rw [sameInst_refl]
   refine Evt.pos rfl (Evt.bind (sorted_ev m'.Insts (by have := hf.insts; omega) hf.path hp.srt) ?_)
   exact fin m m' (by rw [← hpre]; exact hm) hp
  | cons v suf ih =>
   intro pre m hc hm
   have hi : pre.length < c.Insts.length := by rw [hc]; simp
   have hv : c.Insts[pre.length]? = some v := by rw [hc]; simp
   have hvm : v ∈ c.Insts := by rw [hc]; simp
   refine Evt.succ (fun k => by rw [dossierlaw18_TreeOrdered.l0]) (Evt.pos (by simpa using hi) (Evt.some_bind (by rw [rd_nat]; exact hv) ?_))
   obtain ⟨m', e1, hp⟩ := put_ev m v (hm.fine h (by omega)) hm.srt (h.path v hvm) (h.latches v hvm)
   refine e1.bind ?_
   rw [wrap_nat (by omega)]
   have := ih (pre ++ [v]) m' (by rw [hc]; simp) ⟨hp.srt, fun y hy => by
    rcases hp.from_ y hy with rfl | h1
    ·exact hvm
    ·exact hm.from_ y h1, fun y hy => by
    rcases List.mem_append.mp hy with h1 | h1
    ·obtain ⟨z, hz, he⟩ := hm.has y h1
     obtain ⟨w, hw, he'⟩ := hp.keep z hz
     exact ⟨w, hw, he'.trans he⟩
    ·rw [List.mem_singleton.mp h1]; exact ⟨v, hp.mem, rfl⟩, by have := hp.len; have := hm.len; simp only [List.length_append, List.length_singleton]; omega, hp.docs.trans hm.docs⟩
   rw [List.length_append] at this
   exact this
 simp only [dossierlaw18_TreeOrdered.f]
 obtain ⟨b, hb⟩ := plain_case c h
 refine hb.bind ?_
 cases b with
 | false => exact Evt.neg (by decide) aw
 | true =>
  refine Evt.pos rfl ?_
  by_cases hq : (x.Path.size : Int) > 400
  ·exact Evt.pos (by simpa using hq) aw
  ·exact Evt.neg (by simpa using hq) (put c.Insts [] _ rfl ⟨by simp, by simp, by simp, by simp, rfl⟩)
theorem ordered_true (c : api_Case) (x : api_Inst) (h : bk_api_Case c + bk_api_Inst x ≤ 1048576) : ∃ k, dossierlaw18_TreeOrdered.f k c x = some true := by
 have h1 := bk_Inst_ge x
 have hf := fine c (by omega)
 have h2 := bkL_len bk_Inst_ge c.Insts
 have h3 : bk_api_Case c ≥ (bkL bk_api_Inst) c.Insts + 1 := by unfold bk_api_Case; omega
 have e : bk_api_Inst x = x.Path.size + 1 + bkS x.Item + bk1 x.State + bk1 x.Before + bkL bk1 x.Latches + bk1 x.Due + 1 := rfl
 have h5 := bkL_len bk1_ge x.Latches
 exact (ordered_ev c x hf (by omega) (by omega) (by omega)).get
end Go.Abs.GenP
