import Derived.Test.YtkcaljadkfpefaaDoorPlQC
set_option linter.unnecessarySimpa false
set_option linter.unusedVariables false
set_option linter.unusedSimpArgs false
set_option maxRecDepth 100000
set_option maxHeartbeats 4000000
namespace Go.Abs.GenQ
open Go.Abs
theorem aw : (fun k => dossierlaw18_awake.f (k + 40)) = fun _ => some true := by kernel_rfl
theorem awake_ev : Evt (fun k => dossierlaw18_awake.f k) true := ⟨40, fun k hk => by
 have h : dossierlaw18_awake.f (k - 40 + 40) = some true := congrFun aw (k - 40)
 rwa [show k - 40 + 40 = k by omega] at h⟩
/-- a loop whose end looks at where it stands. -/
theorem loop_preI {α β : Type} {xs : List α} {F : Nat → Int → Option β} {G : Nat → Int → α → Option β} {E : Nat → Int → Option β} (hn : xs.length < 9223372036854775807)
  (hF : ∀ k i, F (k + 1) i = if (decide (i < (xs.length : Int))) = true then ((rd xs i).bind fun v => G k i v) else E k i)
  {R : List α → β} (he : Evt (fun k => E k (xs.length : Int)) (R []))
  (hs : ∀ pre v suf, xs = pre ++ v :: suf → Evt (fun k => F k (IntKind.i64.wrap ((pre.length : Nat) + 1))) (R suf) → Evt (fun k => G k ((pre.length : Nat) : Int) v) (R (v :: suf))) :
  ∀ (suf pre : List α), xs = pre ++ suf → Evt (fun k => F k (pre.length : Int)) (R suf) := by
 intro suf
 induction suf with
 | nil =>
  intro pre hx
  have hp : (pre.length : Int) = (xs.length : Int) := by rw [hx]; simp
  refine Evt.succ (fun k => hF k _) (Evt.neg ?_ ?_)
  ·simp [hp]
  ·rw [hp]; exact he
 | cons v suf ih =>
  intro pre hx
  have hi : pre.length < xs.length := by rw [hx]; simp
  have hv : xs[pre.length]? = some v := by rw [hx]; simp
  refine Evt.succ (fun k => hF k _) (Evt.pos (by simpa using hi) (Evt.some_bind (by rw [rd_nat]; exact hv) ?_))
  refine hs pre v suf hx ?_
  have := ih (pre ++ [v]) (by rw [hx]; simp)
  rw [List.length_append] at this
  rw [wrap_nat (by omega)]
  exact this
/-- where a further instance goes. -/
def placeP (c : api_Case) (x : api_Inst) (i : Int) : Nat := if i < 0 then c.Insts.length else i.toNat
def putI (c : api_Case) (x : api_Inst) (n : Nat) : api_Case := ⟨c.ID, c.Model, c.Insts.take n ++ (x :: c.Insts.drop n), c.Docs, c.Clock⟩
def putS (c : api_Case) (x : api_Inst) (n : Nat) : api_Case := ⟨c.ID, c.Model, c.Insts.set n x, c.Docs, c.Clock⟩
def putP (c : api_Case) (x : api_Inst) : api_Case :=
 if idxL x.Path c.Insts.length c.Insts < 0 then putI c x (placeP c x (firstG x c.Insts.length c.Insts)) else putS c x (idxL x.Path c.Insts.length c.Insts).toNat
theorem first_le (x : api_Inst) (c : api_Case) : placeP c x (firstG x c.Insts.length c.Insts) ≤ c.Insts.length := by
 rcases first_at x c.Insts c.Insts [] rfl (by simp) with ⟨h4, _⟩ | ⟨p, y, q, h4, h5, _, _⟩
 ·rw [h4]; simp [placeP]
 ·rw [h5]
  have : p.length ≤ c.Insts.length := by rw [h4]; simp
  simp only [placeP]; split <;> omega
theorem tree_put (c : api_Case) (x : api_Inst) (h : Fine c) (hx : x.Path.size ≤ 1048576) (hl : x.Latches.length ≤ 1048576) : Evt (fun k => tree_Put.f k c x) (putP c x) := by
 have hlen := h.insts
 simp only [tree_Put.f]
 rcases find_idx x.Path c.Insts c.Insts [] rfl with ⟨h1, _⟩ | ⟨n, y, h1, h2, _⟩
 ·have hp := first_le x c
  refine (tree_copy c h).bind ((tree_own_ev x hl).bind ((tree_index_ev c x.Path h).bind (Evt.neg (by simp; omega) ((first_ev _ x hlen h.path hx).bind ?_))))
  rw [putP, if_pos h1]
  by_cases hq : firstG x c.Insts.length c.Insts < 0
  ·refine Evt.pos (by simpa using hq) (Evt.pos (by simp; omega) ?_)
   simp only [placeP, if_pos hq, putI, Int.toNat_natCast]; exact .pure _
  ·refine Evt.neg (by simpa using hq) (Evt.pos ?_ ?_)
   ·simp only [placeP, if_neg hq] at hp
    simp; omega
   ·simp only [placeP, if_neg hq, putI]; exact .pure _
 ·have hn : n < c.Insts.length := (List.getElem?_eq_some_iff.mp h2).1
  refine (tree_copy c h).bind ((tree_own_ev x hl).bind ((tree_index_ev c x.Path h).bind (Evt.pos (by rw [h1]; simp) (Evt.some_bind (a := y) (by rw [h1, rd_nat]; exact h2) ?_))))
  rw [putP, if_neg (by omega)]
  exact .pure _
theorem doc_own (d : api_Doc) (h : d.Refs.length ≤ 1048576) : Evt (fun k => dossierref16_Copy.f k d) d := by
 simp only [dossierref16_Copy.f]
 exact Evt.pos (by simp; omega) (.pure _)
theorem ref_copy (c : api_Case) (h : Fine c) : Evt (fun k => dossierref18_Copy.f k c) c := by
 simp only [dossierref18_Copy.f]
 have hi := h.insts
 have hd := h.docs
 have docs : ∀ is : List api_Inst, Evt (fun k => dossierref18_Copy.l1 k ([] : List api_Doc) 0 c is) (⟨c.ID, c.Model, is, c.Docs, c.Clock⟩ : api_Case) := by
  intro is
  have := loop_all (xs := c.Docs) (F := fun k i s => dossierref18_Copy.l1 k s i c is) (E := fun _ s => some (⟨c.ID, c.Model, is, s, c.Clock⟩ : api_Case)) (by omega) (fun k i s => by rw [dossierref18_Copy.l1]) (Good := fun suf s => (∀ y ∈ suf, y ∈ c.Docs) ∧ s.length + suf.length ≤ 1048576) (R := fun suf s => (⟨c.ID, c.Model, is, s ++ suf, c.Clock⟩ : api_Case)) (fun s _ => by simpa using Evt.pure _)
   (fun i v suf s hi hv hg ih => by
    obtain ⟨g1, g3⟩ := hg
    simp only [List.length_cons] at g3
    refine Evt.bind (doc_own _ (h.refs v (g1 v (by simp)))) (Evt.pos (by simp; omega) ?_)
    have := ih (s ++ [v]) ⟨fun y hy => g1 y (by simp [hy]), by simp; omega⟩
    simpa using this) [] ⟨fun y hy => hy, by simpa using hd⟩
  simpa using this
 have := loop_all (xs := c.Insts) (F := fun k i s => dossierref18_Copy.l0 k s i c) (E := fun k s => dossierref18_Copy.l1 k ([] : List api_Doc) 0 c s) (by omega) (fun k i s => by rw [dossierref18_Copy.l0]) (Good := fun suf s => (∀ y ∈ suf, y ∈ c.Insts) ∧ s.length + suf.length ≤ 1048576) (R := fun suf s => (⟨c.ID, c.Model, s ++ suf, c.Docs, c.Clock⟩ : api_Case)) (fun s _ => by simpa using docs s)
  (fun i v suf s hi hv hg ih => by
   obtain ⟨g1, g3⟩ := hg
   simp only [List.length_cons] at g3
   refine Evt.bind (ref_own v (h.latches v (g1 v (by simp)))) (Evt.pos (by simp; omega) ?_)
   have := ih (s ++ [v]) ⟨fun y hy => g1 y (by simp [hy]), by simp; omega⟩
   simpa using this) [] ⟨fun y hy => hy, by simpa using hi⟩
 simpa using this
/-- what the document's put ends with. -/
theorem built (c : api_Case) (x : api_Inst) (n : Nat) (hn : n ≤ c.Insts.length) (hl : c.Insts.length ≤ 1048576) : Evt (fun _ => if (decide ((0 : Nat) ≤ 0 ∧ 0 ≤ (n : Int) ∧ (n : Int) ≤ (c.Insts.length : Int))) = true then (if (decide (([] : List api_Inst).length + (sub c.Insts 0 n).length ≤ 1759218604441)) = true then (if (decide ((sub c.Insts 0 n).length + ([x] : List api_Inst).length ≤ 1759218604441)) = true then (if (decide (0 ≤ (n : Int) ∧ (n : Int) ≤ (c.Insts.length : Int) ∧ (c.Insts.length : Int) ≤ (c.Insts.length : Int))) = true then (if (decide (((sub c.Insts 0 n) ++ ([x] : List api_Inst)).length + (sub c.Insts n (c.Insts.length : Int)).length ≤ 1759218604441)) = true then (some (⟨c.ID, c.Model, ((sub c.Insts 0 n) ++ ([x] : List api_Inst)) ++ (sub c.Insts n (c.Insts.length : Int)), c.Docs, c.Clock⟩ : api_Case)) else none) else none) else none) else none) else none) (putI c x n) := by
 rw [sub_take, sub_all]
 refine Evt.pos (by simp; omega) (Evt.pos (by simp; omega) (Evt.pos (by simp; omega) (Evt.pos (by simp; omega) (Evt.pos (by simp; omega) ?_))))
 have e : (c.Insts.take n ++ [x]) ++ c.Insts.drop n = c.Insts.take n ++ (x :: c.Insts.drop n) := by simp
 rw [e]; exact .pure _
theorem ref_put (c : api_Case) (x : api_Inst) (h : Fine c) (hx : x.Path.size ≤ 1048576) (hl : x.Latches.length ≤ 1048576) : Evt (fun k => dossierref18_Put.f k c x) (putP c x) := by
 have hlen := h.insts
 simp only [dossierref18_Put.f]
 refine (ref_copy c h).bind ((ref_own x hl).bind ?_)
 have place : Evt (fun k => dossierref18_Put.l1 k 0 c x) (putI c x (placeP c x (firstG x c.Insts.length c.Insts))) :=
  loop_preI (xs := c.Insts) (F := fun k i => dossierref18_Put.l1 k i c x) (by omega) (fun k i => by rw [dossierref18_Put.l1])
   (R := fun suf => putI c x (placeP c x (firstG x c.Insts.length suf))) (by
    have e : placeP c x (firstG x c.Insts.length []) = c.Insts.length := by simp [firstG, placeP]
    show Evt _ (putI c x (placeP c x (firstG x c.Insts.length [])))
    rw [e]
    exact built c x _ (Nat.le_refl _) hlen)
   (fun pre v suf hxs ih => by
    have hv : v ∈ c.Insts := by rw [hxs]; simp
    refine Evt.bind (ref_order _ _ (h.path v hv) hx) ?_
    have hpr : c.Insts.length - (suf.length + 1) = pre.length := by rw [hxs]; simp
    simp only [firstG, hpr]
    by_cases hq : ordP v.Path x.Path > 0
    ·rw [if_pos hq]
     refine Evt.neg (by simpa using hq) ?_
     have e : placeP c x ((pre.length : Nat) : Int) = pre.length := by simp [placeP]; omega
     rw [e]
     exact built c x pre.length (by rw [hxs]; simp) hlen
    ·rw [if_neg hq]
     exact Evt.pos (by simpa using hq) ih) c.Insts [] rfl
 have := loop_pre (xs := c.Insts) (F := fun k i (_ : Unit) => dossierref18_Put.l0 k i c x) (E := fun k _ => dossierref18_Put.l1 k 0 c x) (by omega) (fun k i s => by rw [dossierref18_Put.l0])
  (R := fun suf _ => if idxL x.Path c.Insts.length suf < 0 then putI c x (placeP c x (firstG x c.Insts.length c.Insts)) else putS c x (idxL x.Path c.Insts.length suf).toNat)
  (fun s => by simpa [idxL] using place)
  (fun pre v suf s hxs ih => by
   have hpr : c.Insts.length - (suf.length + 1) = pre.length := by rw [hxs]; simp
   simp only [idxL, hpr]
   by_cases hq : sameStr v.Path x.Path = true
   ·simp only [hq, if_true]
    rw [if_neg (by omega)]
    refine Evt.pos (by simpa [sameStr] using hq) (Evt.some_bind (a := v) (by rw [rd_nat, hxs]; simp) ?_)
    exact .pure _
   ·simp only [hq, if_false]
    exact Evt.neg (by simpa [sameStr] using hq) (by simpa using ih ())) c.Insts [] () rfl
 exact this
theorem put_mem (c : api_Case) (x : api_Inst) : ∀ y ∈ (putP c x).Insts, y = x ∨ y ∈ c.Insts := by
 intro y hy
 unfold putP at hy
 split at hy
 ·simp only [putI, List.mem_append, List.mem_cons] at hy
  rcases hy with h | rfl | h
  ·exact .inr (List.mem_of_mem_take h)
  ·exact .inl rfl
  ·exact .inr (List.mem_of_mem_drop h)
 ·exact (List.mem_or_eq_of_mem_set hy).symm
theorem put_len (c : api_Case) (x : api_Inst) : (putP c x).Insts.length ≤ c.Insts.length + 1 := by
 unfold putP
 split
 ·simp only [putI, List.length_append, List.length_cons, List.length_take, List.length_drop]; omega
 ·simp [putS]
theorem put_fine (c : api_Case) (x : api_Inst) (h : Fine c) (hn : c.Insts.length + 1 ≤ 1048576) (hx : x.Path.size ≤ 1048576) (hl : x.Latches.length ≤ 1048576) : Fine (putP c x) := by
 have hd : (putP c x).Docs = c.Docs := by unfold putP; split <;> rfl
 refine ⟨Nat.le_trans (put_len c x) hn, by rw [hd]; exact h.docs, fun y hy => ?_, fun y hy => ?_, by rw [hd]; exact h.refs⟩
 ·rcases put_mem c x y hy with rfl | hy
  ·exact hx
  ·exact h.path y hy
 ·rcases put_mem c x y hy with rfl | hy
  ·exact hl
  ·exact h.latches y hy
theorem same_refl (c : api_Case) (h : Fine c) : Evt (fun k => dossierref18_Same.f k c c) true := by
 have := ref_same c c h
 rwa [sameCase_refl] at this
theorem puts_ev (c : api_Case) (x : api_Inst) (h : Fine c) (hn : c.Insts.length + 1 ≤ 1048576) (hx : x.Path.size ≤ 1048576) (hl : x.Latches.length ≤ 1048576) : Evt (fun k => dossierlaw18_TreePuts.f k c x) true := by
 simp only [dossierlaw18_TreePuts.f]
 have aw := awake_ev.map
 have hf := put_fine c x h hn hx hl
 obtain ⟨b, hb⟩ := plain_case c h
 refine hb.bind ?_
 cases b with
 | false => exact Evt.pos rfl aw
 | true =>
  refine Evt.neg (by simp) ?_
  by_cases hq : decide ((x.Path.size : Int) > 400) = true
  ·exact Evt.pos hq aw
  ·refine Evt.neg hq ((ref_copy c h).bind ((tree_put c x h hx hl).bind ((ref_put c x h hx hl).bind ((same_refl _ hf).bind (Evt.pos ?_ (Evt.pos rfl ((same_refl c h).bind (Evt.pos rfl aw))))))))
   simp only [small, Bool.and_eq_true, decide_eq_true_eq, List.all_eq_true]
   have h1 := hf.insts
   exact ⟨by omega, fun y hy => by have := hf.latches y hy; omega⟩
theorem puts_true (c : api_Case) (x : api_Inst) (h : bk_api_Case c + bk_api_Inst x ≤ 1048576) : ∃ k, dossierlaw18_TreePuts.f k c x = some true := by
 have h1 := bk_Inst_ge x
 have hf := fine c (by omega)
 have h2 := bkL_len bk_Inst_ge c.Insts
 have h3 : bk_api_Case c ≥ (bkL bk_api_Inst) c.Insts + 1 := by unfold bk_api_Case; omega
 have e : bk_api_Inst x = x.Path.size + 1 + bkS x.Item + bk1 x.State + bk1 x.Before + bkL bk1 x.Latches + bk1 x.Due + 1 := rfl
 have h5 := bkL_len bk1_ge x.Latches
 exact (puts_ev c x hf (by omega) (by omega) (by omega)).get
end Go.Abs.GenQ
