import Derived.Test.YtjaefjcbfjjfnaaPlTreeB
import Derived.Test.YtjaefjcbfjjfnaaGenGd
set_option linter.unusedVariables false
set_option linter.unusedSimpArgs false
set_option maxRecDepth 100000
set_option maxHeartbeats 4000000
namespace Go.Abs.GenG
open Go.Abs

/-! ### an instance -/
theorem clone_int (l : List Int) (h : l.length ≤ 1048576) : Evt (fun k => slices_Clone_int_int.f k l) l := by
  simp only [slices_Clone_int_int.f]
  exact Evt.pos (by simp; omega) (.pure l)
theorem clone_str (l : List ByteArray) (h : l.length ≤ 1048576) : Evt (fun k => slices_Clone_string_string.f k l) l := by
  simp only [slices_Clone_string_string.f]
  exact Evt.pos (by simp; omega) (.pure l)
theorem tree_own_ev (x : api_Inst) (h : x.Latches.length ≤ 1048576) : Evt (fun k => tree_own.f k x) x := by
  simp only [tree_own.f]
  exact Evt.bind (clone_int _ h) (.pure x)
theorem ref_own (x : api_Inst) (h : x.Latches.length ≤ 1048576) : Evt (fun k => dossierref18_CopyInst.f k x) x := by
  simp only [dossierref18_CopyInst.f]
  exact Evt.pos (by simp; omega) (.pure x)

/-! ### find -/
def nobody : api_Inst := ⟨(⟨#[]⟩ : ByteArray), (⟨#[]⟩ : ByteArray), 0, 0, ([] : List Int), 0⟩
def findL (p : ByteArray) : List api_Inst → api_Inst × Bool
  | [] => (nobody, false)
  | x :: xs => if sameStr x.Path p = true then (x, true) else findL p xs
def idxL (p : ByteArray) (n : Nat) : List api_Inst → Int
  | [] => -1
  | x :: xs => if sameStr x.Path p = true then ((n - (xs.length + 1) : Nat) : Int) else idxL p n xs
theorem tree_index_ev (c : api_Case) (p : ByteArray) (h : Fine c) : Evt (fun k => tree_index.f k c p) (idxL p c.Insts.length c.Insts) := by
  simp only [tree_index.f, slices_IndexFunc_api_Inst_api_Inst.f]
  have hi := h.insts
  have := loop_pre (xs := c.Insts) (F := fun k i (s : ByteArray) => slices_IndexFunc_api_Inst_api_Inst.l0 k s i c.Insts) (E := fun _ s => some (-1, s)) (by omega) (fun k i s => by rw [slices_IndexFunc_api_Inst_api_Inst.l0])
    (R := fun suf s => (idxL s c.Insts.length suf, s)) (fun s => .pure _)
    (fun pre v suf s hx ih => by
      refine Evt.bind (a := (sameStr v.Path s, s)) (by simp only [tree_index_1.f]; exact .pure _) ?_
      have hp : c.Insts.length - (suf.length + 1) = pre.length := by rw [hx]; simp
      simp only [idxL, hp]
      by_cases hq : sameStr v.Path s = true
      · simp only [hq, if_true]; exact .pure _
      · simp only [hq, if_false]
        exact ih s) c.Insts [] p rfl
  exact Evt.bind this (.pure _)
theorem find_idx (p : ByteArray) (c : List api_Inst) : ∀ (suf pre : List api_Inst), c = pre ++ suf → (idxL p c.length suf < 0 ∧ findL p suf = (nobody, false)) ∨ (∃ n x, idxL p c.length suf = ((n : Nat) : Int) ∧ c[n]? = some x ∧ findL p suf = (x, true))
  | [], pre, _ => .inl ⟨by simp [idxL], rfl⟩
  | x :: xs, pre, hx => by
    by_cases hq : sameStr x.Path p = true
    · have hp : c.length - (xs.length + 1) = pre.length := by rw [hx]; simp
      refine .inr ⟨pre.length, x, by rw [idxL, if_pos hq, hp], by rw [hx]; simp, by rw [findL, if_pos hq]⟩
    · rw [idxL, if_neg hq, findL, if_neg hq]
      exact find_idx p c xs (pre ++ [x]) (by rw [hx]; simp)
theorem tree_find (c : api_Case) (p : ByteArray) (h : Fine c) : Evt (fun k => tree_Find.f k c p) (findL p c.Insts) := by
  simp only [tree_Find.f]
  refine Evt.bind (tree_index_ev c p h) ?_
  rcases find_idx p c.Insts c.Insts [] rfl with ⟨h1, h2⟩ | ⟨n, x, h1, h2, h3⟩
  · rw [h2]
    exact Evt.pos (by simpa using h1) (.pure _)
  · rw [h1, h3]
    exact Evt.neg (by simp) (Evt.some_bind (by rw [rd_nat]; exact h2) (Evt.bind (tree_own_ev x (h.latches x (mem_at h2))) (.pure _)))
theorem ref_find (c : api_Case) (p : ByteArray) (h : Fine c) : Evt (fun k => dossierref18_Find.f k c p) (findL p c.Insts) := by
  simp only [dossierref18_Find.f]
  have hi := h.insts
  have := loop_pre (xs := c.Insts) (F := fun k i (s : Unit) => dossierref18_Find.l0 k i c p) (E := fun _ s => some (nobody, false)) (by omega) (fun k i s => by rw [dossierref18_Find.l0]; rfl)
    (R := fun suf s => findL p suf) (fun s => .pure _)
    (fun pre v suf s hx ih => by
      simp only [findL]
      by_cases hq : sameStr v.Path p = true
      · rw [if_pos hq]
        exact Evt.pos hq (Evt.bind (ref_own v (h.latches v (by rw [hx]; simp))) (.pure _))
      · rw [if_neg hq]
        exact Evt.neg hq (ih ())) c.Insts [] () rfl
  exact this

/-! ### those below -/
theorem tree_some_ev (c : api_Case) (p : ByteArray) (h : Fine c) (q : api_Inst → Bool) (F : Nat → Int → (ByteArray × List api_Inst) → Option (List api_Inst × ByteArray)) (T : Nat → ByteArray → ByteArray → Option (Bool × ByteArray))
    (hT : ∀ x ∈ c.Insts, Evt (fun k => T k x.Path p) (q x, p))
    (hF : ∀ k i s, F (k + 1) i s = if (decide (i < (c.Insts.length : Int))) = true then ((rd c.Insts i).bind fun v5 => (T k v5.Path s.1).bind fun r6 => if r6.1 = true then ((tree_own.f k v5).bind fun r8 => if (decide (s.2.length + ([r8] : List api_Inst).length ≤ 1759218604441)) = true then (F k (IntKind.i64.wrap (i + 1)) (r6.2, s.2 ++ ([r8] : List api_Inst))) else none) else (F k (IntKind.i64.wrap (i + 1)) (r6.2, s.2))) else (some (s.2, s.1))) :
    Evt (fun k => F k 0 (p, [])) (c.Insts.filter q, p) := by
  have hi := h.insts
  have := loop_all (xs := c.Insts) (F := F) (E := fun _ s => some (s.2, s.1)) (by omega) hF (Good := fun suf s => (∀ y ∈ suf, y ∈ c.Insts) ∧ s.1 = p ∧ s.2.length + suf.length ≤ 1048576) (R := fun suf s => (s.2 ++ suf.filter q, s.1)) (fun s _ => by simpa using Evt.pure _)
    (fun i v suf s hi hv hg ih => by
      obtain ⟨g1, g2, g3⟩ := hg
      simp only [List.length_cons] at g3
      have hm := g1 v (by simp)
      refine Evt.bind (a := (q v, p)) (by rw [g2]; exact hT v hm) ?_
      by_cases hq : q v = true
      · refine Evt.pos hq (Evt.bind (tree_own_ev v (h.latches v hm)) (Evt.pos (by simp; omega) ?_))
        have := ih (p, s.2 ++ [v]) ⟨fun y hy => g1 y (by simp [hy]), rfl, by simp; omega⟩
        simpa [List.filter_cons, hq, g2] using this
      · refine Evt.neg hq ?_
        have := ih (p, s.2) ⟨fun y hy => g1 y (by simp [hy]), rfl, by show s.2.length + suf.length ≤ 1048576; omega⟩
        simpa [List.filter_cons, hq, g2] using this) (p, []) ⟨fun y hy => hy, rfl, by simpa using hi⟩
  simpa using this
theorem ref_some_ev (c : api_Case) (h : Fine c) (q : api_Inst → Bool) (F : Nat → Int → List api_Inst → Option (List api_Inst)) (T : Nat → api_Inst → Option Bool)
    (hT : ∀ x ∈ c.Insts, Evt (fun k => T k x) (q x))
    (hF : ∀ k i s, F (k + 1) i s = if (decide (i < (c.Insts.length : Int))) = true then ((rd c.Insts i).bind fun v4 => (T k v4).bind fun r5 => if r5 = true then ((dossierref18_CopyInst.f k v4).bind fun r7 => if (decide (s.length + ([r7] : List api_Inst).length ≤ 1759218604441)) = true then (F k (IntKind.i64.wrap (i + 1)) (s ++ ([r7] : List api_Inst))) else none) else (F k (IntKind.i64.wrap (i + 1)) s)) else (some s)) :
    Evt (fun k => F k 0 []) (c.Insts.filter q) := by
  have hi := h.insts
  have := loop_all (xs := c.Insts) (F := F) (E := fun _ s => some s) (by omega) hF (Good := fun suf s => (∀ y ∈ suf, y ∈ c.Insts) ∧ s.length + suf.length ≤ 1048576) (R := fun suf s => s ++ suf.filter q) (fun s _ => by simpa using Evt.pure _)
    (fun i v suf s hi hv hg ih => by
      obtain ⟨g1, g3⟩ := hg
      simp only [List.length_cons] at g3
      have hm := g1 v (by simp)
      refine Evt.bind (hT v hm) ?_
      by_cases hq : q v = true
      · refine Evt.pos hq (Evt.bind (ref_own v (h.latches v hm)) (Evt.pos (by simp; omega) ?_))
        have := ih (s ++ [v]) ⟨fun y hy => g1 y (by simp [hy]), by simp; omega⟩
        simpa [List.filter_cons, hq] using this
      · refine Evt.neg hq ?_
        have := ih s ⟨fun y hy => g1 y (by simp [hy]), by omega⟩
        simpa [List.filter_cons, hq] using this) [] ⟨fun y hy => hy, by simpa using hi⟩
  simpa using this
def kidB (p : ByteArray) (x : api_Inst) : Bool := sameStr (upS x.Path) p
theorem tree_kids (c : api_Case) (p : ByteArray) (h : Fine c) : Evt (fun k => tree_Kids.f k c p) (c.Insts.filter (kidB p)) := by
  simp only [tree_Kids.f, tree_some.f]
  refine Evt.bind (a := (c.Insts.filter (kidB p), p)) ?_ (.pure _)
  exact tree_some_ev c p h (kidB p) (fun k i s => tree_some.l0 k s.1 s.2 i c) (fun k a b => tree_Kids_1.f k a b) (fun x hx => by
    simp only [tree_Kids_1.f]
    exact Evt.bind (tree_up _ (h.path x hx)) (.pure _)) (fun k i s => by rw [tree_some.l0])
theorem ref_kids (c : api_Case) (p : ByteArray) (h : Fine c) : Evt (fun k => dossierref18_Kids.f k c p) (c.Insts.filter (kidB p)) := by
  simp only [dossierref18_Kids.f]
  exact ref_some_ev c h (kidB p) (fun k i s => dossierref18_Kids.l0 k s i c p) (fun k x => (dossierref18_Up.f k x.Path).bind fun r => some (r.toList == p.toList)) (fun x hx => Evt.bind (ref_up _ (h.path x hx)) (.pure _))
    (fun k i s => by rw [dossierref18_Kids.l0]; simp only [Option.bind_assoc, Option.bind_some])
theorem tree_below (c : api_Case) (p : ByteArray) (h : Fine c) (hp : p.size ≤ 1048576) : Evt (fun k => tree_Below.f k c p) (c.Insts.filter fun x => underS x.Path p) := by
  simp only [tree_Below.f, tree_some_25.f]
  refine Evt.bind (a := (c.Insts.filter fun x => underS x.Path p, p)) ?_ (.pure _)
  exact tree_some_ev c p h _ (fun k i s => tree_some_25.l0 k s.1 s.2 i c) (fun k a b => tree_Below_1.f k a b) (fun x hx => by
    simp only [tree_Below_1.f]
    exact Evt.bind (tree_under _ _ (h.path x hx) hp) (.pure _)) (fun k i s => by rw [tree_some_25.l0])
theorem ref_below (c : api_Case) (p : ByteArray) (h : Fine c) (hp : p.size ≤ 1048576) : Evt (fun k => dossierref18_Below.f k c p) (c.Insts.filter fun x => underS x.Path p) := by
  simp only [dossierref18_Below.f]
  exact ref_some_ev c h _ (fun k i s => dossierref18_Below.l0 k s i c p) (fun k x => dossierref18_Under.f k x.Path p) (fun x hx => ref_under _ _ (h.path x hx) hp) (fun k i s => by rw [dossierref18_Below.l0])

/-! ### the next number -/
def nxt (item : ByteArray) : List api_Inst → Int → Int
  | [], n => n
  | x :: xs, n => nxt item xs (if (lastP x.Path).2 > 0 then (if sameStr (lastP x.Path).1 item = true then (if (lastP x.Path).2 > n then (lastP x.Path).2 else n) else n) else n)
def fin (n : Int) : Int := IntKind.i64.wrap ((if 4611686018427387903 < n then 4611686018427387903 else n) + 1)
theorem tree_next (c : api_Case) (p item : ByteArray) (h : Fine c) : Evt (fun k => tree_Next.f k c p item) (fin (nxt item (c.Insts.filter (kidB p)) 0)) := by
  simp only [tree_Next.f]
  have hi := h.insts
  have := loop_all (xs := c.Insts) (F := fun k i s => tree_Next.l0 k s i c p item) (E := fun _ s => some (fin s)) (by omega) (fun k i s => by rw [tree_Next.l0]; rfl) (Good := fun suf s => ∀ y ∈ suf, y ∈ c.Insts) (R := fun suf s => fin (nxt item (suf.filter (kidB p)) s)) (fun s _ => .pure _)
    (fun i v suf s hi hv hg ih => by
      have hm := hg v (by simp)
      have hg' : ∀ y ∈ suf, y ∈ c.Insts := fun y hy => hg y (by simp [hy])
      refine Evt.bind (tree_last _ (h.path v hm)) (Evt.bind (tree_up _ (h.path v hm)) ?_)
      by_cases hq : kidB p v = true
      · rw [List.filter_cons, if_pos hq]
        simp only [nxt]
        refine Evt.pos hq ?_
        by_cases h1 : (lastP v.Path).2 > 0
        · refine Evt.pos (by simpa using h1) ?_
          by_cases h2 : sameStr (lastP v.Path).1 item = true
          · simp only [h1, h2, if_true]
            exact Evt.pos h2 (ih _ hg')
          · simp only [h1, h2, if_true, if_false]
            exact Evt.neg h2 (ih _ hg')
        · refine Evt.neg (by simpa using h1) ?_
          simp only [h1, if_false]
          exact ih _ hg'
      · rw [List.filter_cons, if_neg hq]
        exact Evt.neg hq (ih _ hg')) 0 (fun y hy => hy)
  exact this
theorem ref_next (c : api_Case) (p item : ByteArray) (h : Fine c) : Evt (fun k => dossierref18_Next.f k c p item) (fin (nxt item (c.Insts.filter (kidB p)) 0)) := by
  simp only [dossierref18_Next.f]
  refine Evt.bind (ref_kids c p h) ?_
  have hi := h.insts
  have hsub : ∀ y ∈ c.Insts.filter (kidB p), y ∈ c.Insts := fun y hy => (List.mem_filter.mp hy).1
  have hlen : (c.Insts.filter (kidB p)).length ≤ c.Insts.length := List.length_filter_le _ _
  generalize c.Insts.filter (kidB p) = l at hsub hlen
  have := loop_all (xs := l) (F := fun k i s => dossierref18_Next.l0 k s i item l) (E := fun _ s => some (fin s)) (by omega) (fun k i s => by rw [dossierref18_Next.l0]; rfl) (Good := fun suf s => ∀ y ∈ suf, y ∈ c.Insts) (R := fun suf s => fin (nxt item suf s)) (fun s _ => .pure _)
    (fun i v suf s hi hv hg ih => by
      have hm := hg v (by simp)
      have hg' : ∀ y ∈ suf, y ∈ c.Insts := fun y hy => hg y (by simp [hy])
      refine Evt.bind (ref_lastP _ (h.path v hm)) ?_
      simp only [nxt]
      by_cases h1 : (lastP v.Path).2 > 0
      · refine Evt.pos (by simpa using h1) ?_
        by_cases h2 : sameStr (lastP v.Path).1 item = true
        · simp only [h1, h2, if_true]
          exact Evt.pos h2 (ih _ hg')
        · simp only [h1, h2, if_true, if_false]
          exact Evt.neg h2 (ih _ hg')
      · refine Evt.neg (by simpa using h1) ?_
        simp only [h1, if_false]
        exact ih _ hg') 0 hsub
  exact this

/-! ### a copy -/
theorem tree_copy (c : api_Case) (h : Fine c) : Evt (fun k => tree_Copy.f k c) c := by
  simp only [tree_Copy.f]
  have hi := h.insts
  have hd := h.docs
  have docs : ∀ is : List api_Inst, Evt (fun k => tree_Copy.l1 k ([] : List api_Doc) 0 c is) (⟨c.ID, c.Model, is, c.Docs, c.Clock⟩ : api_Case) := by
    intro is
    have := loop_all (xs := c.Docs) (F := fun k i s => tree_Copy.l1 k s i c is) (E := fun _ s => some (⟨c.ID, c.Model, is, s, c.Clock⟩ : api_Case)) (by omega) (fun k i s => by rw [tree_Copy.l1]) (Good := fun suf s => (∀ y ∈ suf, y ∈ c.Docs) ∧ s.length + suf.length ≤ 1048576) (R := fun suf s => (⟨c.ID, c.Model, is, s ++ suf, c.Clock⟩ : api_Case)) (fun s _ => by simpa using Evt.pure _)
      (fun i v suf s hi hv hg ih => by
        obtain ⟨g1, g3⟩ := hg
        simp only [List.length_cons] at g3
        refine Evt.bind (clone_str _ (h.refs v (g1 v (by simp)))) (Evt.pos (by simp; omega) ?_)
        have := ih (s ++ [v]) ⟨fun y hy => g1 y (by simp [hy]), by simp; omega⟩
        simpa using this) [] ⟨fun y hy => hy, by simpa using hd⟩
    simpa using this
  have := loop_all (xs := c.Insts) (F := fun k i s => tree_Copy.l0 k s i c) (E := fun k s => tree_Copy.l1 k ([] : List api_Doc) 0 c s) (by omega) (fun k i s => by rw [tree_Copy.l0]) (Good := fun suf s => (∀ y ∈ suf, y ∈ c.Insts) ∧ s.length + suf.length ≤ 1048576) (R := fun suf s => (⟨c.ID, c.Model, s ++ suf, c.Docs, c.Clock⟩ : api_Case)) (fun s _ => by simpa using docs s)
    (fun i v suf s hi hv hg ih => by
      obtain ⟨g1, g3⟩ := hg
      simp only [List.length_cons] at g3
      refine Evt.bind (tree_own_ev v (h.latches v (g1 v (by simp)))) (Evt.pos (by simp; omega) ?_)
      have := ih (s ++ [v]) ⟨fun y hy => g1 y (by simp [hy]), by simp; omega⟩
      simpa using this) [] ⟨fun y hy => hy, by simpa using hi⟩
  simpa using this

/-! ### awake -/
theorem text2 : textS 2 = [50] := by rw [textS, if_neg (by decide)]; exact dig_lt (by decide)
theorem awake_ev : Evt (fun k => dossierlaw18_awake.f k) true := by
  simp only [dossierlaw18_awake.f]
  refine Evt.bind (a := ((⟨#[112, 46, 49]⟩ : ByteArray) ++ (⟨#[47]⟩ : ByteArray)) ++ (((⟨#[116]⟩ : ByteArray) ++ (⟨#[46]⟩ : ByteArray)) ++ ofNums [50])) ?_ ?_
  · simp only [tree_Path.f]
    refine Evt.pos rfl (Evt.bind (a := ofNums [50]) (by rw [← text2]; exact text_ev 2 (by decide) (by decide)) (Evt.pos rfl (Evt.neg ?_ (Evt.pos rfl (Evt.pos rfl (.pure _))))))
    rw [toList_beq]; decide
  · refine Evt.pos (by rw [toList_beq]; decide) (Evt.bind (tree_up _ (by decide)) ?_)
    have e : ((upS (⟨#[112, 46, 49, 47, 116, 46, 50]⟩ : ByteArray)).toList == (⟨#[112, 46, 49]⟩ : ByteArray).toList) = true := by
      rw [toList_beq, upS, bytesI_extract]; decide
    rw [e]
    exact .pure _

theorem plain_case (c : api_Case) (h : Fine c) : Tot (fun k => dossierplain_Case.f k c) := by
  simp only [dossierplain_Case.f]
  have hi := h.insts
  have hd := h.docs
  refine loop_tot (xs := c.Insts) (F := fun k i (_ : Unit) => dossierplain_Case.l0 k i c) (E := fun k _ => dossierplain_Case.l1 k 0 c) (by omega) (fun k i s => by rw [dossierplain_Case.l0]) (fun _ => ?_) (fun i v s _ ih => Tot.ite (.pure _) (Tot.ite (.pure _) (ih ()))) ()
  exact loop_tot (xs := c.Docs) (F := fun k i (_ : Unit) => dossierplain_Case.l1 k i c) (E := fun k _ => if (decide ((c.Insts.length : Int) ≤ 40)) = true then (some (decide ((c.Docs.length : Int) ≤ 30))) else (some false)) (by omega) (fun k i s => by rw [dossierplain_Case.l1]) (fun _ => Tot.ite (.pure _) (.pure _)) (fun i v s _ ih => Tot.ite (.pure _) (Tot.ite (.pure _) (ih ()))) ()

theorem treeFinds_ev (c d : api_Case) (p item : ByteArray) (hc : Fine c) (hd : Fine d) (hp : p.size ≤ 1048576) : Evt (fun k => dossierlaw18_TreeFinds.f k c d p item) true := by
  simp only [dossierlaw18_TreeFinds.f]
  obtain ⟨b1, hb1⟩ := plain_case c hc
  refine Evt.bind hb1 ?_
  cases b1 with
  | false => exact Evt.neg (by decide) awake_ev.map
  | true =>
    obtain ⟨b2, hb2⟩ := plain_case d hd
    refine Evt.pos rfl (Evt.bind hb2 ?_)
    cases b2 with
    | false => exact Evt.neg (by decide) awake_ev.map
    | true =>
      have hs : ∀ q : api_Inst → Bool, (c.Insts.filter q).length ≤ 1048576 ∧ ∀ x ∈ c.Insts.filter q, x.Latches.length ≤ 1048576 := fun q => ⟨Nat.le_trans (List.length_filter_le _ _) hc.insts, fun x hx => hc.latches x (List.mem_filter.mp hx).1⟩
      have hr : ∀ l : List api_Inst, all2 sameInst l l = true := fun l => all2_refl _ _ fun x _ => sameInst_refl x
      have hf : (findL p c.Insts).1.Latches.length ≤ 1048576 := by
        rcases find_idx p c.Insts c.Insts [] rfl with ⟨_, h2⟩ | ⟨n, x, _, h2, h3⟩
        · rw [h2]; decide
        · rw [h3]; exact hc.latches x (mem_at h2)
      refine Evt.pos rfl (Evt.bind (tree_find c p hc) (Evt.bind (ref_find c p hc) (Evt.bind (tree_kids c p hc) (Evt.bind (ref_kids c p hc) (Evt.bind (plain_sameInsts _ _ (hs _).1 (hs _).2) ?_)))))
      refine Evt.pos (hr _) (Evt.bind (tree_below c p hc hp) (Evt.bind (ref_below c p hc hp) (Evt.bind (plain_sameInsts _ _ (hs _).1 (hs _).2) ?_)))
      refine Evt.pos (by simp) (Evt.bind (ref_sameInst _ _ hf) (Evt.pos (sameInst_refl _) (Evt.pos (hr _) ?_)))
      refine Evt.bind (tree_next c p item hc) (Evt.bind (ref_next c p item hc) (Evt.pos (by simp) ?_))
      refine Evt.bind (tree_same c d hc) (Evt.bind (ref_same c d hc) (Evt.pos (by simp) ?_))
      exact Evt.bind (tree_copy c hc) (Evt.bind (ref_same c c hc) (Evt.pos (sameCase_refl c) awake_ev.map))
theorem bk_Inst_ge (x : api_Inst) : 1 ≤ bk_api_Inst x := by unfold bk_api_Inst; omega
theorem bk_Doc_ge (x : api_Doc) : 1 ≤ bk_api_Doc x := by unfold bk_api_Doc; omega
theorem fine (c : api_Case) (h : bk_api_Case c ≤ 1048576) : Fine c := by
  unfold bk_api_Case at h
  have h1 := bkL_len bk_Inst_ge c.Insts
  have h2 := bkL_len bk_Doc_ge c.Docs
  refine ⟨by omega, by omega, fun x hx => ?_, fun x hx => ?_, fun x hx => ?_⟩
  · have := bkL_mem bk_api_Inst hx
    have e : bk_api_Inst x = x.Path.size + 1 + bkS x.Item + bk1 x.State + bk1 x.Before + bkL bk1 x.Latches + bk1 x.Due + 1 := rfl
    omega
  · have := bkL_mem bk_api_Inst hx
    have h3 := bkL_len bk1_ge x.Latches
    have e : bk_api_Inst x = bkS x.Path + bkS x.Item + bk1 x.State + bk1 x.Before + bkL bk1 x.Latches + bk1 x.Due + 1 := rfl
    omega
  · have := bkL_mem bk_api_Doc hx
    have h3 := bkL_len bkS_ge x.Refs
    have e : bk_api_Doc x = bkS x.Path + bk_api_Value x.Value + bkL bkS x.Refs + 1 := rfl
    omega
theorem treeFinds_true (c d : api_Case) (p item : ByteArray) (h : bk_api_Case c + (bk_api_Case d + (bkS p + bkS item)) ≤ 1048576) : ∃ k, dossierlaw18_TreeFinds.f k c d p item = some true :=
  (treeFinds_ev c d p item (fine c (by omega)) (fine d (by omega)) (by unfold bkS at h; omega)).get
end Go.Abs.GenG
