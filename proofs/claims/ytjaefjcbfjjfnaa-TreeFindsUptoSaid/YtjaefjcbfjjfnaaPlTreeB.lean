import Derived.Test.YtjaefjcbfjjfnaaPlTreeA
set_option linter.unusedVariables false
set_option linter.unusedSimpArgs false
set_option maxRecDepth 100000
set_option maxHeartbeats 4000000
namespace Go.Abs.GenG
open Go.Abs

/-! ### loops, with what lies behind -/
theorem loop_pre {α σ β : Type} {xs : List α} {F : Nat → Int → σ → Option β} {G : Nat → Int → α → σ → Option β} {E : Nat → σ → Option β} (hn : xs.length < 9223372036854775807)
    (hF : ∀ k i s, F (k + 1) i s = if (decide (i < (xs.length : Int))) = true then ((rd xs i).bind fun v => G k i v s) else E k s)
    {R : List α → σ → β} (he : ∀ s, Evt (fun k => E k s) (R [] s))
    (hs : ∀ pre v suf s, xs = pre ++ v :: suf → (∀ s', Evt (fun k => F k (IntKind.i64.wrap ((pre.length : Nat) + 1)) s') (R suf s')) → Evt (fun k => G k ((pre.length : Nat) : Int) v s) (R (v :: suf) s)) :
    ∀ (suf pre : List α) s, xs = pre ++ suf → Evt (fun k => F k (pre.length : Int) s) (R suf s) := by
  intro suf
  induction suf with
  | nil =>
    intro pre s hx
    refine Evt.succ (fun k => hF k _ s) (Evt.neg ?_ (he s))
    simp [hx]
  | cons v suf ih =>
    intro pre s hx
    have hi : pre.length < xs.length := by rw [hx]; simp
    have hv : xs[pre.length]? = some v := by rw [hx]; simp
    refine Evt.succ (fun k => hF k _ s) (Evt.pos (by simpa using hi) (Evt.some_bind (by rw [rd_nat]; exact hv) ?_))
    refine hs pre v suf s hx fun s' => ?_
    have := ih (pre ++ [v]) s' (by rw [hx]; simp)
    rw [List.length_append] at this
    rw [wrap_nat (by omega)]
    exact this
def all2 {α β : Type} (t : α → β → Bool) : List α → List β → Bool
  | [], [] => true
  | x :: xs, y :: ys => t x y && all2 t xs ys
  | _, _ => false
theorem all2_len {α β : Type} (t : α → β → Bool) : ∀ (xs : List α) (ys : List β), xs.length ≠ ys.length → all2 t xs ys = false
  | [], [], h => absurd rfl h
  | [], _ :: _, _ => rfl
  | _ :: _, [], _ => rfl
  | x :: xs, y :: ys, h => by rw [all2, all2_len t xs ys (by simpa using h), Bool.and_false]
theorem all2_refl {α : Type} (t : α → α → Bool) : ∀ (xs : List α), (∀ x ∈ xs, t x x = true) → all2 t xs xs = true
  | [], _ => rfl
  | x :: xs, h => by rw [all2, h x (by simp), all2_refl t xs fun y hy => h y (by simp [hy])]; rfl
theorem all2_loop {α β : Type} {xs : List α} {ys : List β} (hn : xs.length < 9223372036854775807) (t : α → β → Bool) {F : Nat → Int → Option Bool} {G : Nat → Int → α → β → Option Bool}
    (hF : ∀ k i, F (k + 1) i = if (decide (i < (xs.length : Int))) = true then ((rd xs i).bind fun v => (rd ys i).bind fun w => G k i v w) else some true)
    (hG : ∀ (n : Nat) v w, xs[n]? = some v → ys[n]? = some w → ∀ r, Evt (fun k => F k (IntKind.i64.wrap ((n : Int) + 1))) r → Evt (fun k => G k (n : Int) v w) (t v w && r)) :
    Evt (fun k => if ((xs.length : Int) != (ys.length : Int)) = true then some false else F k 0) (all2 t xs ys) := by
  by_cases hl : xs.length = ys.length
  · refine Evt.neg (by simp [hl]) ?_
    have key : ∀ (su : List α) (sv : List β) (pu : List α) (pv : List β), xs = pu ++ su → ys = pv ++ sv → pu.length = pv.length → Evt (fun k => F k (pu.length : Int)) (all2 t su sv) := by
      intro su
      induction su with
      | nil =>
        intro sv pu pv h1 h2 h3
        have : sv = [] := by
          rw [h1, h2] at hl
          simp at hl
          exact List.eq_nil_of_length_eq_zero (by omega)
        subst this
        exact Evt.succ (fun k => hF k _) (Evt.neg (by simp [h1]) (.pure _))
      | cons v su ih =>
        intro sv pu pv h1 h2 h3
        cases sv with
        | nil => rw [h1, h2] at hl; simp at hl; omega
        | cons w sv =>
          have e1 : xs[pu.length]? = some v := by rw [h1]; simp
          have e2 : ys[pu.length]? = some w := by rw [h2, h3]; simp
          have hi : pu.length < xs.length := by rw [h1]; simp
          refine Evt.succ (fun k => hF k _) (Evt.pos (by simpa using hi) (Evt.some_bind (by rw [rd_nat]; exact e1) (Evt.some_bind (by rw [rd_nat]; exact e2) ?_)))
          refine hG _ v w e1 e2 _ ?_
          have := ih sv (pu ++ [v]) (pv ++ [w]) (by rw [h1]; simp) (by rw [h2]; simp) (by simp [h3])
          rw [List.length_append] at this
          rw [wrap_nat (by omega)]
          exact this
    exact key xs ys [] [] rfl rfl rfl
  · rw [all2_len t xs ys hl]
    exact Evt.pos (by simp; omega) (.pure _)
theorem and_pos {f : Nat → Option Bool} {r b : Bool} {c : Bool} (h : b = true → Evt f r) : Evt (fun k => if b = true then f k else some false) (b && r) := by
  cases b
  · exact Evt.neg (by simp) (.pure _)
  · exact Evt.pos rfl (by simpa using h rfl)
theorem and_neg {α : Type} [BEq α] {f : Nat → Option Bool} {r : Bool} {x y : α} (h : (x == y) = true → Evt f r) : Evt (fun k => if (x != y) = true then some false else f k) ((x == y) && r) := by
  cases hb : (x == y)
  · exact Evt.pos (by simp [bne, hb]) (.pure _)
  · exact Evt.neg (by simp [bne, hb]) (by simpa using h hb)

/-! ### the same -/
def sameStr (s t : ByteArray) : Bool := s.toList == t.toList
def sameInst (a b : api_Inst) : Bool := sameStr a.Path b.Path && (sameStr a.Item b.Item && ((a.State == b.State) && ((a.Before == b.Before) && ((a.Due == b.Due) && all2 (fun x y : Int => x == y) a.Latches b.Latches))))
def sameVal (a b : api_Value) : Bool := ((a.Kind == b.Kind) && ((a.Int == b.Int) && ((a.Bool == b.Bool) && ((a.Text.toList == b.Text.toList) && true))))
def sameDoc (a b : api_Doc) : Bool := sameStr a.Path b.Path && (sameVal a.Value b.Value && all2 sameStr a.Refs b.Refs)
def sameCase (a b : api_Case) : Bool := (a.ID == b.ID) && (sameStr a.Model b.Model && ((a.Clock == b.Clock) && (all2 sameInst a.Insts b.Insts && all2 sameDoc a.Docs b.Docs)))
theorem sameStr_refl (s : ByteArray) : sameStr s s = true := by simp [sameStr]
theorem sameInst_refl (a : api_Inst) : sameInst a a = true := by
  unfold sameInst
  rw [all2_refl _ _ fun x _ => by simp, sameStr_refl, sameStr_refl]; simp
theorem sameDoc_refl (a : api_Doc) : sameDoc a a = true := by
  unfold sameDoc sameVal
  rw [all2_refl _ _ fun x _ => sameStr_refl x, sameStr_refl]; simp
theorem sameCase_refl (a : api_Case) : sameCase a a = true := by
  unfold sameCase
  rw [all2_refl _ _ fun x _ => sameInst_refl x, all2_refl _ _ fun x _ => sameDoc_refl x, sameStr_refl]; simp
structure Fine (c : api_Case) : Prop where
  insts : c.Insts.length ≤ 1048576
  docs : c.Docs.length ≤ 1048576
  path : ∀ x ∈ c.Insts, x.Path.size ≤ 1048576
  latches : ∀ x ∈ c.Insts, x.Latches.length ≤ 1048576
  refs : ∀ d ∈ c.Docs, d.Refs.length ≤ 1048576

theorem ref_sameInst (a b : api_Inst) (h : a.Latches.length ≤ 1048576) : Evt (fun k => dossierref18_SameInst.f k a b) (sameInst a b) := by
  simp only [dossierref18_SameInst.f]
  refine and_pos (c := true) fun _ => and_pos (c := true) fun _ => and_neg fun _ => and_neg fun _ => and_neg fun _ => ?_
  exact all2_loop (by omega) _ (F := fun k i => dossierref18_SameInst.l0 k i a b) (fun k i => by rw [dossierref18_SameInst.l0]) fun n v w _ _ r hr => and_neg fun _ => hr
theorem equal_int (a b : List Int) (h : a.length ≤ 1048576) : Evt (fun k => slices_Equal_int_int.f k a b) (all2 (fun x y : Int => x == y) a b) := by
  simp only [slices_Equal_int_int.f]
  exact all2_loop (by omega) _ (F := fun k i => slices_Equal_int_int.l0 k i a b) (fun k i => by rw [slices_Equal_int_int.l0]) fun n v w _ _ r hr => and_neg fun _ => hr
theorem equal_str (a b : List ByteArray) (h : a.length ≤ 1048576) : Evt (fun k => slices_Equal_string_string.f k a b) (all2 sameStr a b) := by
  simp only [slices_Equal_string_string.f]
  exact all2_loop (by omega) _ (F := fun k i => slices_Equal_string_string.l0 k i a b) (fun k i => by rw [slices_Equal_string_string.l0]) fun n v w _ _ r hr => and_pos (c := true) fun _ => hr
theorem ref_texts (a b : List ByteArray) (h : a.length ≤ 1048576) : Evt (fun k => dossierref12_SameTexts.f k a b) (all2 sameStr a b) := by
  simp only [dossierref12_SameTexts.f]
  exact all2_loop (by omega) _ (F := fun k i => dossierref12_SameTexts.l0 k i a b) (fun k i => by rw [dossierref12_SameTexts.l0]) fun n v w _ _ r hr => and_pos (c := true) fun _ => hr
theorem tree_sameInst (a b : api_Inst) (h : a.Latches.length ≤ 1048576) : Evt (fun k => tree_Same_1.f k a b) (sameInst a b) := by
  simp only [tree_Same_1.f]
  exact and_pos (c := true) fun _ => and_pos (c := true) fun _ => and_pos (c := true) fun _ => and_pos (c := true) fun _ => and_pos (c := true) fun _ => Evt.map (equal_int _ _ h)
theorem tree_sameDoc (a b : api_Doc) (h : a.Refs.length ≤ 1048576) : Evt (fun k => tree_Same_2.f k a b) (sameDoc a b) := by
  simp only [tree_Same_2.f]
  exact and_pos (c := true) fun _ => and_pos (c := true) fun _ => Evt.map (equal_str _ _ h)
theorem mem_at {α : Type} {xs : List α} {n : Nat} {x : α} (h : xs[n]? = some x) : x ∈ xs := List.mem_of_getElem? h
theorem plain_sameInsts (a b : List api_Inst) (h : a.length ≤ 1048576) (hl : ∀ x ∈ a, x.Latches.length ≤ 1048576) : Evt (fun k => dossierplain_SameInsts.f k a b) (all2 sameInst a b) := by
  simp only [dossierplain_SameInsts.f, slices_EqualFunc_api_Inst_api_Inst_api_Inst_api_Inst.f]
  refine Evt.map ?_
  exact all2_loop (by omega) _ (F := fun k i => slices_EqualFunc_api_Inst_api_Inst_api_Inst_api_Inst.l0 k i a b) (fun k i => by rw [slices_EqualFunc_api_Inst_api_Inst_api_Inst_api_Inst.l0]) fun n v w hv _ r hr => Evt.bind (ref_sameInst v w (hl v (mem_at hv))) (and_pos (c := true) fun _ => hr)
theorem tree_insts (a b : List api_Inst) (h : a.length ≤ 1048576) (hl : ∀ x ∈ a, x.Latches.length ≤ 1048576) : Evt (fun k => slices_EqualFunc_api_Inst_api_Inst_api_Inst_api_Inst_24.f k a b) (all2 sameInst a b) := by
  simp only [slices_EqualFunc_api_Inst_api_Inst_api_Inst_api_Inst_24.f]
  exact all2_loop (by omega) _ (F := fun k i => slices_EqualFunc_api_Inst_api_Inst_api_Inst_api_Inst_24.l0 k i a b) (fun k i => by rw [slices_EqualFunc_api_Inst_api_Inst_api_Inst_api_Inst_24.l0]) fun n v w hv _ r hr => Evt.bind (tree_sameInst v w (hl v (mem_at hv))) (and_pos (c := true) fun _ => hr)
theorem tree_docs (a b : List api_Doc) (h : a.length ≤ 1048576) (hl : ∀ x ∈ a, x.Refs.length ≤ 1048576) : Evt (fun k => slices_EqualFunc_api_Doc_api_Doc_api_Doc_api_Doc.f k a b) (all2 sameDoc a b) := by
  simp only [slices_EqualFunc_api_Doc_api_Doc_api_Doc_api_Doc.f]
  exact all2_loop (by omega) _ (F := fun k i => slices_EqualFunc_api_Doc_api_Doc_api_Doc_api_Doc.l0 k i a b) (fun k i => by rw [slices_EqualFunc_api_Doc_api_Doc_api_Doc_api_Doc.l0]) fun n v w hv _ r hr => Evt.bind (tree_sameDoc v w (hl v (mem_at hv))) (and_pos (c := true) fun _ => hr)
theorem ref_docs (a b : List api_Doc) (h : a.length ≤ 1048576) (hl : ∀ x ∈ a, x.Refs.length ≤ 1048576) : Evt (fun k => dossierref16_Same.f k a b) (all2 sameDoc a b) := by
  simp only [dossierref16_Same.f]
  refine all2_loop (by omega) _ (F := fun k i => dossierref16_Same.l0 k i a b) (fun k i => by rw [dossierref16_Same.l0]) fun n v w hv hw r hr => ?_
  unfold sameDoc
  rw [Bool.and_assoc, Bool.and_assoc]
  refine and_pos (c := true) fun _ => Evt.some_bind (by rw [rd_nat]; exact hv) (Evt.some_bind (by rw [rd_nat]; exact hw) (and_pos (c := true) fun _ => Evt.some_bind (by rw [rd_nat]; exact hv) (Evt.some_bind (by rw [rd_nat]; exact hw) ?_)))
  exact Evt.bind (ref_texts _ _ (hl v (mem_at hv))) (and_pos (c := true) fun _ => hr)
theorem tree_same (a b : api_Case) (h : Fine a) : Evt (fun k => tree_Same.f k a b) (sameCase a b) := by
  have e : sameCase a b = (all2 sameInst a.Insts b.Insts && (all2 sameDoc a.Docs b.Docs && ((a.ID == b.ID) && (sameStr a.Model b.Model && (a.Clock == b.Clock))))) := by
    unfold sameCase
    cases all2 sameInst a.Insts b.Insts <;> cases all2 sameDoc a.Docs b.Docs <;> cases (a.ID == b.ID) <;> cases sameStr a.Model b.Model <;> cases (a.Clock == b.Clock) <;> rfl
  rw [e]
  simp only [tree_Same.f]
  refine Evt.bind (tree_insts _ _ h.insts h.latches) (Evt.bind (tree_docs _ _ h.docs h.refs) ?_)
  exact and_pos (c := true) fun _ => and_pos (c := true) fun _ => and_pos (c := true) fun _ => and_pos (c := true) fun _ => .pure _
theorem ref_same (a b : api_Case) (h : Fine a) : Evt (fun k => dossierref18_Same.f k a b) (sameCase a b) := by
  have e : sameCase a b = ((a.ID == b.ID) && (sameStr a.Model b.Model && ((a.Clock == b.Clock) && (if a.Insts.length = b.Insts.length then all2 sameDoc a.Docs b.Docs && all2 sameInst a.Insts b.Insts else false)))) := by
    unfold sameCase
    by_cases hl : a.Insts.length = b.Insts.length
    · rw [if_pos hl, Bool.and_comm (all2 sameDoc _ _)]
    · rw [if_neg hl, all2_len _ _ _ hl, Bool.false_and]
  rw [e]
  simp only [dossierref18_Same.f]
  refine and_neg fun _ => and_pos (c := true) fun _ => and_neg fun _ => ?_
  by_cases hl : a.Insts.length = b.Insts.length
  · rw [if_pos hl]
    refine Evt.neg (by simp [hl]) (Evt.bind (ref_docs _ _ h.docs h.refs) (and_pos (c := true) fun _ => ?_))
    have hi := h.insts
    have := all2_loop (xs := a.Insts) (ys := b.Insts) (by omega) sameInst (F := fun k i => dossierref18_Same.l0 k i a b) (fun k i => by rw [dossierref18_Same.l0]) fun n v w hv _ r hr => Evt.bind (ref_sameInst v w (h.latches v (mem_at hv))) (and_pos (c := true) fun _ => hr)
    rw [hl] at this
    simpa using this
  · rw [if_neg hl]
    exact Evt.pos (by simp; omega) (.pure _)
end Go.Abs.GenG
