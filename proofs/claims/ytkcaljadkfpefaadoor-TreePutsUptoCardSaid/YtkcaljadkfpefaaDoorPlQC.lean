import Derived.Test.YtkcaljadkfpefaaDoorPlQB
import Derived.Test.YtkcaljadkfpefaaDoorOpQ
set_option linter.unnecessarySimpa false
set_option linter.unusedVariables false
set_option linter.unusedSimpArgs false
set_option maxRecDepth 100000
set_option maxHeartbeats 4000000
namespace Go.Abs.GenQ
open Go.Abs
theorem loop_pre {α σ β : Type} {xs : List α} {F : Nat → Int → σ → Option β} {G : Nat → Int → α → σ → Option β} {E : Nat → σ → Option β} (hn : xs.length < 9223372036854775807)
  (hF : ∀ k i s, F (k + 1) i s = if (decide (i < (xs.length : Int))) = true then ((rd xs i).bind fun v => G k i v s) else E k s)
  {R : List α → σ → β} (he : ∀ s, Evt (fun k => E k s) (R [] s))
  (hs : ∀ pre v suf s, xs = pre ++ v :: suf → (∀ s', Evt (fun k => F k (IntKind.i64.wrap ((pre.length : Nat) + 1)) s') (R suf s')) → Evt (fun k => G k ((pre.length : Nat) : Int) v s) (R (v :: suf) s)) :
  ∀ (suf pre : List α) s, xs = pre ++ suf → Evt (fun k => F k (pre.length : Int) s) (R suf s) := by
 intro suf
 induction suf with
 | nil =>
  intro pre s hx
  refine Evt.succ (fun k => hF k _ s) (Evt.neg ?_ (he s))
  simp [hx]
 | cons v suf ih =>
  intro pre s hx
  have hi : pre.length < xs.length := by rw [hx]; simp
  have hv : xs[pre.length]? = some v := by rw [hx]; simp
  refine Evt.succ (fun k => hF k _ s) (Evt.pos (by simpa using hi) (Evt.some_bind (by rw [rd_nat]; exact hv) ?_))
  refine hs pre v suf s hx fun s' => ?_
  have := ih (pre ++ [v]) s' (by rw [hx]; simp)
  rw [List.length_append] at this
  rw [wrap_nat (by omega)]
  exact this
def all2 {α β : Type} (t : α → β → Bool) : List α → List β → Bool
 | [], [] => true
 | x :: xs, y :: ys => t x y && all2 t xs ys
 | _, _ => false
theorem all2_len {α β : Type} (t : α → β → Bool) : ∀ (xs : List α) (ys : List β), xs.length ≠ ys.length → all2 t xs ys = false
 | [], [], h => absurd rfl h
 | [], _ :: _, _ => rfl
 | _ :: _, [], _ => rfl
 | x :: xs, y :: ys, h => by rw [all2, all2_len t xs ys (by simpa using h), Bool.and_false]
theorem all2_refl {α : Type} (t : α → α → Bool) : ∀ (xs : List α), (∀ x ∈ xs, t x x = true) → all2 t xs xs = true
 | [], _ => rfl
 | x :: xs, h => by rw [all2, h x (by simp), all2_refl t xs fun y hy => h y (by simp [hy])]; rfl
theorem all2_loop {α β : Type} {xs : List α} {ys : List β} (hn : xs.length < 9223372036854775807) (t : α → β → Bool) {F : Nat → Int → Option Bool} {G : Nat → Int → α → β → Option Bool}
  (hF : ∀ k i, F (k + 1) i = if (decide (i < (xs.length : Int))) = true then ((rd xs i).bind fun v => (rd ys i).bind fun w => G k i v w) else some true)
  (hG : ∀ (n : Nat) v w, xs[n]? = some v → ys[n]? = some w → ∀ r, Evt (fun k => F k (IntKind.i64.wrap ((n : Int) + 1))) r → Evt (fun k => G k (n : Int) v w) (t v w && r)) :
  Evt (fun k => if ((xs.length : Int) != (ys.length : Int)) = true then some false else F k 0) (all2 t xs ys) := by
 by_cases hl : xs.length = ys.length
 ·refine Evt.neg (by simp [hl]) ?_
  have key : ∀ (su : List α) (sv : List β) (pu : List α) (pv : List β), xs = pu ++ su → ys = pv ++ sv → pu.length = pv.length → Evt (fun k => F k (pu.length : Int)) (all2 t su sv) := by
   intro su
   induction su with
   | nil =>
    intro sv pu pv h1 h2 h3
    have : sv = [] := by
     rw [h1, h2] at hl
     simp at hl
     exact List.eq_nil_of_length_eq_zero (by omega)
    subst this
    exact Evt.succ (fun k => hF k _) (Evt.neg (by simp [h1]) (.pure _))
   | cons v su ih =>
    intro sv pu pv h1 h2 h3
    cases sv with
    | nil => rw [h1, h2] at hl; simp at hl; omega
    | cons w sv =>
     have e1 : xs[pu.length]? = some v := by rw [h1]; simp
     have e2 : ys[pu.length]? = some w := by rw [h2, h3]; simp
     have hi : pu.length < xs.length := by rw [h1]; simp
     refine Evt.succ (fun k => hF k _) (Evt.pos (by simpa using hi) (Evt.some_bind (by rw [rd_nat]; exact e1) (Evt.some_bind (by rw [rd_nat]; exact e2) ?_)))
     refine hG _ v w e1 e2 _ ?_
     have := ih sv (pu ++ [v]) (pv ++ [w]) (by rw [h1]; simp) (by rw [h2]; simp) (by simp [h3])
     rw [List.length_append] at this
     rw [wrap_nat (by omega)]
     exact this
  exact key xs ys [] [] rfl rfl rfl
 ·rw [all2_len t xs ys hl]
  exact Evt.pos (by simp; omega) (.pure _)
theorem and_pos {f : Nat → Option Bool} {r b : Bool} {c : Bool} (h : b = true → Evt f r) : Evt (fun k => if b = true then f k else some false) (b && r) := by
 cases b
 ·exact Evt.neg (by simp) (.pure _)
 ·exact Evt.pos rfl (by simpa using h rfl)
theorem and_neg {α : Type} [BEq α] {f : Nat → Option Bool} {r : Bool} {x y : α} (h : (x == y) = true → Evt f r) : Evt (fun k => if (x != y) = true then some false else f k) ((x == y) && r) := by
 cases hb : (x == y)
 ·exact Evt.pos (by simp [bne, hb]) (.pure _)
 ·exact Evt.neg (by simp [bne, hb]) (by simpa using h hb)

def sameStr (s t : ByteArray) : Bool := s.toList == t.toList
def sameInst (a b : api_Inst) : Bool := sameStr a.Path b.Path && (sameStr a.Item b.Item && ((a.State == b.State) && ((a.Before == b.Before) && ((a.Due == b.Due) && all2 (fun x y : Int => x == y) a.Latches b.Latches))))
def sameVal (a b : api_Value) : Bool := ((a.Kind == b.Kind) && ((a.Int == b.Int) && ((a.Bool == b.Bool) && ((a.Text.toList == b.Text.toList) && true))))
def sameDoc (a b : api_Doc) : Bool := sameStr a.Path b.Path && (sameVal a.Value b.Value && all2 sameStr a.Refs b.Refs)
def sameCase (a b : api_Case) : Bool := (a.ID == b.ID) && (sameStr a.Model b.Model && ((a.Clock == b.Clock) && (all2 sameInst a.Insts b.Insts && all2 sameDoc a.Docs b.Docs)))
theorem sameStr_refl (s : ByteArray) : sameStr s s = true := by simp [sameStr]
theorem sameInst_refl (a : api_Inst) : sameInst a a = true := by
 unfold sameInst
 rw [all2_refl _ _ fun x _ => by simp, sameStr_refl, sameStr_refl]; simp
theorem sameDoc_refl (a : api_Doc) : sameDoc a a = true := by
 unfold sameDoc sameVal
 rw [all2_refl _ _ fun x _ => sameStr_refl x, sameStr_refl]; simp
theorem sameCase_refl (a : api_Case) : sameCase a a = true := by
 unfold sameCase
 rw [all2_refl _ _ fun x _ => sameInst_refl x, all2_refl _ _ fun x _ => sameDoc_refl x, sameStr_refl]; simp
structure Fine (c : api_Case) : Prop where
 insts : c.Insts.length ≤ 1048576
 docs : c.Docs.length ≤ 1048576
 path : ∀ x ∈ c.Insts, x.Path.size ≤ 1048576
 latches : ∀ x ∈ c.Insts, x.Latches.length ≤ 1048576
 refs : ∀ d ∈ c.Docs, d.Refs.length ≤ 1048576

theorem ref_sameInst (a b : api_Inst) (h : a.Latches.length ≤ 1048576) : Evt (fun k => dossierref18_SameInst.f k a b) (sameInst a b) := by
 simp only [dossierref18_SameInst.f]
 refine and_pos (c := true) fun _ => and_pos (c := true) fun _ => and_neg fun _ => and_neg fun _ => and_neg fun _ => ?_
 exact all2_loop (by omega) _ (F := fun k i => dossierref18_SameInst.l0 k i a b) (fun k i => by rw [dossierref18_SameInst.l0]) fun n v w _ _ r hr => and_neg fun _ => hr
theorem ref_texts (a b : List ByteArray) (h : a.length ≤ 1048576) : Evt (fun k => dossierref12_SameTexts.f k a b) (all2 sameStr a b) := by
 simp only [dossierref12_SameTexts.f]
 exact all2_loop (by omega) _ (F := fun k i => dossierref12_SameTexts.l0 k i a b) (fun k i => by rw [dossierref12_SameTexts.l0]) fun n v w _ _ r hr => and_pos (c := true) fun _ => hr
theorem mem_at {α : Type} {xs : List α} {n : Nat} {x : α} (h : xs[n]? = some x) : x ∈ xs := List.mem_of_getElem? h
theorem ref_docs (a b : List api_Doc) (h : a.length ≤ 1048576) (hl : ∀ x ∈ a, x.Refs.length ≤ 1048576) : Evt (fun k => dossierref16_Same.f k a b) (all2 sameDoc a b) := by
 simp only [dossierref16_Same.f]
 refine all2_loop (by omega) _ (F := fun k i => dossierref16_Same.l0 k i a b) (fun k i => by rw [dossierref16_Same.l0]) fun n v w hv hw r hr => ?_
 unfold sameDoc
 rw [Bool.and_assoc, Bool.and_assoc]
 refine and_pos (c := true) fun _ => Evt.some_bind (by rw [rd_nat]; exact hv) (Evt.some_bind (by rw [rd_nat]; exact hw) (and_pos (c := true) fun _ => Evt.some_bind (by rw [rd_nat]; exact hv) (Evt.some_bind (by rw [rd_nat]; exact hw) ?_)))
 exact Evt.bind (ref_texts _ _ (hl v (mem_at hv))) (and_pos (c := true) fun _ => hr)
theorem ref_same (a b : api_Case) (h : Fine a) : Evt (fun k => dossierref18_Same.f k a b) (sameCase a b) := by
 have e : sameCase a b = ((a.ID == b.ID) && (sameStr a.Model b.Model && ((a.Clock == b.Clock) && (if a.Insts.length = b.Insts.length then all2 sameDoc a.Docs b.Docs && all2 sameInst a.Insts b.Insts else false)))) := by
  unfold sameCase
  by_cases hl : a.Insts.length = b.Insts.length
  ·rw [if_pos hl, Bool.and_comm (all2 sameDoc _ _)]
  ·rw [if_neg hl, all2_len _ _ _ hl, Bool.false_and]
 rw [e]
 simp only [dossierref18_Same.f]
 refine and_neg fun _ => and_pos (c := true) fun _ => and_neg fun _ => ?_
 by_cases hl : a.Insts.length = b.Insts.length
 ·rw [if_pos hl]
  refine Evt.neg (by simp [hl]) (Evt.bind (ref_docs _ _ h.docs h.refs) (and_pos (c := true) fun _ => ?_))
  have hi := h.insts
  have := all2_loop (xs := a.Insts) (ys := b.Insts) (by omega) sameInst (F := fun k i => dossierref18_Same.l0 k i a b) (fun k i => by rw [dossierref18_Same.l0]) fun n v w hv _ r hr => Evt.bind (ref_sameInst v w (h.latches v (mem_at hv))) (and_pos (c := true) fun _ => hr)
  rw [hl] at this
  simpa using this
 ·rw [if_neg hl]
  exact Evt.pos (by simp; omega) (.pure _)
theorem clone_int (l : List Int) (h : l.length ≤ 1048576) : Evt (fun k => slices_Clone_int_int.f k l) l := by
 simp only [slices_Clone_int_int.f]
 exact Evt.pos (by simp; omega) (.pure l)
theorem clone_str (l : List ByteArray) (h : l.length ≤ 1048576) : Evt (fun k => slices_Clone_string_string.f k l) l := by
 simp only [slices_Clone_string_string.f]
 exact Evt.pos (by simp; omega) (.pure l)
theorem tree_own_ev (x : api_Inst) (h : x.Latches.length ≤ 1048576) : Evt (fun k => tree_own.f k x) x := by
 simp only [tree_own.f]
 exact Evt.bind (clone_int _ h) (.pure x)
theorem ref_own (x : api_Inst) (h : x.Latches.length ≤ 1048576) : Evt (fun k => dossierref18_CopyInst.f k x) x := by
 simp only [dossierref18_CopyInst.f]
 exact Evt.pos (by simp; omega) (.pure x)

def nobody : api_Inst := ⟨(⟨#[]⟩ : ByteArray), (⟨#[]⟩ : ByteArray), 0, 0, ([] : List Int), 0⟩
def findL (p : ByteArray) : List api_Inst → api_Inst × Bool
 | [] => (nobody, false)
 | x :: xs => if sameStr x.Path p = true then (x, true) else findL p xs
def idxL (p : ByteArray) (n : Nat) : List api_Inst → Int
 | [] => -1
 | x :: xs => if sameStr x.Path p = true then ((n - (xs.length + 1) : Nat) : Int) else idxL p n xs
theorem find_idx (p : ByteArray) (c : List api_Inst) : ∀ (suf pre : List api_Inst), c = pre ++ suf → (idxL p c.length suf < 0 ∧ findL p suf = (nobody, false)) ∨ (∃ n x, idxL p c.length suf = ((n : Nat) : Int) ∧ c[n]? = some x ∧ findL p suf = (x, true))
 | [], pre, _ => .inl ⟨by simp [idxL], rfl⟩
 | x :: xs, pre, hx => by
  by_cases hq : sameStr x.Path p = true
  ·have hp : c.length - (xs.length + 1) = pre.length := by rw [hx]; simp
   refine .inr ⟨pre.length, x, by rw [idxL, if_pos hq, hp], by rw [hx]; simp, by rw [findL, if_pos hq]⟩
  ·rw [idxL, if_neg hq, findL, if_neg hq]
   exact find_idx p c xs (pre ++ [x]) (by rw [hx]; simp)
theorem tree_copy (c : api_Case) (h : Fine c) : Evt (fun k => tree_Copy.f k c) c := by
 simp only [tree_Copy.f]
 have hi := h.insts
 have hd := h.docs
 have docs : ∀ is : List api_Inst, Evt (fun k => tree_Copy.l1 k ([] : List api_Doc) 0 c is) (⟨c.ID, c.Model, is, c.Docs, c.Clock⟩ : api_Case) := by
  intro is
  have := loop_all (xs := c.Docs) (F := fun k i s => tree_Copy.l1 k s i c is) (E := fun _ s => some (⟨c.ID, c.Model, is, s, c.Clock⟩ : api_Case)) (by omega) (fun k i s => by rw [tree_Copy.l1]) (Good := fun suf s => (∀ y ∈ suf, y ∈ c.Docs) ∧ s.length + suf.length ≤ 1048576) (R := fun suf s => (⟨c.ID, c.Model, is, s ++ suf, c.Clock⟩ : api_Case)) (fun s _ => by simpa using Evt.pure _)
   (fun i v suf s hi hv hg ih => by
    obtain ⟨g1, g3⟩ := hg
    simp only [List.length_cons] at g3
    refine Evt.bind (clone_str _ (h.refs v (g1 v (by simp)))) (Evt.pos (by simp; omega) ?_)
    have := ih (s ++ [v]) ⟨fun y hy => g1 y (by simp [hy]), by simp; omega⟩
    simpa using this) [] ⟨fun y hy => hy, by simpa using hd⟩
  simpa using this
 have := loop_all (xs := c.Insts) (F := fun k i s => tree_Copy.l0 k s i c) (E := fun k s => tree_Copy.l1 k ([] : List api_Doc) 0 c s) (by omega) (fun k i s => by rw [tree_Copy.l0]) (Good := fun suf s => (∀ y ∈ suf, y ∈ c.Insts) ∧ s.length + suf.length ≤ 1048576) (R := fun suf s => (⟨c.ID, c.Model, s ++ suf, c.Docs, c.Clock⟩ : api_Case)) (fun s _ => by simpa using docs s)
  (fun i v suf s hi hv hg ih => by
   obtain ⟨g1, g3⟩ := hg
   simp only [List.length_cons] at g3
   refine Evt.bind (tree_own_ev v (h.latches v (g1 v (by simp)))) (Evt.pos (by simp; omega) ?_)
   have := ih (s ++ [v]) ⟨fun y hy => g1 y (by simp [hy]), by simp; omega⟩
   simpa using this) [] ⟨fun y hy => hy, by simpa using hi⟩
 simpa using this

theorem plain_case (c : api_Case) (h : Fine c) : Tot (fun k => dossierplain_Case.f k c) := by
 simp only [dossierplain_Case.f]
 have hi := h.insts
 have hd := h.docs
 refine loop_tot (xs := c.Insts) (F := fun k i (_ : Unit) => dossierplain_Case.l0 k i c) (E := fun k _ => dossierplain_Case.l1 k 0 c) (by omega) (fun k i s => by rw [dossierplain_Case.l0]) (fun _ => ?_) (fun i v s _ ih => Tot.ite (.pure _) (Tot.ite (.pure _) (ih ()))) ()
 exact loop_tot (xs := c.Docs) (F := fun k i (_ : Unit) => dossierplain_Case.l1 k i c) (E := fun k _ => if (decide ((c.Insts.length : Int) ≤ 40)) = true then (some (decide ((c.Docs.length : Int) ≤ 30))) else (some false)) (by omega) (fun k i s => by rw [dossierplain_Case.l1]) (fun _ => Tot.ite (.pure _) (.pure _)) (fun i v s _ ih => Tot.ite (.pure _) (Tot.ite (.pure _) (ih ()))) ()

theorem bk_Inst_ge (x : api_Inst) : 1 ≤ bk_api_Inst x := by unfold bk_api_Inst; omega
theorem bk_Doc_ge (x : api_Doc) : 1 ≤ bk_api_Doc x := by unfold bk_api_Doc; omega
theorem fine (c : api_Case) (h : bk_api_Case c ≤ 1048576) : Fine c := by
 unfold bk_api_Case at h
 have h1 := bkL_len bk_Inst_ge c.Insts
 have h2 := bkL_len bk_Doc_ge c.Docs
 refine ⟨by omega, by omega, fun x hx => ?_, fun x hx => ?_, fun x hx => ?_⟩
 ·have := bkL_mem bk_api_Inst hx
  have e : bk_api_Inst x = x.Path.size + 1 + bkS x.Item + bk1 x.State + bk1 x.Before + bkL bk1 x.Latches + bk1 x.Due + 1 := rfl
  omega
 ·have := bkL_mem bk_api_Inst hx
  have h3 := bkL_len bk1_ge x.Latches
  have e : bk_api_Inst x = bkS x.Path + bkS x.Item + bk1 x.State + bk1 x.Before + bkL bk1 x.Latches + bk1 x.Due + 1 := rfl
  omega
 ·have := bkL_mem bk_api_Doc hx
  have h3 := bkL_len bkS_ge x.Refs
  have e : bk_api_Doc x = bkS x.Path + bk_api_Value x.Value + bkL bkS x.Refs + 1 := rfl
  omega
theorem tree_index_ev (c : api_Case) (p : ByteArray) (h : Fine c) : Evt (fun k => tree_index.f k c p) (idxL p c.Insts.length c.Insts) := by
 simp only [tree_index.f, slices_IndexFunc_api_Inst_api_Inst.f]
 have hi := h.insts
 have := loop_pre (xs := c.Insts) (F := fun k i (_ : Unit) => slices_IndexFunc_api_Inst_api_Inst.l0 k i c.Insts p) (E := fun _ _ => some (-1)) (by omega) (fun k i s => by rw [slices_IndexFunc_api_Inst_api_Inst.l0])
  (R := fun suf _ => idxL p c.Insts.length suf) (fun s => .pure _)
  (fun pre v suf s hx ih => by
   refine Evt.bind (a := sameStr v.Path p) (by simp only [tree_index_1.f]; exact .pure _) ?_
   have hp : c.Insts.length - (suf.length + 1) = pre.length := by rw [hx]; simp
   simp only [idxL, hp]
   by_cases hq : sameStr v.Path p = true
   ·simp only [hq, if_true]; exact .pure _
   ·simp only [hq, if_false]
    exact ih ()) c.Insts [] () rfl
 exact this.map
theorem sameStr_eq {s t : ByteArray} (h : sameStr s t = true) : s = t := by
 unfold sameStr at h
 rw [toList_us, decide_eq_true_eq] at h
 exact us_inj h
def firstG (x : api_Inst) (n : Nat) : List api_Inst → Int
 | [] => -1
 | y :: ys => if ordP y.Path x.Path > 0 then ((n - (ys.length + 1) : Nat) : Int) else firstG x n ys
theorem first_ev (l : List api_Inst) (x : api_Inst) (hl : l.length ≤ 1048576) (hp : ∀ y ∈ l, y.Path.size ≤ 1048576) (hx : x.Path.size ≤ 1048576) : Evt (fun k => slices_IndexFunc_api_Inst_api_Inst_17.f k l x) (firstG x l.length l) := by
 simp only [slices_IndexFunc_api_Inst_api_Inst_17.f]
 exact loop_pre (xs := l) (F := fun k i (_ : Unit) => slices_IndexFunc_api_Inst_api_Inst_17.l0 k i l x) (E := fun _ _ => some (-1)) (by omega) (fun k i s => by rw [slices_IndexFunc_api_Inst_api_Inst_17.l0])
  (R := fun suf s => firstG x l.length suf) (fun s => .pure _)
  (fun pre v suf s hxs ih => by
   have hv : v ∈ l := by rw [hxs]; simp
   refine Evt.bind (a := decide (ordP v.Path x.Path > 0)) (by simp only [tree_Put_1.f]; exact (tree_order _ _ (hp v hv) hx).bind (.pure _)) ?_
   have hpr : l.length - (suf.length + 1) = pre.length := by rw [hxs]; simp
   simp only [firstG, hpr]
   by_cases hq : ordP v.Path x.Path > 0
   ·rw [if_pos hq]; exact Evt.pos (by simpa using hq) (.pure _)
   ·rw [if_neg hq]; exact Evt.neg (by simpa using hq) (ih ())) l [] () rfl
theorem first_at (x : api_Inst) (c : List api_Inst) : ∀ (suf pre : List api_Inst), c = pre ++ suf → (∀ y ∈ pre, ordP y.Path x.Path ≤ 0) →
  (firstG x c.length suf = -1 ∧ ∀ y ∈ c, ordP y.Path x.Path ≤ 0) ∨ (∃ p y q, c = p ++ y :: q ∧ firstG x c.length suf = ((p.length : Nat) : Int) ∧ (∀ z ∈ p, ordP z.Path x.Path ≤ 0) ∧ ordP y.Path x.Path > 0)
 | [], pre, hx, hp => .inl ⟨rfl, by rw [hx]; simpa using hp⟩
 | y :: ys, pre, hx, hp => by
  by_cases hq : ordP y.Path x.Path > 0
  ·have hpr : c.length - (ys.length + 1) = pre.length := by rw [hx]; simp
   exact .inr ⟨pre, y, ys, hx, by rw [firstG, if_pos hq, hpr], hp, hq⟩
  ·rw [firstG, if_neg hq]
   exact first_at x c ys (pre ++ [y]) (by rw [hx]; simp) (fun z hz => by
    rcases List.mem_append.mp hz with h | h
    ·exact hp z h
    ·rw [List.mem_singleton.mp h]; omega)
end Go.Abs.GenQ
