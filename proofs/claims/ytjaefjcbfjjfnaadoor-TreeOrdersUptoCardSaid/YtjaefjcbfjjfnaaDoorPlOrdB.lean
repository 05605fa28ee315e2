import Derived.Test.YtjaefjcbfjjfnaaDoorPlOrdA
set_option linter.unusedVariables false
set_option linter.unusedSimpArgs false
set_option maxRecDepth 100000
set_option maxHeartbeats 4000000
namespace Go.Abs.GenT
open Go.Abs

/-! ### orders -/
structure Lin {α : Type} (f : α → α → Int) : Prop where
  neg : ∀ a b, f b a = - f a b
  tr : ∀ a b c, f a b ≤ 0 → f b c ≤ 0 → f a c ≤ 0
def orI (a b : Int) : Int := if a ≠ 0 then a else b
theorem Lin.on {α β : Type} {f : α → α → Int} (h : Lin f) (k : β → α) : Lin (fun a b => f (k a) (k b)) := ⟨fun a b => h.neg _ _, fun a b c => h.tr _ _ _⟩
theorem Lin.lt {α : Type} {f : α → α → Int} (h : Lin f) {a b c : α} (h1 : f a b ≤ 0) (h2 : f b c ≤ 0) (h3 : f a c = 0) : f a b = 0 ∧ f b c = 0 := by
  have e1 := h.neg a c
  have e2 := h.neg a b
  have e3 := h.neg b c
  have t1 := h.tr b c a h2 (by omega)
  have t2 := h.tr c a b (by omega) h1
  omega
theorem Lin.lex {α : Type} {f g : α → α → Int} (hf : Lin f) (hg : Lin g) : Lin (fun a b => orI (f a b) (g a b)) := by
  refine ⟨fun a b => ?_, fun a b c h1 h2 => ?_⟩
  · have e1 := hf.neg a b
    have e2 := hg.neg a b
    simp only [orI]
    split <;> split <;> omega
  · simp only [orI] at h1 h2 ⊢
    have hfa : f a b ≤ 0 := by split at h1 <;> omega
    have hfb : f b c ≤ 0 := by split at h2 <;> omega
    have hfc := hf.tr a b c hfa hfb
    by_cases h : f a c = 0
    · obtain ⟨q1, q2⟩ := hf.lt hfa hfb h
      rw [if_neg (by omega)] at h1 h2 ⊢
      exact hg.tr a b c h1 h2
    · rw [if_pos h]; exact hfc
def ordL {α : Type} (f : α → α → Int) : List α → List α → Int
  | [], [] => 0
  | [], _ :: _ => -1
  | _ :: _, [] => 1
  | x :: xs, y :: ys => orI (f x y) (ordL f xs ys)
theorem ordL_neg {α : Type} {f : α → α → Int} (h : Lin f) : ∀ a b, ordL f b a = - ordL f a b
  | [], [] => rfl
  | [], _ :: _ => rfl
  | _ :: _, [] => rfl
  | x :: xs, y :: ys => by
    have e1 := h.neg x y
    have e2 := ordL_neg h xs ys
    simp only [ordL, orI]
    split <;> split <;> omega
theorem ordL_tr {α : Type} {f : α → α → Int} (h : Lin f) : ∀ a b c, ordL f a b ≤ 0 → ordL f b c ≤ 0 → ordL f a c ≤ 0
  | [], _, [], _, _ => by simp [ordL]
  | [], _, _ :: _, _, _ => by simp [ordL]
  | _ :: _, [], _, h1, _ => by simp [ordL] at h1
  | _ :: _, _ :: _, [], _, h2 => by simp [ordL] at h2
  | x :: xs, y :: ys, z :: zs, h1, h2 => by
    simp only [ordL, orI] at h1 h2 ⊢
    have hfa : f x y ≤ 0 := by split at h1 <;> omega
    have hfb : f y z ≤ 0 := by split at h2 <;> omega
    have hfc := h.tr x y z hfa hfb
    by_cases h0 : f x z = 0
    · obtain ⟨q1, q2⟩ := h.lt hfa hfb h0
      rw [if_neg (by omega)] at h1 h2 ⊢
      exact ordL_tr h xs ys zs h1 h2
    · rw [if_pos h0]; exact hfc
theorem Lin.list {α : Type} {f : α → α → Int} (h : Lin f) : Lin (ordL f) := ⟨ordL_neg h, ordL_tr h⟩
theorem ordL_zero {α : Type} {f : α → α → Int} (h : ∀ a b, f a b = 0 → a = b) : ∀ a b, ordL f a b = 0 → a = b
  | [], [], _ => rfl
  | [], _ :: _, h0 => by simp [ordL] at h0
  | _ :: _, [], h0 => by simp [ordL] at h0
  | x :: xs, y :: ys, h0 => by
    simp only [ordL, orI] at h0
    split at h0
    · omega
    · rw [h x y (by omega), ordL_zero h xs ys h0]
theorem Lin.refl {α : Type} {f : α → α → Int} (h : Lin f) (a : α) : f a a = 0 := by have := h.neg a a; omega

/-! ### numbers, bytes -/
def cmpI (a b : Int) : Int := if a < b then -1 else if a > b then 1 else 0
theorem cmpI_lin : Lin cmpI := by
  refine ⟨fun a b => ?_, fun a b c h1 h2 => ?_⟩
  · unfold cmpI; split <;> split <;> (try split) <;> omega
  · unfold cmpI at *; split at h1 <;> split at h2 <;> (try split at h1) <;> (try split at h2) <;> (try split) <;> (try split) <;> omega
theorem cmpI_lt {a b : Int} (h : a < b) : cmpI a b = -1 := by unfold cmpI; rw [if_pos h]
theorem cmpI_gt {a b : Int} (h : b < a) : cmpI a b = 1 := by unfold cmpI; rw [if_neg (by omega), if_pos h]
theorem cmpI_eq {a b : Int} (h : a = b) : cmpI a b = 0 := by unfold cmpI; rw [if_neg (by omega), if_neg (by omega)]
theorem compareBytes_ord : ∀ a b : List UInt8, Lib.compareBytes a b = ordL (fun x y : UInt8 => cmpI (x.toNat : Int) (y.toNat : Int)) a b
  | [], [] => rfl
  | [], _ :: _ => rfl
  | _ :: _, [] => rfl
  | x :: xs, y :: ys => by
    rw [Lib.compareBytes, ordL, compareBytes_ord xs ys]
    by_cases h1 : x < y
    · rw [if_pos h1, cmpI_lt (by rw [UInt8.lt_iff_toNat_lt] at h1; omega)]; rfl
    · by_cases h2 : y < x
      · rw [if_neg h1, if_pos h2, cmpI_gt (by rw [UInt8.lt_iff_toNat_lt] at h2; omega)]; rfl
      · rw [if_neg h1, if_neg h2, cmpI_eq (by rw [UInt8.lt_iff_toNat_lt] at h1 h2; omega)]; rfl
theorem u8_lin : Lin (fun x y : UInt8 => cmpI (x.toNat : Int) (y.toNat : Int)) := cmpI_lin.on _
theorem cmpS_ord (s t : ByteArray) : cmpS s t = ordL (fun x y : UInt8 => cmpI (x.toNat : Int) (y.toNat : Int)) (us s) (us t) := compareBytes_ord _ _
theorem cmpS_lin : Lin cmpS := by
  have h := u8_lin.list.on us
  refine ⟨fun a b => ?_, fun a b c h1 h2 => ?_⟩
  · rw [cmpS_ord, cmpS_ord]; exact h.neg a b
  · rw [cmpS_ord] at *; exact h.tr a b c h1 h2
theorem cmpS_zero {s t : ByteArray} (h : cmpS s t = 0) : s = t := by
  rw [cmpS_ord] at h
  refine us_inj (ordL_zero (fun a b hab => ?_) _ _ h)
  unfold cmpI at hab
  split at hab
  · omega
  · split at hab
    · omega
    · exact UInt8.toNat_inj.mp (by omega)
theorem bytesLess_ord : ∀ a b : List UInt8, Op.bytesLess a b = decide (Lib.compareBytes a b < 0)
  | [], [] => rfl
  | [], _ :: _ => rfl
  | _ :: _, [] => rfl
  | x :: xs, y :: ys => by
    rw [Op.bytesLess, Lib.compareBytes, bytesLess_ord xs ys]
    by_cases h1 : x < y
    · simp [h1]
    · by_cases h2 : y < x
      · have : ¬ (x == y) = true := by
          intro h; have := eq_of_beq h; subst this; exact h1 h2
        simp [h1, h2, this]
      · have h3 : x = y := by
          rw [UInt8.lt_iff_toNat_lt] at h1 h2
          exact UInt8.toNat_inj.mp (by omega)
        subst h3
        simp [h1]
theorem cmpS_val (s t : ByteArray) : cmpS s t = -1 ∨ cmpS s t = 0 ∨ cmpS s t = 1 := by
  unfold cmpS
  generalize s.data.toList = a
  generalize t.data.toList = b
  induction a generalizing b with
  | nil => cases b <;> simp [Lib.compareBytes]
  | cons x xs ih =>
    cases b with
    | nil => simp [Lib.compareBytes]
    | cons y ys =>
      rw [Lib.compareBytes]
      split
      · simp
      · split
        · simp
        · exact ih ys
theorem texts_ev (s t : ByteArray) : Evt (fun k => dossierref18_texts.f k s t) (cmpS s t) := by
  simp only [dossierref18_texts.f]
  have h1 : Op.bytesLess s.toList t.toList = decide (cmpS s t < 0) := by rw [toList_eq, toList_eq, bytesLess_ord]; rfl
  have h2 : (s.toList == t.toList) = decide (cmpS s t = 0) := by
    rw [toList_us]
    by_cases h : cmpS s t = 0
    · rw [cmpS_zero h, cmpS_lin.refl]; simp
    · rw [decide_eq_false h, decide_eq_false]
      intro hc
      apply h
      rw [us_inj hc, cmpS_lin.refl]
  rw [h1, h2]
  rcases cmpS_val s t with h | h | h
  · rw [h]; exact Evt.pos rfl (.pure _)
  · rw [h]; exact Evt.neg (by decide) (Evt.pos rfl (.pure _))
  · rw [h]; exact Evt.neg (by decide) (Evt.neg (by decide) (.pure _))
theorem cmpI_val (a b : Int) : cmpI a b = -1 ∨ cmpI a b = 0 ∨ cmpI a b = 1 := by
  unfold cmpI; split
  · simp
  · split <;> simp
theorem cmpI_zero {a b : Int} (h : cmpI a b = 0) : a = b := by
  unfold cmpI at h
  split at h
  · omega
  · split at h <;> omega

/-! ### paths -/
def ord1 (x y : ByteArray) : Int := orI (cmpS (partS x).1 (partS y).1) (orI (cmpI (partS x).2 (partS y).2) (cmpS x y))
theorem ord1_lin : Lin ord1 := (cmpS_lin.on fun x => (partS x).1).lex ((cmpI_lin.on fun x => (partS x).2).lex cmpS_lin)
theorem ord1_zero (x y : ByteArray) (h : ord1 x y = 0) : x = y := by
  unfold ord1 orI at h
  split at h
  · omega
  · split at h
    · omega
    · exact cmpS_zero h
theorem ord1_val (x y : ByteArray) : ord1 x y = -1 ∨ ord1 x y = 0 ∨ ord1 x y = 1 := by
  unfold ord1 orI
  split
  · exact cmpS_val _ _
  · split
    · exact cmpI_val _ _
    · exact cmpS_val _ _
def ordP (a b : ByteArray) : Int := ordL ord1 (splS a) (splS b)
theorem ordP_lin : Lin ordP := ord1_lin.list.on splS
theorem ordP_zero {a b : ByteArray} (h : ordP a b = 0) : a = b := spl_inj (ordL_zero ord1_zero _ _ h)
theorem ordP_val (a b : ByteArray) : ordP a b = -1 ∨ ordP a b = 0 ∨ ordP a b = 1 := by
  unfold ordP
  generalize splS a = l
  generalize splS b = m
  induction l generalizing m with
  | nil => cases m <;> simp [ordL]
  | cons x xs ih =>
    cases m with
    | nil => simp [ordL]
    | cons y ys =>
      simp only [ordL, orI]
      split
      · exact ord1_val _ _
      · exact ih ys

theorem compare_ev (a b : ByteArray) : Evt (fun k => strings_Compare.f k a b) (cmpS a b) := by
  simp only [strings_Compare.f, bytealg_CompareString.f]
  exact Evt.map (.pure _)
theorem cmpint_ev (a b : Int) : Evt (fun k => cmp_Compare_int.f k a b) (cmpI a b) := by
  simp only [cmp_Compare_int.f, cmp_isNaN_int.f]
  refine Evt.bind (.pure _) (Evt.bind (.pure _) (Evt.neg (by simp) (Evt.neg (by simp) ?_)))
  exact Evt.iteD (fun _ => .pure _) fun _ => Evt.iteD (fun _ => .pure _) fun _ => .pure _
theorem or_ev (a b c : Int) : Evt (fun k => cmp_Or_int.f k ([a, b, c] : List Int)) (orI a (orI b c)) := by
  simp only [cmp_Or_int.f, orI]
  refine Evt.succ (fun k => by rw [cmp_Or_int.l0]) ?_
  refine Evt.pos rfl ?_
  refine Evt.some_bind (a := a) rfl ?_
  by_cases ha : a = 0
  · subst ha
    refine Evt.neg (by simp) ?_
    rw [if_neg (by simp)]
    refine Evt.succ (fun k => by rw [cmp_Or_int.l0]) ?_
    refine Evt.pos rfl ?_
    refine Evt.some_bind (a := b) rfl ?_
    by_cases hb : b = 0
    · subst hb
      refine Evt.neg (by simp) ?_
      rw [if_neg (by simp)]
      refine Evt.succ (fun k => by rw [cmp_Or_int.l0]) ?_
      refine Evt.pos rfl ?_
      refine Evt.some_bind (a := c) rfl ?_
      by_cases hc : c = 0
      · subst hc
        refine Evt.neg (by simp) ?_
        refine Evt.succ (fun k => by rw [cmp_Or_int.l0]) ?_
        exact Evt.neg (by simp [IntKind.wrap, IntKind.bits, IntKind.signed]) (.pure _)
      · exact Evt.pos (by simpa using hc) (.pure _)
    · rw [if_pos hb]; exact Evt.pos (by simpa using hb) (.pure _)
  · rw [if_pos ha]; exact Evt.pos (by simpa using ha) (.pure _)
theorem order1_ev (a b : ByteArray) (ha : a.size ≤ 1048576) (hb : b.size ≤ 1048576) : Evt (fun k => tree_Order_1.f k a b) (ord1 a b) := by
  simp only [tree_Order_1.f]
  exact Evt.bind (tree_part a ha) (Evt.bind (tree_part b hb) (Evt.bind (compare_ev _ _) (Evt.bind (cmpint_ev _ _) (Evt.bind (compare_ev _ _) (Evt.map (or_ev _ _ _))))))
theorem lists_loop (xs ys : List ByteArray) (hx : ∀ p ∈ xs, p.size ≤ 1048576) (hy : ∀ p ∈ ys, p.size ≤ 1048576) (lx : xs.length ≤ 2097152) (ly : ys.length ≤ 2097152) :
    ∀ (n i : Nat), xs.length - i = n → i ≤ xs.length → i ≤ ys.length → Evt (fun k => slices_CompareFunc_string__string_string_string.l0 k (i : Int) xs ys) (ordL ord1 (xs.drop i) (ys.drop i)) := by
  intro n
  induction n with
  | zero =>
    intro i h1 h2 h3
    refine Evt.succ (fun k => by rw [slices_CompareFunc_string__string_string_string.l0]) (Evt.neg (by simp; omega) ?_)
    rw [List.drop_eq_nil_of_le (by omega)]
    by_cases h : xs.length < ys.length
    · rw [List.drop_eq_getElem_cons (by omega : i < ys.length)]
      exact Evt.pos (by simpa using h) (.pure _)
    · rw [List.drop_eq_nil_of_le (by omega)]
      exact Evt.neg (by simpa using h) (.pure _)
  | succ n ih =>
    intro i h1 h2 h3
    have hi : i < xs.length := by omega
    refine Evt.succ (fun k => by rw [slices_CompareFunc_string__string_string_string.l0]) (Evt.pos (by simpa using hi) (Evt.some_bind (rd_lt hi) ?_))
    rw [List.drop_eq_getElem_cons hi]
    by_cases hj : i < ys.length
    · rw [List.drop_eq_getElem_cons hj, ordL]
      refine Evt.neg (by simp; omega) (Evt.some_bind (rd_lt hj) (Evt.bind (order1_ev _ _ (hx _ (List.getElem_mem hi)) (hy _ (List.getElem_mem hj))) ?_))
      unfold orI
      by_cases h0 : ord1 xs[i] ys[i] = 0
      · rw [if_neg (by simpa using h0), wrap_nat (by omega)]
        exact Evt.neg (by simpa using h0) (ih (i + 1) (by omega) (by omega) (by omega))
      · rw [if_pos h0]
        exact Evt.pos (by simpa using h0) (.pure _)
    · rw [(List.drop_eq_nil_of_le (by omega) : ys.drop i = []), ordL]
      exact Evt.pos (by simp; omega) (.pure _)
theorem tree_order (a b : ByteArray) (ha : a.size ≤ 1048576) (hb : b.size ≤ 1048576) : Evt (fun k => tree_Order.f k a b) (ordP a b) := by
  simp only [tree_Order.f, slices_CompareFunc_string__string_string_string.f]
  have la := splS_len a
  have lb := splS_len b
  refine Evt.bind (split_ev a ha) (Evt.bind (split_ev b hb) (Evt.map ?_))
  exact lists_loop (splS a) (splS b) (fun p hp => Nat.le_trans (splS_size a p hp) ha) (fun p hp => Nat.le_trans (splS_size b p hp) hb) (by omega) (by omega) _ 0 rfl (by omega) (by omega)
theorem clamp (d : Int) : (if (if d < 1 then d else 1) > (-1) then (if d < 1 then d else 1) else (-1)) = if d < 0 then -1 else if d > 0 then 1 else 0 := by
  by_cases h1 : d < 1
  · rw [if_pos h1]
    by_cases h2 : d < 0
    · rw [if_neg (by omega), if_pos h2]
    · rw [if_pos (by omega), if_neg h2, if_neg (by omega)]; omega
  · rw [if_neg h1, if_pos (by omega), if_neg (by omega), if_pos (by omega)]
theorem ref_loop (xs ys : List ByteArray) (hx : ∀ p ∈ xs, p.size ≤ 1048576) (hy : ∀ p ∈ ys, p.size ≤ 1048576) (lx : xs.length ≤ 2097152) (ly : ys.length ≤ 2097152) :
    ∀ (n i : Nat), xs.length - i = n → i ≤ xs.length → i ≤ ys.length → Evt (fun k => dossierref18_Order.l0 k (i : Int) xs ys) (ordL ord1 (xs.drop i) (ys.drop i)) := by
  have hw : IntKind.i64.wrap ((xs.length : Int) - (ys.length : Int)) = (xs.length : Int) - (ys.length : Int) := wrap_i64 (by omega) (by omega)
  intro n
  induction n with
  | zero =>
    intro i h1 h2 h3
    refine Evt.succ (fun k => by rw [dossierref18_Order.l0]) (Evt.neg (by simp; omega) ?_)
    rw [hw, clamp, (List.drop_eq_nil_of_le (by omega) : xs.drop i = [])]
    by_cases h : xs.length < ys.length
    · rw [List.drop_eq_getElem_cons (by omega : i < ys.length), ordL, if_pos (by omega)]
      exact .pure _
    · rw [(List.drop_eq_nil_of_le (by omega) : ys.drop i = []), ordL, if_neg (by omega), if_neg (by omega)]
      exact .pure _
  | succ n ih =>
    intro i h1 h2 h3
    have hi : i < xs.length := by omega
    refine Evt.succ (fun k => by rw [dossierref18_Order.l0]) (Evt.pos (by simpa using hi) ?_)
    rw [List.drop_eq_getElem_cons hi]
    by_cases hj : i < ys.length
    · have sx := hx _ (List.getElem_mem hi)
      have sy := hy _ (List.getElem_mem hj)
      rw [List.drop_eq_getElem_cons hj, ordL]
      refine Evt.pos (by simpa using hj) (Evt.some_bind (rd_lt hi) (Evt.bind (ref_part _ sx) (Evt.some_bind (rd_lt hj) (Evt.bind (ref_part _ sy) (Evt.bind (texts_ev _ _) ?_)))))
      unfold orI ord1 orI
      by_cases h0 : cmpS (partS xs[i]).1 (partS ys[i]).1 = 0
      · rw [if_neg (by simpa using h0) (c := cmpS (partS xs[i]).1 (partS ys[i]).1 ≠ 0)]
        refine Evt.neg (by simpa using h0) ?_
        by_cases h4 : cmpI (partS xs[i]).2 (partS ys[i]).2 = 0
        · have e := cmpI_zero h4
          refine Evt.neg (by simpa using e) (Evt.some_bind (rd_lt hi) (Evt.some_bind (rd_lt hj) (Evt.bind (texts_ev _ _) ?_)))
          rw [if_neg (by simpa using h4) (c := cmpI (partS xs[i]).2 (partS ys[i]).2 ≠ 0)]
          by_cases h5 : cmpS xs[i] ys[i] = 0
          · rw [if_neg (by simpa using h5), wrap_nat (by omega)]
            exact Evt.neg (by simpa using h5) (ih (i + 1) (by omega) (by omega) (by omega))
          · rw [if_pos h5]
            exact Evt.pos (by simpa using h5) (.pure _)
        · rw [if_pos (c := cmpI (partS xs[i]).2 (partS ys[i]).2 ≠ 0) h4, if_pos h4]
          have hne : (partS xs[i]).2 ≠ (partS ys[i]).2 := by
            intro he; apply h4; rw [he]; exact cmpI_lin.refl _
          refine Evt.pos (by simpa using hne) ?_
          unfold cmpI
          refine Evt.iteD (fun _ => .pure _) fun hlt => ?_
          rw [if_pos (by omega)]; exact .pure _
      · rw [if_pos (c := cmpS (partS xs[i]).1 (partS ys[i]).1 ≠ 0) h0, if_pos h0]
        exact Evt.pos (by simpa using h0) (.pure _)
    · refine Evt.neg (by simp; omega) ?_
      rw [hw, clamp, (List.drop_eq_nil_of_le (by omega) : ys.drop i = []), ordL, if_neg (by omega), if_pos (by omega)]
      exact .pure _
theorem ref_order (a b : ByteArray) (ha : a.size ≤ 1048576) (hb : b.size ≤ 1048576) : Evt (fun k => dossierref18_Order.f k a b) (ordP a b) := by
  simp only [dossierref18_Order.f]
  have la := splS_len a
  have lb := splS_len b
  refine Evt.bind (parts_ev a ha) (Evt.bind (parts_ev b hb) ?_)
  exact ref_loop (splS a) (splS b) (fun p hp => Nat.le_trans (splS_size a p hp) ha) (fun p hp => Nat.le_trans (splS_size b p hp) hb) (by omega) (by omega) _ 0 rfl (by omega) (by omega)

theorem treeOrders_ev (a b c : ByteArray) (ha : a.size ≤ 1048576) (hb : b.size ≤ 1048576) (hc : c.size ≤ 1048576) : Evt (fun k => dossierlaw18_TreeOrders.f k a b c) true := by
  simp only [dossierlaw18_TreeOrders.f]
  have o1 := tree_order a b ha hb
  refine Evt.bind o1 (Evt.bind (ref_order a b ha hb) (Evt.neg (by simp) (Evt.bind (tree_order b a hb ha) (Evt.bind o1 (Evt.neg ?_ (Evt.bind o1 (Evt.pos ?_ (Evt.bind o1 ?_))))))))
  · have hv := ordP_val a b
    rw [wrap_i64 (by omega) (by omega), ordP_lin.neg a b]
    simp
  · rw [toList_us]
    by_cases h : ordP a b = 0
    · rw [ordP_zero h, ordP_lin.refl]; simp
    · have h2 : us a ≠ us b := by
        intro he; apply h; rw [us_inj he]; exact ordP_lin.refl _
      rw [decide_eq_false h2]
      simpa using h
  · by_cases h1 : ordP a b > 0
    · exact Evt.pos (by simpa using h1) awake_ev.map
    · refine Evt.neg (by simpa using h1) (Evt.bind (tree_order b c hb hc) ?_)
      by_cases h2 : ordP b c > 0
      · exact Evt.pos (by simpa using h2) awake_ev.map
      · refine Evt.neg (by simpa using h2) (Evt.bind (tree_order a c ha hc) ?_)
        exact Evt.pos (by simpa using ordP_lin.tr a b c (by omega) (by omega)) awake_ev.map
theorem treeOrders_true (a b c : ByteArray) (ha : a.size ≤ 1048576) (hb : b.size ≤ 1048576) (hc : c.size ≤ 1048576) : ∃ k, dossierlaw18_TreeOrders.f k a b c = some true := (treeOrders_ev a b c ha hb hc).get
end Go.Abs.GenT
