import Derived.Test.YtknfjmongeddgaaPlRolesA
set_option linter.unusedVariables false
set_option linter.unusedSimpArgs false
namespace Go.Abs.GenR
open Go.Abs

/-! ### copies -/
theorem clone_str (l : List ByteArray) (h : l.length ≤ 8796093022208) : Evt (fun k => slices_Clone_string_string.f k l) l := by
  refine Evt.congr (fun k => by rw [slices_Clone_string_string.f]) (Evt.pos ?_ (.pure l))
  simpa using h
theorem clone_on (l : List api_OnPart) (h : l.length ≤ 3518437208883) : Evt (fun k => slices_Clone_api_OnPart_api_OnPart.f k l) l := by
  refine Evt.congr (fun k => by rw [slices_Clone_api_OnPart_api_OnPart.f]) (Evt.pos ?_ (.pure l))
  simpa using h

theorem own_sentries (l : List api_Sentry) (h : bkL bk_api_Sentry l ≤ 1048576) : Evt (fun k => model_own_1.f k l) l := by
  have n := bkL_len bk_Sentry_ge l
  refine Evt.congr (fun k => by rw [model_own_1.f]) ?_
  have := loop_all (xs := l) (F := fun k i s => model_own_1.l0 k s i l) (E := fun _ s => some s) (by omega) (fun k i s => by rw [model_own_1.l0])
    (Good := fun suf s => (∀ y ∈ suf, y ∈ l) ∧ s.length + suf.length ≤ 1048576) (R := fun suf s => s ++ suf) (fun s _ => by simpa using Evt.pure s)
    (fun i v suf s hi hv hg ih => by
      have hm := hg.1 v (by simp)
      have hl := hg.2
      have hb := bkL_mem bk_api_Sentry hm
      have ho := bkL_len bk_OnPart_ge v.On
      have hs : bk_api_Sentry v = bkL bk_api_OnPart v.On + bkS v.If + 1 := rfl
      simp only [List.length_cons] at hl
      refine Evt.bind (clone_on v.On (by omega)) (Evt.pos (by simp; omega) ?_)
      have := ih (s ++ [v]) ⟨fun y hy => hg.1 y (by simp [hy]), by simp; omega⟩
      simpa using this) [] ⟨fun y hy => hy, by simp; omega⟩
  simpa using this

theorem own_items (l : List api_Item) (h : l.length ≤ 1048576) (ho : ∀ y ∈ l, Evt (fun k => model_own.f k y) y) : Evt (fun k => model_own_2.f k l) l := by
  refine Evt.succ (fun k => by rw [model_own_2.f]) ?_
  have := loop_all (xs := l) (F := fun k i s => model_own_2.l0 k s i l) (E := fun _ s => some s) (by omega) (fun k i s => by rw [model_own_2.l0])
    (Good := fun suf s => (∀ y ∈ suf, y ∈ l) ∧ s.length + suf.length ≤ 1048576) (R := fun suf s => s ++ suf) (fun s _ => by simpa using Evt.pure s)
    (fun i v suf s hi hv hg ih => by
      have hm := hg.1 v (by simp)
      have hl := hg.2
      simp only [List.length_cons] at hl
      refine Evt.bind (ho v hm) (Evt.pos (by simp; omega) ?_)
      have := ih (s ++ [v]) ⟨fun y hy => hg.1 y (by simp [hy]), by simp; omega⟩
      simpa using this) [] ⟨fun y hy => hy, by simp; omega⟩
  simpa using this

theorem own_item : ∀ x, bk_api_Item x ≤ 1048576 → Evt (fun k => model_own.f k x) x := by
  refine item_ind fun x h1 h2 => fun hb => ?_
  rw [bk_Item] at hb
  have nk := bkL_len bk_Item_ge x.Kids
  have nt := bkL_len bk_Item_ge x.Table
  have nr := bkL_len bkS_ge x.Roles
  refine Evt.succ (fun k => by rw [model_own.f]) ?_
  refine Evt.bind (own_sentries _ (by omega)) (Evt.bind (own_sentries _ (by omega)) (Evt.bind (clone_str _ (by omega)) (Evt.bind (own_items _ (by omega) fun y hy => h1 y hy ?_) (Evt.bind (own_items _ (by omega) fun y hy => h2 y hy ?_) ?_))))
  · have := bkL_mem bk_api_Item hy; omega
  · have := bkL_mem bk_api_Item hy; omega
  · cases x; exact Evt.pure _

/-! ### all items, by the program -/
theorem set_end {α : Type} (l : List α) (z r : α) : (l ++ [z]).set ((l.length : Int).toNat) r = l ++ [r] := by
  rw [Int.toNat_natCast, List.set_append_right _ _ (Nat.le_refl _)]; simp
theorem items_1 (x : api_Item) (ar : List ByteArray) (acc : List api_Item) (hb : bk_api_Item x ≤ 1048576) (ha : acc.length ≤ 1048576) : Evt (fun k => model_Items_1.f k x ar acc) (true, acc ++ [x]) := by
  refine Evt.congr (fun k => by rw [model_Items_1.f]) ?_
  refine Evt.bind (own_item x hb) (Evt.pos (by simp; omega) ?_)
  refine Evt.some_bind (a := _) (by rw [rd_lt (by simp)]) ?_
  rw [set_end]
  exact Evt.pure _

theorem walk_items : ∀ x, ∀ (ar : List ByteArray) (acc : List api_Item), ar.length + bk_api_Item x ≤ 2097152 → bk_api_Item x ≤ 1048576 → acc.length + (itemsOf x).length ≤ 1048576 →
    Evt (fun k => model_walk_55x.f k x ar acc) (true, acc ++ itemsOf x) := by
  refine item_ind fun x h1 h2 => fun ar acc hd hb ha => ?_
  have hq := bk_Item x
  have nk := bkL_len bk_Item_ge x.Kids
  have nt := bkL_len bk_Item_ge x.Table
  rw [itemsOf_eq] at ha ⊢
  simp only [List.length_cons, List.length_append] at ha
  refine Evt.succ (fun k => by rw [model_walk_55x.f]) ?_
  refine Evt.bind (items_1 x ar acc hb (by omega)) (Evt.pos rfl (Evt.bind (clone_str _ (by omega)) (Evt.pos (by simp; omega) ?_)))
  -- the table
  have table : ∀ acc : List api_Item, acc.length + (itemsL x.Table).length ≤ 1048576 → Evt (fun k => model_walk_55x.l0 k acc 1 x ar) (true, acc ++ itemsL x.Table) := by
    intro acc ha
    refine Evt.succ (fun k => by rw [model_walk_55x.l0]) (Evt.pos (by decide) (Evt.neg (by decide) (Evt.pos (by decide) ?_)))
    refine loop_all (xs := x.Table) (F := fun k i s => model_walk_55x.l2 k s i x ar 1) (E := fun k s => model_walk_55x.l0 k s (IntKind.i64.wrap (1 + 1)) x ar) (by omega) (fun k i s => by rw [model_walk_55x.l2])
      (Good := fun suf s => (∀ y ∈ suf, y ∈ x.Table) ∧ s.length + (itemsL suf).length ≤ 1048576) (R := fun suf s => (true, s ++ itemsL suf)) ?_ ?_ acc ⟨fun y hy => hy, ha⟩
    · intro s _
      refine Evt.succ (fun k => by rw [model_walk_55x.l0]) (Evt.neg (by decide) ?_)
      simpa [itemsL] using Evt.pure (true, s)
    · intro i v suf s hi hv hg ih
      have hm := hg.1 v (by simp)
      have hl := hg.2
      have hbv := bkL_mem bk_api_Item hm
      simp only [itemsL, List.length_append] at hl
      refine Evt.bind (h2 v hm _ s (by simp; omega) (by omega) (by omega)) (Evt.pos rfl ?_)
      have := ih (s ++ itemsOf v) ⟨fun y hy => hg.1 y (by simp [hy]), by simp; omega⟩
      simpa [itemsL] using this
  refine Evt.succ (fun k => by rw [model_walk_55x.l0]) (Evt.pos (by decide) (Evt.pos (by decide) ?_))
  have := loop_all (xs := x.Kids) (F := fun k i s => model_walk_55x.l1 k s i x ar 0) (E := fun k s => model_walk_55x.l0 k s (IntKind.i64.wrap (0 + 1)) x ar) (by omega) (fun k i s => by rw [model_walk_55x.l1])
    (Good := fun suf s => (∀ y ∈ suf, y ∈ x.Kids) ∧ s.length + (itemsL suf).length + (itemsL x.Table).length ≤ 1048576) (R := fun suf s => (true, s ++ itemsL suf ++ itemsL x.Table))
    (fun s hs => by
      have h3 := table s (by simpa [itemsL] using hs.2)
      have e : s ++ itemsL [] ++ itemsL x.Table = s ++ itemsL x.Table := by simp [itemsL]
      rw [e]; exact h3)
    (fun i v suf s hi hv hg ih => by
      have hm := hg.1 v (by simp)
      have hl := hg.2
      have hbv := bkL_mem bk_api_Item hm
      simp only [itemsL, List.length_append] at hl
      refine Evt.bind (h1 v hm _ s (by simp; omega) (by omega) (by omega)) (Evt.pos rfl ?_)
      have := ih (s ++ itemsOf v) ⟨fun y hy => hg.1 y (by simp [hy]), by simp; omega⟩
      simpa [itemsL] using this) (acc ++ [x]) ⟨fun y hy => hy, by simp; omega⟩
  simpa using this

/-! ### the first item of an ID -/
mutual
def lookI (id : ByteArray) : api_Item → List ByteArray → Option (api_Item × List ByteArray)
  | ⟨a, b, c, d, e, f, g, h, i, j, k, l, m, n⟩, ar => if (a.toList == id.toList) = true then some (⟨a, b, c, d, e, f, g, h, i, j, k, l, m, n⟩, ar) else (lookL id m (ar ++ [a])).or (lookL id n (ar ++ [a]))
def lookL (id : ByteArray) : List api_Item → List ByteArray → Option (api_Item × List ByteArray)
  | [], _ => none
  | x :: xs, ar => (lookI id x ar).or (lookL id xs ar)
end
theorem lookI_eq (id : ByteArray) (x : api_Item) (ar : List ByteArray) : lookI id x ar = if (x.ID.toList == id.toList) = true then some (x, ar) else (lookL id x.Kids (ar ++ [x.ID])).or (lookL id x.Table (ar ++ [x.ID])) := by
  cases x; simp only [lookI]
def isID (id : ByteArray) (x : api_Item) : Bool := x.ID.toList == id.toList
theorem lookL_find (id : ByteArray) (xs : List api_Item) (h : ∀ x ∈ xs, ∀ ar, (lookI id x ar).map (·.1) = (itemsOf x).find? (isID id)) (ar : List ByteArray) : (lookL id xs ar).map (·.1) = (itemsL xs).find? (isID id) := by
  induction xs with
  | nil => simp [lookL, itemsL]
  | cons x xs ih =>
    have h1 := h x (by simp) ar
    have h2 := ih fun y hy => h y (by simp [hy])
    simp only [lookL, itemsL, List.find?_append, ← h1, ← h2]
    cases lookI id x ar <;> simp
theorem lookI_find (id : ByteArray) : ∀ x, ∀ ar, (lookI id x ar).map (·.1) = (itemsOf x).find? (isID id) := by
  refine item_ind fun x h1 h2 => fun ar => ?_
  rw [lookI_eq, itemsOf_eq, List.find?_cons]
  by_cases hx : (x.ID.toList == id.toList) = true
  · rw [if_pos hx]
    have : isID id x = true := hx
    simp [this]
  · rw [if_neg hx]
    have : isID id x = false := by simpa [isID] using hx
    rw [this, List.find?_append, ← lookL_find id x.Kids h1 (ar ++ [x.ID]), ← lookL_find id x.Table h2 (ar ++ [x.ID])]
    cases lookL id x.Kids (ar ++ [x.ID]) <;> simp

def resW (id : ByteArray) (f : api_Item) (w : List ByteArray) : Option (api_Item × List ByteArray) → Bool × ByteArray × api_Item × List ByteArray × Bool
  | none => (true, id, f, w, false)
  | some (y, w') => (false, id, y, w', true)

theorem walk_look (id : ByteArray) (f : api_Item) (w : List ByteArray) : ∀ x, ∀ (ar : List ByteArray), ar.length + bk_api_Item x ≤ 2097152 → bk_api_Item x ≤ 1048576 →
    Evt (fun k => model_walk_55.f k x ar id f w false) (resW id f w (lookI id x ar)) := by
  refine item_ind fun x h1 h2 => fun ar hd hb => ?_
  have hq := bk_Item x
  have nk := bkL_len bk_Item_ge x.Kids
  have nt := bkL_len bk_Item_ge x.Table
  rw [lookI_eq]
  refine Evt.succ (fun k => by rw [model_walk_55.f]) ?_
  by_cases hx : (x.ID.toList == id.toList) = true
  · rw [if_pos hx]
    refine Evt.bind (a := (false, id, x, ar, true)) (Evt.congr (fun k => by rw [model_look_1_57.f]) (Evt.pos hx (.pure _))) (Evt.neg (by simp) (.pure _))
  · rw [if_neg hx]
    refine Evt.bind (a := (true, id, f, w, false)) (Evt.congr (g := fun _ => some (!false, id, f, w, false)) (fun k => by rw [model_look_1_57.f, if_neg hx]) (.pure _)) (Evt.pos rfl (Evt.bind (clone_str _ (by omega)) (Evt.pos (by simp; omega) ?_)))
    have table : Evt (fun k => model_walk_55.l0 k id f w false 1 x ar) (resW id f w (lookL id x.Table (ar ++ [x.ID]))) := by
      refine Evt.succ (fun k => by rw [model_walk_55.l0]) (Evt.pos (by decide) (Evt.neg (by decide) (Evt.pos (by decide) ?_)))
      refine loop_all (σ := Unit) (xs := x.Table) (F := fun k i _ => model_walk_55.l2 k id f w false i x ar 1) (E := fun k _ => model_walk_55.l0 k id f w false (IntKind.i64.wrap (1 + 1)) x ar) (by omega) (fun k i s => by rw [model_walk_55.l2])
        (Good := fun suf _ => ∀ y ∈ suf, y ∈ x.Table) (R := fun suf _ => resW id f w (lookL id suf (ar ++ [x.ID]))) ?_ ?_ () (fun y hy => hy)
      · intro s _
        have h3 : Evt (fun k => model_walk_55.l0 k id f w false (IntKind.i64.wrap (1 + 1)) x ar) (true, id, f, w, false) := by
          refine Evt.succ (fun k => by rw [model_walk_55.l0]) (Evt.neg (by decide) ?_)
          exact Evt.pure _
        have e : lookL id [] (ar ++ [x.ID]) = none := by simp [lookL]
        rw [e]; exact h3
      · intro i v suf s hi hv hg ih
        have hm := hg v (by simp)
        have hbv := bkL_mem bk_api_Item hm
        refine Evt.bind (h2 v hm _ (by simp; omega) (by omega)) ?_
        simp only [lookL]
        cases lookI id v (ar ++ [x.ID]) with
        | none => exact Evt.pos rfl (ih () fun y hy => hg y (by simp [hy]))
        | some p => exact Evt.neg (by simp [resW]) (.pure _)
    refine Evt.succ (fun k => by rw [model_walk_55.l0]) (Evt.pos (by decide) (Evt.pos (by decide) ?_))
    refine loop_all (σ := Unit) (xs := x.Kids) (F := fun k i _ => model_walk_55.l1 k id f w false i x ar 0) (E := fun k _ => model_walk_55.l0 k id f w false (IntKind.i64.wrap (0 + 1)) x ar) (by omega) (fun k i s => by rw [model_walk_55.l1])
      (Good := fun suf _ => ∀ y ∈ suf, y ∈ x.Kids) (R := fun suf _ => resW id f w ((lookL id suf (ar ++ [x.ID])).or (lookL id x.Table (ar ++ [x.ID])))) ?_ ?_ () (fun y hy => hy)
    · intro s _
      exact table
    · intro i v suf s hi hv hg ih
      have hm := hg v (by simp)
      have hbv := bkL_mem bk_api_Item hm
      refine Evt.bind (h1 v hm _ (by simp; omega) (by omega)) ?_
      simp only [lookL]
      cases lookI id v (ar ++ [x.ID]) with
      | none => exact Evt.pos rfl (ih () fun y hy => hg y (by simp [hy]))
      | some p => exact Evt.neg (by simp [resW]) (.pure _)
end Go.Abs.GenR
