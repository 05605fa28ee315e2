import Derived.Test.YtknfjmongeddgaaGenRc
import Derived.Test.YtknfjmongeddgaaOpR
import Derived.Test.YtknfjmongeddgaaPlBase
set_option linter.unusedVariables false
set_option linter.unusedSimpArgs false
namespace Go.Abs.GenR
open Go.Abs

theorem bk_Item (x : api_Item) : bk_api_Item x = bkS x.ID + bkS x.Name + bk1 x.Kind + bkL bk_api_Sentry x.Entry + bkL bk_api_Sentry x.Exit + bkS x.Manual + bkS x.Required + bkS x.Repeat + bk1 x.Auto + bk1 x.Free + bk1 x.After + bkL bkS x.Roles + bkL bk_api_Item x.Kids + bkL bk_api_Item x.Table + 1 := by
  cases x; simp only [bk_api_Item, bks_api_Item_eq]
theorem bk_Item_ge (x : api_Item) : 1 ≤ bk_api_Item x := by rw [bk_Item]; omega
theorem bk_Sentry_ge (x : api_Sentry) : 1 ≤ bk_api_Sentry x := by simp [bk_api_Sentry]
theorem bk_OnPart_ge (x : api_OnPart) : 1 ≤ bk_api_OnPart x := by simp [bk_api_OnPart]

theorem item_ind {Q : api_Item → Prop} (h : ∀ x, (∀ y ∈ x.Kids, Q y) → (∀ y ∈ x.Table, Q y) → Q x) : ∀ x, Q x := by
  have key : ∀ n x, bk_api_Item x ≤ n → Q x := by
    intro n
    induction n with
    | zero => intro x hx; have := bk_Item_ge x; omega
    | succ n ih =>
      intro x hx
      rw [bk_Item] at hx
      refine h x (fun y hy => ih y ?_) (fun y hy => ih y ?_)
      · have := bkL_mem bk_api_Item hy; omega
      · have := bkL_mem bk_api_Item hy; omega
  exact fun x => key _ x (Nat.le_refl _)

/-! ### all items -/
mutual
def itemsOf : api_Item → List api_Item
  | ⟨a, b, c, d, e, f, g, h, i, j, k, l, m, n⟩ => ⟨a, b, c, d, e, f, g, h, i, j, k, l, m, n⟩ :: (itemsL m ++ itemsL n)
def itemsL : List api_Item → List api_Item
  | [] => []
  | x :: xs => itemsOf x ++ itemsL xs
end
theorem itemsOf_eq (x : api_Item) : itemsOf x = x :: (itemsL x.Kids ++ itemsL x.Table) := by cases x; simp only [itemsOf]

theorem itemsL_len (xs : List api_Item) (h : ∀ x ∈ xs, (itemsOf x).length ≤ bk_api_Item x) : (itemsL xs).length < bkL bk_api_Item xs := by
  induction xs with
  | nil => simp [itemsL, bkL]
  | cons x xs ih =>
    have h1 := h x (by simp)
    have h2 := ih fun y hy => h y (by simp [hy])
    rw [bkL_cons]
    simp only [itemsL, List.length_append]; omega
theorem itemsOf_len : ∀ x, (itemsOf x).length ≤ bk_api_Item x := by
  refine item_ind fun x h1 h2 => ?_
  rw [itemsOf_eq, bk_Item]
  have := itemsL_len x.Kids h1
  have := itemsL_len x.Table h2
  simp only [List.length_cons, List.length_append]; omega

theorem ref_items : ∀ x, bk_api_Item x ≤ 1048576 → Evt (fun k => dossierref13_items.f k x) (itemsOf x) := by
  refine item_ind fun x h1 h2 => fun hb => ?_
  have hb' := hb
  rw [bk_Item] at hb'
  have lk := itemsL_len x.Kids fun y _ => itemsOf_len y
  have lt := itemsL_len x.Table fun y _ => itemsOf_len y
  have nk := bkL_len bk_Item_ge x.Kids
  have nt := bkL_len bk_Item_ge x.Table
  have table : ∀ acc : List api_Item, acc.length + (itemsL x.Table).length ≤ 1048576 → Evt (fun k => dossierref13_items.l1 k acc 0 x) (acc ++ itemsL x.Table) := by
    intro acc hacc
    refine loop_all (xs := x.Table) (F := fun k i s => dossierref13_items.l1 k s i x) (E := fun _ s => some s) (by omega) (fun k i s => by rw [dossierref13_items.l1])
      (Good := fun suf s => (∀ y ∈ suf, y ∈ x.Table) ∧ s.length + (itemsL suf).length ≤ 1048576) (R := fun suf s => s ++ itemsL suf) ?_ ?_ acc ⟨fun y hy => hy, hacc⟩
    · intro s hs
      simpa [itemsL] using Evt.pure s
    · intro i v suf s hi hv hg ih
      have hm := hg.1 v (by simp)
      have hl := hg.2
      simp only [itemsL, List.length_append] at hl
      refine Evt.bind (h2 v hm (by have := bkL_mem bk_api_Item hm; omega)) (Evt.pos (by simp; omega) ?_)
      have := ih (s ++ itemsOf v) ⟨fun y hy => hg.1 y (by simp [hy]), by simp; omega⟩
      simpa [itemsL] using this
  have kids : ∀ acc : List api_Item, acc.length + (itemsL x.Kids).length + (itemsL x.Table).length ≤ 1048576 → Evt (fun k => dossierref13_items.l0 k acc 0 x) (acc ++ itemsL x.Kids ++ itemsL x.Table) := by
    intro acc hacc
    refine loop_all (xs := x.Kids) (F := fun k i s => dossierref13_items.l0 k s i x) (E := fun k s => dossierref13_items.l1 k s 0 x) (by omega) (fun k i s => by rw [dossierref13_items.l0])
      (Good := fun suf s => (∀ y ∈ suf, y ∈ x.Kids) ∧ s.length + (itemsL suf).length + (itemsL x.Table).length ≤ 1048576) (R := fun suf s => s ++ itemsL suf ++ itemsL x.Table) ?_ ?_ acc ⟨fun y hy => hy, hacc⟩
    · intro s hs
      simpa [itemsL] using table s (by simpa [itemsL] using hs.2)
    · intro i v suf s hi hv hg ih
      have hm := hg.1 v (by simp)
      have hl := hg.2
      simp only [itemsL, List.length_append] at hl
      refine Evt.bind (h1 v hm (by have := bkL_mem bk_api_Item hm; omega)) (Evt.pos (by simp; omega) ?_)
      have := ih (s ++ itemsOf v) ⟨fun y hy => hg.1 y (by simp [hy]), by simp; omega⟩
      simpa [itemsL] using this
  refine Evt.succ (fun k => by rw [dossierref13_items.f]) ?_
  have := kids [x] (by simp; omega)
  rw [itemsOf_eq]
  simpa using this
end Go.Abs.GenR
