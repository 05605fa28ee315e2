import Derived.Test.YtknfjmongeddgaaPlRolesB
set_option linter.unusedVariables false
set_option linter.unusedSimpArgs false
namespace Go.Abs.GenR
open Go.Abs

theorem bk_FileItem (x : api_FileItem) : bk_api_FileItem x = bkS x.Name + bk1 x.Kind + bk1 x.Multi + bkL bk_api_FileItem x.Kids + bkL bkS x.Refs + 1 := by
  cases x; simp only [bk_api_FileItem, bks_api_FileItem_eq]
theorem bk_FileItem_ge (x : api_FileItem) : 1 ≤ bk_api_FileItem x := by rw [bk_FileItem]; omega

/-! ### a model's size: some answer -/
theorem item_tot : ∀ x, bk_api_Item x ≤ 1048576 → ∀ d n, Tot (fun k => dossierplain_item.f k x d n) := by
  refine item_ind fun x h1 h2 => fun hb d n => ?_
  rw [bk_Item] at hb
  have nk := bkL_len bk_Item_ge x.Kids
  have nt := bkL_len bk_Item_ge x.Table
  have ne := bkL_len bk_Sentry_ge x.Entry
  have nx := bkL_len bk_Sentry_ge x.Exit
  refine Tot.succ (fun k => by rw [dossierplain_item.f]) (Tot.ite (.pure _) (Tot.ite (.pure _) (Tot.ite (.pure _) (Tot.ite (.pure _) (Tot.ite (.pure _) ?_)))))
  have kids : ∀ m, Tot (fun k => dossierplain_item.l2 k m 0 x d) := by
    intro m
    refine loop_tot (xs := [x.Kids, x.Table]) (F := fun k i s => dossierplain_item.l2 k s i x d) (E := fun _ s => some (true, s)) (by simp) (fun k i s => by rw [dossierplain_item.l2]) (fun s => .pure _) ?_ m
    intro i v s hv ih
    refine loop_tot (xs := v) (F := fun k j t => dossierplain_item.l3 k t j x d i v) (E := fun k t => dossierplain_item.l2 k t (IntKind.i64.wrap ((i : Nat) + 1)) x d) ?_ (fun k i s => by rw [dossierplain_item.l3]) (fun t => ih t) ?_ s
    · simp at hv; rcases hv with rfl | rfl <;> omega
    · intro j y t hy ih2
      refine Tot.bind (?_ : Tot fun k => dossierplain_item.f k y (IntKind.i64.wrap (d + 1)) t) fun r => Tot.ite (ih2 _) (.pure _)
      simp at hv
      rcases hv with rfl | rfl
      · exact h1 y hy (by have := bkL_mem bk_api_Item hy; omega) _ _
      · exact h2 y hy (by have := bkL_mem bk_api_Item hy; omega) _ _
  refine loop_tot (σ := Unit) (xs := [x.Entry, x.Exit]) (F := fun k i _ => dossierplain_item.l0 k i x d n) (E := fun k _ => dossierplain_item.l2 k _ 0 x d) (by simp) (fun k i s => by rw [dossierplain_item.l0]) (fun s => kids _) ?_ ()
  intro i v s hv ih
  refine loop_tot (σ := Unit) (xs := v) (F := fun k j _ => dossierplain_item.l1 k j x d n i v) (E := fun k _ => dossierplain_item.l0 k (IntKind.i64.wrap ((i : Nat) + 1)) x d n) ?_ (fun k i s => by rw [dossierplain_item.l1]) (fun t => ih t) ?_ ()
  · simp at hv; rcases hv with rfl | rfl <;> omega
  · intro j y t hy ih2
    exact Tot.ite (.pure _) (ih2 ())

theorem file_ind {Q : api_FileItem → Prop} (h : ∀ x, (∀ y ∈ x.Kids, Q y) → Q x) : ∀ x, Q x := by
  have key : ∀ n x, bk_api_FileItem x ≤ n → Q x := by
    intro n
    induction n with
    | zero => intro x hx; have := bk_FileItem_ge x; omega
    | succ n ih =>
      intro x hx
      rw [bk_FileItem] at hx
      refine h x (fun y hy => ih y ?_)
      have := bkL_mem bk_api_FileItem hy; omega
  exact fun x => key _ x (Nat.le_refl _)
theorem files_tot0 (l : List api_FileItem) (hl : l.length < 9223372036854775807) (h : ∀ x ∈ l, ∀ d n, Tot (fun k => dossierplain_files.f k x.Kids d n)) (d n : Int) : Tot (fun k => dossierplain_files.f k l d n) := by
  refine Tot.succ (fun k => by rw [dossierplain_files.f]) (Tot.ite (.pure _) ?_)
  refine loop_tot (xs := l) (F := fun k i s => dossierplain_files.l0 k s i l d) (E := fun _ s => some (true, s)) hl (fun k i s => by rw [dossierplain_files.l0]) (fun s => .pure _) ?_ n
  intro i v s hv ih
  exact Tot.ite (.pure _) (Tot.ite (.pure _) (Tot.bind (h v hv _ _) fun r => Tot.ite (ih _) (.pure _)))
theorem files_tot1 : ∀ x, bk_api_FileItem x ≤ 1048576 → ∀ d n, Tot (fun k => dossierplain_files.f k x.Kids d n) := by
  refine file_ind fun x h1 => fun hb d n => ?_
  rw [bk_FileItem] at hb
  have nk := bkL_len bk_FileItem_ge x.Kids
  exact files_tot0 _ (by omega) (fun y hy => h1 y hy (by have := bkL_mem bk_api_FileItem hy; omega)) d n
theorem model_tot (m : api_Model) (hb : bk_api_Model m ≤ 1048576) : Tot (fun k => dossierplain_Model.f k m) := by
  have e : bk_api_Model m = bkS m.ID + bkS m.Name + bkL bkS m.Roles + bkL bk_api_FileItem m.Files + bk_api_Item m.Plan + 1 := rfl
  have nk := bkL_len bk_FileItem_ge m.Files
  refine Tot.congr (fun k => by rw [dossierplain_Model.f]) (Tot.bind (Tot.congr (fun k => by rw [dossierplain_Item.f]) (Tot.bind (item_tot _ (by omega) _ _) fun _ => .pure _)) fun r => Tot.ite (Tot.bind ?_ fun r => Tot.ite (.pure _) (.pure _)) (.pure _))
  refine Tot.congr (fun k => by rw [dossierplain_Files.f]) (Tot.bind (files_tot0 _ (by omega) (fun y hy => files_tot1 y (by have := bkL_mem bk_api_FileItem hy; omega)) _ _) fun _ => .pure _)

/-! ### what a role may -/
def zeroItem : api_Item := ⟨(⟨#[]⟩ : ByteArray), (⟨#[]⟩ : ByteArray), 0, ([] : List api_Sentry), ([] : List api_Sentry), (⟨#[]⟩ : ByteArray), (⟨#[]⟩ : ByteArray), (⟨#[]⟩ : ByteArray), false, false, 0, ([] : List ByteArray), ([] : List api_Item), ([] : List api_Item)⟩
def findS (m : api_Model) (id : ByteArray) : Option api_Item := (itemsOf m.Plan).find? (isID id)
def pairF : Option api_Item → api_Item × Bool
  | some y => (y, true)
  | none => (zeroItem, false)
theorem bk_Plan (m : api_Model) : bk_api_Item m.Plan < bk_api_Model m := by
  have e : bk_api_Model m = bkS m.ID + bkS m.Name + bkL bkS m.Roles + bkL bk_api_FileItem m.Files + bk_api_Item m.Plan + 1 := rfl
  omega
theorem bk_Roles (m : api_Model) : m.Roles.length < bk_api_Model m := by
  have e : bk_api_Model m = bkS m.ID + bkS m.Name + bkL bkS m.Roles + bkL bk_api_FileItem m.Files + bk_api_Item m.Plan + 1 := rfl
  have := bkL_len bkS_ge m.Roles
  omega

theorem mem_items_bk : ∀ x, ∀ y ∈ itemsOf x, bk_api_Item y ≤ bk_api_Item x := by
  refine item_ind fun x h1 h2 => fun y hy => ?_
  have hL : ∀ xs : List api_Item, (∀ z ∈ xs, ∀ y ∈ itemsOf z, bk_api_Item y ≤ bk_api_Item z) → ∀ y ∈ itemsL xs, bk_api_Item y < bkL bk_api_Item xs := by
    intro xs
    induction xs with
    | nil => intro _ y hy; simp [itemsL] at hy
    | cons z xs ih =>
      intro hz y hy
      rw [bkL_cons]
      simp only [itemsL, List.mem_append] at hy
      have := bkL_ge (bk := bk_api_Item) xs
      rcases hy with hy | hy
      · have := hz z (by simp) y hy; omega
      · have := ih (fun w hw => hz w (by simp [hw])) y hy; omega
  rw [itemsOf_eq] at hy
  rcases List.mem_cons.mp hy with rfl | hy
  · exact Nat.le_refl _
  · rw [bk_Item x]
    rcases List.mem_append.mp hy with hy | hy
    · have := hL _ h1 y hy; omega
    · have := hL _ h2 y hy; omega

theorem ref_find (m : api_Model) (id : ByteArray) (hb : bk_api_Model m ≤ 1048576) : Evt (fun k => dossierref13_Find.f k m id) (pairF (findS m id)) := by
  have hp := bk_Plan m
  have hl := itemsOf_len m.Plan
  refine Evt.congr (fun k => by rw [dossierref13_Find.f]) (Evt.bind (Evt.congr (fun k => by rw [dossierref13_Items.f]) (ref_items m.Plan (by omega)).map) ?_)
  exact loop_all (σ := Unit) (xs := itemsOf m.Plan) (F := fun k i _ => dossierref13_Find.l0 k i id (itemsOf m.Plan)) (E := fun _ _ => some (zeroItem, false)) (by omega) (fun k i s => by rw [dossierref13_Find.l0]; rfl)
    (Good := fun _ _ => True) (R := fun suf _ => pairF (suf.find? (isID id))) (fun s _ => .pure _)
    (fun i v suf s hi hv hg ih => by
      rw [List.find?_cons]
      by_cases h : (v.ID.toList == id.toList) = true
      · have e : isID id v = true := h
        rw [e]; exact Evt.pos h (.pure _)
      · have e : isID id v = false := by simpa [isID] using h
        rw [e]; exact Evt.neg h (ih () trivial)) () trivial

theorem model_find (m : api_Model) (id : ByteArray) (hb : bk_api_Model m ≤ 1048576) : Evt (fun k => model_Find.f k m id) (pairF (findS m id)) := by
  have hp := bk_Plan m
  have hw := walk_look id zeroItem [] m.Plan [] (by simp; omega) (by omega)
  have hf := lookI_find id m.Plan []
  simp only [model_Find.f, model_look.f]
  refine Evt.bind (Evt.bind hw (.pure _)) ?_
  unfold findS
  rw [← hf]
  cases hl : lookI id m.Plan [] with
  | none => exact Evt.neg (by simp [resW]) (.pure _)
  | some p =>
    refine Evt.pos rfl (Evt.bind (own_item p.1 ?_) (.pure _))
    have h1 : (itemsOf m.Plan).find? (isID id) = some p.1 := by rw [← hf, hl]; rfl
    have := mem_items_bk m.Plan p.1 (List.mem_of_find?_eq_some h1)
    omega

def hasS (l : List ByteArray) (s : ByteArray) : Bool := l.any fun y => s.toList == y.toList
theorem contains_ev (l : List ByteArray) (s : ByteArray) (hl : l.length ≤ 1048576) : Evt (fun k => slices_Contains_string_string.f k l s) (hasS l s) := by
  refine Evt.congr (fun k => by rw [slices_Contains_string_string.f]) ?_
  have h1 : Evt (fun k => slices_Index_string_string.f k l s) (match l.findIdx? (fun y => s.toList == y.toList) with | some i => (i : Int) | none => -1) := by
    refine Evt.congr (fun k => by rw [slices_Index_string_string.f]) ?_
    have key : ∀ (suf pre : List ByteArray), l = pre ++ suf → Evt (fun k => slices_Index_string_string.l0 k (pre.length : Int) l s) (match suf.findIdx? (fun y => s.toList == y.toList) with | some i => ((pre.length + i : Nat) : Int) | none => -1) := by
      intro suf
      induction suf with
      | nil =>
        intro pre hx
        refine Evt.succ (fun k => by rw [slices_Index_string_string.l0]) (Evt.neg ?_ ?_)
        · simp [hx]
        · exact Evt.pure _
      | cons v suf ih =>
        intro pre hx
        have hi : pre.length < l.length := by rw [hx]; simp
        refine Evt.succ (fun k => by rw [slices_Index_string_string.l0]) (Evt.pos (by simpa using hi) (Evt.some_bind (a := v) (by rw [rd_nat, hx]; simp) ?_))
        by_cases h : (s.toList == v.toList) = true
        · have e : (v :: suf).findIdx? (fun y => s.toList == y.toList) = some 0 := by simp [List.findIdx?_cons, h]
          rw [e]; exact Evt.pos h (.pure _)
        · have e : (v :: suf).findIdx? (fun y => s.toList == y.toList) = (suf.findIdx? (fun y => s.toList == y.toList)).map (· + 1) := by simp [List.findIdx?_cons, h]
          refine Evt.neg h ?_
          have := ih (pre ++ [v]) (by rw [hx]; simp)
          rw [List.length_append] at this
          rw [wrap_nat (by omega)]
          rw [e]
          cases hq : suf.findIdx? (fun y => s.toList == y.toList) with
          | none => rw [hq] at this; exact this
          | some i =>
            rw [hq] at this
            simp only [Option.map_some, List.length_cons, List.length_nil] at this ⊢
            rw [show pre.length + (i + 1) = pre.length + (0 + 1) + i by omega]
            exact this
    have := key l [] rfl
    simpa using this
  refine Evt.bind h1 ?_
  have e : hasS l s = decide ((match l.findIdx? (fun y => s.toList == y.toList) with | some i => (i : Int) | none => -1) ≥ 0) := by
    cases hq : l.findIdx? (fun y => s.toList == y.toList) with
    | none =>
      have := List.findIdx?_eq_none_iff.mp hq
      simp only [hasS]
      rw [List.any_eq_false.mpr (fun x hx => by simpa using this x hx)]
      rfl
    | some i =>
      have := List.findIdx?_eq_some_iff_getElem.mp hq
      obtain ⟨h, h2, _⟩ := this
      simp only [hasS]
      rw [List.any_eq_true.mpr ⟨l[i], List.getElem_mem h, h2⟩]
      simp
  rw [e]
  exact Evt.pure _
theorem has_ev (l : List ByteArray) (s : ByteArray) (hl : l.length ≤ 1048576) : Evt (fun k => dossierref27_has.f k l s) (hasS l s) := by
  refine Evt.congr (fun k => by rw [dossierref27_has.f]) ?_
  exact loop_all (σ := Unit) (xs := l) (F := fun k i _ => dossierref27_has.l0 k i l s) (E := fun _ _ => some false) (by omega) (fun k i s => by rw [dossierref27_has.l0])
    (Good := fun _ _ => True) (R := fun suf _ => hasS suf s) (fun s _ => .pure _)
    (fun i v suf u hi hv hg ih => by
      simp only [hasS, List.any_cons]
      by_cases h : (v.toList == s.toList) = true
      · have e : (s.toList == v.toList) = true := by rw [beq_iff_eq] at h ⊢; exact h.symm
        rw [e]; exact Evt.pos h (.pure _)
      · have e : (s.toList == v.toList) = false := by
          rw [Bool.eq_false_iff]; intro h2; apply h; rw [beq_iff_eq] at h2 ⊢; exact h2.symm
        rw [e]; exact Evt.neg h (ih () trivial)) () trivial

def chk2 (m : api_Model) (item role : ByteArray) : Int :=
  match findS m item with
  | none => 33
  | some x => if x.Roles.length = 0 ∨ hasS x.Roles role = true then 0 else 41
def noRole (role : ByteArray) : Bool := role.toList == (⟨#[]⟩ : ByteArray).toList
def chkS (m : api_Model) (item role : ByteArray) : Int := if noRole role = true then chk2 m item role else if hasS m.Roles role = true then chk2 m item role else 41

theorem findS_bk {m : api_Model} {id : ByteArray} {x : api_Item} (hb : bk_api_Model m ≤ 1048576) (h : findS m id = some x) : x.Roles.length ≤ 1048576 := by
  have h1 := mem_items_bk m.Plan x (List.mem_of_find?_eq_some h)
  have h2 := bk_Plan m
  have h3 := bkL_len bkS_ge x.Roles
  rw [bk_Item x] at h1
  omega

theorem check_ev (m : api_Model) (item role : ByteArray) (hb : bk_api_Model m ≤ 1048576) : Evt (fun k => roles_Check.f k m item role) (chkS m item role) := by
  have hf := model_find m item hb
  have hr := bk_Roles m
  have two : Evt (fun k => (model_Find.f k m item).bind fun r2 => if r2.2 = true then ((roles_may.f k r2.1 role).bind fun r4 => if r4 = true then (some 0) else (some 41)) else (some (33 : Int))) (chk2 m item role) := by
    refine Evt.bind hf ?_
    unfold chk2
    cases hs : findS m item with
    | none => exact Evt.neg (by simp [pairF]) (.pure _)
    | some x =>
      refine Evt.pos rfl ?_
      have hl := findS_bk hb hs
      refine Evt.bind (a := decide (x.Roles.length = 0 ∨ hasS x.Roles role = true)) (Evt.congr (fun k => by rw [roles_may.f]) ?_) ?_
      · by_cases h0 : x.Roles.length = 0
        · rw [decide_eq_true (.inl h0)]; exact Evt.pos (by simp [pairF, h0]) (.pure _)
        · refine Evt.neg (by simpa [pairF] using h0) ?_
          have e : decide (x.Roles.length = 0 ∨ hasS x.Roles role = true) = hasS x.Roles role := by simp [h0]
          rw [e]; exact (contains_ev x.Roles role hl).map
      · by_cases h0 : x.Roles.length = 0 ∨ hasS x.Roles role = true
        · simp only [h0, decide_true, if_true]; exact .pure _
        · simp only [h0, decide_false, if_false]; exact .pure _
  refine Evt.congr (fun k => by rw [roles_Check.f]) ?_
  unfold chkS noRole
  refine Evt.ite (fun _ => two) fun _ => Evt.bind (Evt.congr (fun k => by rw [roles_Known.f]) (contains_ev m.Roles role (by omega)).map) (Evt.ite (fun _ => two) fun _ => .pure _)

theorem refcheck_ev (m : api_Model) (item role : ByteArray) (hb : bk_api_Model m ≤ 1048576) : Evt (fun k => dossierref27_Check.f k m item role) (chkS m item role) := by
  have hf := ref_find m item hb
  have hr := bk_Roles m
  have two : Evt (fun k => (dossierref13_Find.f k m item).bind fun r2 => if r2.2 = true then (if (decide ((r2.1.Roles.length : Int) > 0)) = true then ((dossierref27_has.f k r2.1.Roles role).bind fun r5 => if r5 = true then (some 0) else (some 41)) else (some 0)) else (some (33 : Int))) (chk2 m item role) := by
    refine Evt.bind hf ?_
    unfold chk2
    cases hs : findS m item with
    | none => exact Evt.neg (by simp [pairF]) (.pure _)
    | some x =>
      refine Evt.pos rfl ?_
      have hl := findS_bk hb hs
      by_cases h0 : x.Roles.length = 0
      · simp only [h0, true_or, if_true]
        exact Evt.neg (by simp [pairF, h0]) (.pure _)
      · simp only [h0, false_or]
        refine Evt.pos (by have : 0 < x.Roles.length := Nat.pos_of_ne_zero h0; simpa [pairF] using this) (Evt.bind (has_ev x.Roles role hl) (Evt.ite (fun _ => .pure _) fun _ => .pure _))
  refine Evt.congr (fun k => by rw [dossierref27_Check.f]) ?_
  unfold chkS noRole
  refine Evt.ite (fun _ => two) fun _ => Evt.bind (Evt.congr (fun k => by rw [dossierref27_Known.f]) (has_ev m.Roles role (by omega)).map) (Evt.ite (fun _ => two) fun _ => .pure _)
end Go.Abs.GenR
