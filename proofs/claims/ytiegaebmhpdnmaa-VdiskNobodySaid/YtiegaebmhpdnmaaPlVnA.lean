import Derived.Test.YtiegaebmhpdnmaaGenWb
import Derived.Test.YtiegaebmhpdnmaaPlStr
set_option linter.unusedVariables false
set_option linter.unusedSimpArgs false
set_option maxRecDepth 100000
set_option maxHeartbeats 4000000
namespace Go.Abs.GenW
open Go.Abs

/-! ### maps -/
theorem mget_mset {V : Type} (k q : ByteArray) (x : V) : ∀ m : List (ByteArray × V), mget k (mset q x m) = if k = q then some x else mget k m
  | [] => by
    by_cases h : k = q
    · have : (k.toList == q.toList) = true := (toList_iff _ _).mpr h
      simp [mset, mget, this, h]
    · have : ¬ (k.toList == q.toList) = true := fun e => h ((toList_iff _ _).mp e)
      simp only [mset, mget, this, if_neg h]; rfl
  | e :: m => by
    rw [mset]
    by_cases hq : q = e.1
    · have h1 : (q.toList == e.1.toList) = true := (toList_iff _ _).mpr hq
      rw [if_pos h1, mget]
      by_cases h : k = q
      · rw [if_pos ((toList_iff _ _).mpr h), if_pos h]
      · have h2 : ¬ (k.toList == q.toList) = true := fun e => h ((toList_iff _ _).mp e)
        have h3 : ¬ (k.toList == e.1.toList) = true := by rw [← hq]; exact h2
        rw [if_neg h2, if_neg h, mget, if_neg h3]
    · have h1 : ¬ (q.toList == e.1.toList) = true := fun w => hq ((toList_iff _ _).mp w)
      rw [if_neg h1, mget]
      by_cases h : k = e.1
      · rw [if_pos ((toList_iff _ _).mpr h), if_neg (by rw [h]; exact fun w => hq w.symm), mget, if_pos ((toList_iff _ _).mpr h)]
      · have h2 : ¬ (k.toList == e.1.toList) = true := fun w => h ((toList_iff _ _).mp w)
        rw [if_neg h2, mget_mset k q x m]
        by_cases h3 : k = q
        · rw [if_pos h3, if_pos h3]
        · rw [if_neg h3, if_neg h3, mget, if_neg h2]
theorem mset_keys {V : Type} (q : ByteArray) (x : V) : ∀ m : List (ByteArray × V), (∀ e ∈ mset q x m, e.1 = q ∨ e ∈ m) ∧ (mset q x m).length ≤ m.length + 1
  | [] => by simp [mset]
  | e :: m => by
    rw [mset]
    split
    · refine ⟨fun y hy => ?_, by simp⟩
      rcases List.mem_cons.mp hy with rfl | hy
      · exact .inl rfl
      · exact .inr (by simp [hy])
    · obtain ⟨h1, h2⟩ := mset_keys q x m
      refine ⟨fun y hy => ?_, by simpa using h2⟩
      rcases List.mem_cons.mp hy with rfl | hy
      · exact .inr (by simp)
      · rcases h1 y hy with h | h
        · exact .inl h
        · exact .inr (by simp [h])
def zf : vdisk_file := ⟨([] : List Int), 0⟩
def fl (k : ByteArray) (m : List (ByteArray × vdisk_file)) : vdisk_file := (mget k m).getD zf
theorem fl_set (k q : ByteArray) (x : vdisk_file) (m : List (ByteArray × vdisk_file)) : fl k (mset q x m) = if k = q then x else fl k m := by
  unfold fl
  rw [mget_mset]
  split <;> rfl

/-! ### the disk -/
theorem concat_ev (x y : List Int) (hx : x.length ≤ 1099511627776) (hy : y.length ≤ 1099511627776) : Evt (fun k => slices_Concat_byte_byte.f k ([x, y] : List (List Int))) (x ++ y) := by
  simp only [slices_Concat_byte_byte.f]
  have h1 : IntKind.i64.wrap (0 + (x.length : Int)) = (x.length : Int) := by rw [wrap_i64 (by omega) (by omega)]; omega
  have h2 : IntKind.i64.wrap ((x.length : Int) + (y.length : Int)) = (x.length : Int) + (y.length : Int) := wrap_i64 (by omega) (by omega)
  have w1 : IntKind.i64.wrap (0 + 1) = 1 := by decide
  have w2 : IntKind.i64.wrap (1 + 1) = 2 := by decide
  refine Evt.succ (fun k => by rw [slices_Concat_byte_byte.l0]) ?_
  refine Evt.pos rfl ?_
  refine Evt.some_bind (a := x) rfl ?_
  rw [h1, w1]
  refine Evt.neg (by simp) ?_
  refine Evt.succ (fun k => by rw [slices_Concat_byte_byte.l0]) ?_
  refine Evt.pos rfl ?_
  refine Evt.some_bind (a := y) rfl ?_
  rw [h2, w2]
  refine Evt.neg (by simp; omega) ?_
  refine Evt.succ (fun k => by rw [slices_Concat_byte_byte.l0]) ?_
  refine Evt.neg (by simp) ?_
  refine Evt.bind (a := ([] : List Int)) ?_ ?_
  · have w3 : IntKind.i64.wrap ((x.length : Int) + (y.length : Int) - 0) = (x.length : Int) + (y.length : Int) := by rw [wrap_i64 (by omega) (by omega)]; omega
    simp only [slices_Grow_byte_byte_nil0.f]
    rw [w3]
    refine Evt.neg (by simp; omega) ?_
    by_cases hz : (x.length : Int) + (y.length : Int) > 0
    · exact Evt.pos (by simpa using hz) (Evt.pos (by rw [decide_eq_true_eq]; omega) (.pure _))
    · exact Evt.neg (by simpa using hz) (.pure _)
  · refine Evt.succ (fun k => by rw [slices_Concat_byte_byte.l1]) ?_
    refine Evt.pos rfl ?_
    refine Evt.some_bind (a := x) rfl ?_
    rw [w1]
    refine Evt.pos (by simp; omega) ?_
    refine Evt.succ (fun k => by rw [slices_Concat_byte_byte.l1]) ?_
    refine Evt.pos rfl ?_
    refine Evt.some_bind (a := y) rfl ?_
    rw [w2]
    refine Evt.pos (by simp; omega) ?_
    refine Evt.succ (fun k => by rw [slices_Concat_byte_byte.l1]) ?_
    refine Evt.neg (by simp) ?_
    simpa using Evt.pure (x ++ y)
theorem set_ev (D : vdisk_Disk) (n : ByteArray) (f : vdisk_file) : ∃ u, Evt (fun k => vdisk_Disk_set.f k D n f) (⟨mset n f D.files, D.room, u, (), D.dead⟩ : vdisk_Disk) := by
  simp only [vdisk_Disk_set.f]
  exact ⟨_, .pure _⟩
theorem change_ev (D : vdisk_Disk) (may : Bool) (n : ByteArray) (fresh : Bool) (g : Int) : ∃ e : Int, Evt (fun k => vdisk_Disk_change_31.f k D may n fresh g) (e, D) := by
  simp only [vdisk_Disk_change_31.f, vdisk_Disk_none_35.f]
  have h : ∀ {α : Type} {c : Prop} [Decidable c] {f g : Nat → Option (Int × vdisk_Disk)}, (∃ e : Int, Evt f (e, D)) → (∃ e : Int, Evt g (e, D)) → ∃ e : Int, Evt (fun k => if c then f k else g k) (e, D) := by
    intro _ c _ f g ⟨e1, h1⟩ ⟨e2, h2⟩
    by_cases hc : c
    · exact ⟨e1, h1.pos hc⟩
    · exact ⟨e2, h2.neg hc⟩
  have p : ∀ e : Int, ∃ e' : Int, Evt (fun _ : Nat => some (e, D)) (e', D) := fun e => ⟨e, .pure _⟩
  have key := h (α := Unit) (c := (false = true)) (p 2) (h (α := Unit) (c := may = true) (h (α := Unit) (c := D.dead = true) (p 70) (h (α := Unit) (c := (mget n D.files).isSome = true)
    (h (α := Unit) (c := decide (g > 0) = true) (h (α := Unit) (c := decide (g > IntKind.i64.wrap (D.room - D.used)) = true) (p 71) (p 0)) (p 0))
    (h (α := Unit) (c := fresh = true) (h (α := Unit) (c := decide (g > 0) = true) (h (α := Unit) (c := decide (g > IntKind.i64.wrap (D.room - D.used)) = true) (p 71) (p 0)) (p 0)) (p 33)))) (p 1))
  obtain ⟨e, he⟩ := key
  exact ⟨e, Evt.bind (.pure _) he⟩
theorem named_ev (n : ByteArray) : ∃ b, Evt (fun k => vdisk_named.f k n) b := by
  simp only [vdisk_named.f]
  by_cases h : (n.toList == (⟨#[]⟩ : ByteArray).toList) = true
  · exact ⟨_, Evt.pos h (.pure _)⟩
  · exact ⟨_, Evt.neg h (.pure _)⟩
/-- what an Append does to a disk. -/
theorem append_ev (D : vdisk_Disk) (n : ByteArray) (x : List Int) (h1 : (fl n D.files).b.length ≤ 1099511627776) (h2 : x.length ≤ 1099511627776) :
    ∃ (e : Int) (D' : vdisk_Disk), Evt (fun k => vdisk_Disk_Append_9.f k D n x) (e, D') ∧ (D' = D ∨ ∃ u, D' = ⟨mset n ⟨(fl n D.files).b ++ x, (fl n D.files).sure⟩ D.files, D.room, u, (), D.dead⟩) := by
  simp only [vdisk_Disk_Append_9.f]
  obtain ⟨b, hb⟩ := named_ev n
  obtain ⟨e, he⟩ := change_ev D b n true (x.length : Int)
  by_cases h0 : e = 0
  · obtain ⟨u, hu⟩ := set_ev D n ⟨(fl n D.files).b ++ x, (fl n D.files).sure⟩
    exact ⟨e, _, Evt.bind hb (Evt.bind he (Evt.pos (by simpa using h0) (Evt.bind (concat_ev _ x h1 h2) (Evt.bind hu (.pure _))))), .inr ⟨u, rfl⟩⟩
  · exact ⟨e, D, Evt.bind hb (Evt.bind he (Evt.neg (by simpa using h0) (.pure _))), .inl rfl⟩
theorem prefix_none : True := trivial
theorem read_ev (D : vdisk_Disk) (n : ByteArray) (h1 : D.dead = false) (h2 : (mget n D.files).isSome = true) (h3 : (fl n D.files).b.length ≤ 100000000000000) : Evt (fun k => vdisk_Disk_Read_12.f k D n) ((fl n D.files).b, 0, D) := by
  simp only [vdisk_Disk_Read_12.f, vdisk_Disk_none_35.f, slices_Clone_byte_byte.f]
  refine Evt.bind (.pure _) (Evt.neg (by simp) (Evt.neg (by simp [h1]) (Evt.pos h2 (Evt.bind (Evt.pos ?_ (.pure _)) (.pure _)))))
  have : (fl n D.files).b.length ≤ 140737488355328 := by omega
  unfold fl zf at this
  simpa using this
/-! ### awake -/
theorem sort1 {V : Type} (k : ByteArray) (x : V) : sortK [(k, x)] = [k] := by
  unfold sortK strK
  simp
theorem append_first (D : vdisk_Disk) (n : ByteArray) (x : List Int) (hn : Evt (fun k => vdisk_named.f k n) true) (hd : D.dead = false) (hm : D.files = []) (hu : D.used = 0) (hr : (x.length : Int) ≤ D.room) (hl : x.length ≤ 1048576) (hr2 : D.room ≤ 1048576) :
    ∃ u, Evt (fun k => vdisk_Disk_Append_9.f k D n x) (0, ⟨[(n, ⟨x, 0⟩)], D.room, u, (), false⟩) := by
  have hc : Evt (fun k => vdisk_Disk_change_31.f k D true n true (x.length : Int)) (0, D) := by
    simp only [vdisk_Disk_change_31.f, vdisk_Disk_none_35.f]
    refine Evt.bind (.pure _) (Evt.neg (by simp) (Evt.pos (by simp) (Evt.neg (by simp [hd]) (Evt.neg (by simp [hm, mget]) (Evt.pos (by simp) ?_)))))
    by_cases h0 : (x.length : Int) > 0
    · refine Evt.pos (by simpa using h0) (Evt.neg ?_ (.pure _))
      show ¬ decide ((x.length : Int) > IntKind.i64.wrap (D.room - D.used)) = true
      rw [hu, wrap_i64 (by omega) (by omega)]
      simp; omega
    · exact Evt.neg (by simpa using h0) (.pure _)
  obtain ⟨u, hs⟩ := set_ev D n (⟨[] ++ x, 0⟩ : vdisk_file)
  rw [hm, hd] at hs
  simp only [vdisk_Disk_Append_9.f]
  refine ⟨u, Evt.bind hn (Evt.bind hc (Evt.pos rfl (Evt.bind (a := [] ++ x) ?_ (Evt.bind (a := (⟨mset n ⟨[] ++ x, 0⟩ [], D.room, u, (), false⟩ : vdisk_Disk)) ?_ (.pure _)))))⟩
  · rw [hm]; exact concat_ev [] x (by simp) (by omega)
  · rw [hm]; exact hs
theorem named_a : Evt (fun k => vdisk_named.f k (⟨#[97]⟩ : ByteArray)) true := by
  simp only [vdisk_named.f]
  refine Evt.neg (by rw [toList_beq]; decide) (.pure _)
theorem awake_ev : Evt (fun k => dossierlaw03_awake.f k) true := by
  simp only [dossierlaw03_awake.f, vdisk_New_8.f]
  refine Evt.bind (.pure _) (Evt.neg (by simp) ?_)
  obtain ⟨u, ha⟩ := append_first (⟨[], 9, 0, (), false⟩ : vdisk_Disk) (⟨#[97]⟩ : ByteArray) [97, 98, 99] named_a rfl rfl rfl (by decide) (by decide) (by decide)
  refine Evt.bind ha (Evt.neg (by simp) ?_)
  have hf : ∀ f : vdisk_file, fl (⟨#[97]⟩ : ByteArray) [((⟨#[97]⟩ : ByteArray), f)] = f := fun f => by
    simp [fl, mget]
  have hcr : ∃ u', Evt (fun k => vdisk_Disk_Crash_11.f k (⟨[((⟨#[97]⟩ : ByteArray), ⟨[97, 98, 99], 0⟩)], 9, u, (), false⟩ : vdisk_Disk) ([2] : List Int)) (0, (⟨[((⟨#[97]⟩ : ByteArray), ⟨[97, 98], 2⟩)], 9, u', (), false⟩ : vdisk_Disk)) := by
    obtain ⟨u', hs⟩ := set_ev (⟨[((⟨#[97]⟩ : ByteArray), ⟨[97, 98, 99], 0⟩)], 9, u, (), false⟩ : vdisk_Disk) (⟨#[97]⟩ : ByteArray) (⟨[97, 98], 2⟩ : vdisk_file)
    refine ⟨u', ?_⟩
    simp only [vdisk_Disk_Crash_11.f, vdisk_Disk_none_35.f, vdisk_Disk_Names_24.f]
    refine Evt.bind (.pure _) (Evt.neg (by simp) (Evt.bind (a := ([(⟨#[97]⟩ : ByteArray)], _)) (Evt.bind (.pure _) (Evt.neg (by simp) (Evt.pos rfl (by rw [sort1]; exact .pure _)))) ?_))
    refine Evt.succ (fun k => by rw [vdisk_Disk_Crash_11.l0]) ?_
    refine Evt.pos rfl ?_
    refine Evt.some_bind (a := (⟨#[97]⟩ : ByteArray)) rfl ?_
    refine Evt.pos rfl ?_
    refine Evt.some_bind (a := 2) rfl ?_
    refine Evt.pos rfl ?_
    refine Evt.some_bind (a := 2) rfl ?_
    have e1 := hf ⟨[97, 98, 99], 0⟩
    unfold fl zf at e1
    rw [e1]
    refine Evt.pos (by decide) ?_
    refine Evt.bind hs ?_
    refine Evt.succ (fun k => by rw [vdisk_Disk_Crash_11.l0]) ?_
    refine Evt.neg (by rw [show IntKind.i64.wrap (0 + 1) = 1 from by decide]; simp) ?_
    have e2 : mset (⟨#[97]⟩ : ByteArray) (⟨[97, 98], 2⟩ : vdisk_file) [((⟨#[97]⟩ : ByteArray), ⟨[97, 98, 99], 0⟩)] = [((⟨#[97]⟩ : ByteArray), ⟨[97, 98], 2⟩)] := by simp [mset]
    rw [e2]
    exact .pure _
  obtain ⟨u', hc⟩ := hcr
  refine Evt.bind hc (Evt.neg (by simp) ?_)
  have hr := read_ev (⟨[((⟨#[97]⟩ : ByteArray), ⟨[97, 98], 2⟩)], 9, u', (), false⟩ : vdisk_Disk) (⟨#[97]⟩ : ByteArray) rfl (by simp [mget]) (by rw [hf]; decide)
  rw [hf] at hr
  refine Evt.bind hr (Evt.pos rfl ?_)
  have e : ((ofNums [97, 98]).toList == (⟨#[97, 98]⟩ : ByteArray).toList) = true := by rw [toList_beq]; decide
  rw [e]; exact .pure _

end Go.Abs.GenW
