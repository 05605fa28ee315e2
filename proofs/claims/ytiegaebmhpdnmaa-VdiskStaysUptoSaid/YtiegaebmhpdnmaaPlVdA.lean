import Derived.Test.YtiegaebmhpdnmaaGenVb
import Derived.Test.YtiegaebmhpdnmaaPlStr
set_option linter.unusedVariables false
set_option linter.unusedSimpArgs false
set_option maxRecDepth 100000
set_option maxHeartbeats 4000000
namespace Go.Abs.GenV
open Go.Abs

/-! ### maps -/
theorem mget_mset {V : Type} (k q : ByteArray) (x : V) : ∀ m : List (ByteArray × V), mget k (mset q x m) = if k = q then some x else mget k m
  | [] => by
    by_cases h : k = q
    · have : (k.toList == q.toList) = true := (toList_iff _ _).mpr h
      simp [mset, mget, this, h]
    · have : ¬ (k.toList == q.toList) = true := fun e => h ((toList_iff _ _).mp e)
      simp only [mset, mget, this, if_neg h]; rfl
  | e :: m => by
    rw [mset]
    by_cases hq : q = e.1
    · have h1 : (q.toList == e.1.toList) = true := (toList_iff _ _).mpr hq
      rw [if_pos h1, mget]
      by_cases h : k = q
      · rw [if_pos ((toList_iff _ _).mpr h), if_pos h]
      · have h2 : ¬ (k.toList == q.toList) = true := fun e => h ((toList_iff _ _).mp e)
        have h3 : ¬ (k.toList == e.1.toList) = true := by rw [← hq]; exact h2
        rw [if_neg h2, if_neg h, mget, if_neg h3]
    · have h1 : ¬ (q.toList == e.1.toList) = true := fun w => hq ((toList_iff _ _).mp w)
      rw [if_neg h1, mget]
      by_cases h : k = e.1
      · rw [if_pos ((toList_iff _ _).mpr h), if_neg (by rw [h]; exact fun w => hq w.symm), mget, if_pos ((toList_iff _ _).mpr h)]
      · have h2 : ¬ (k.toList == e.1.toList) = true := fun w => h ((toList_iff _ _).mp w)
        rw [if_neg h2, mget_mset k q x m]
        by_cases h3 : k = q
        · rw [if_pos h3, if_pos h3]
        · rw [if_neg h3, if_neg h3, mget, if_neg h2]
theorem mset_keys {V : Type} (q : ByteArray) (x : V) : ∀ m : List (ByteArray × V), (∀ e ∈ mset q x m, e.1 = q ∨ e ∈ m) ∧ (mset q x m).length ≤ m.length + 1
  | [] => by simp [mset]
  | e :: m => by
    rw [mset]
    split
    · refine ⟨fun y hy => ?_, by simp⟩
      rcases List.mem_cons.mp hy with rfl | hy
      · exact .inl rfl
      · exact .inr (by simp [hy])
    · obtain ⟨h1, h2⟩ := mset_keys q x m
      refine ⟨fun y hy => ?_, by simpa using h2⟩
      rcases List.mem_cons.mp hy with rfl | hy
      · exact .inr (by simp)
      · rcases h1 y hy with h | h
        · exact .inl h
        · exact .inr (by simp [h])
def zf : vdisk_file := ⟨([] : List Int), 0⟩
def fl (k : ByteArray) (m : List (ByteArray × vdisk_file)) : vdisk_file := (mget k m).getD zf
theorem fl_set (k q : ByteArray) (x : vdisk_file) (m : List (ByteArray × vdisk_file)) : fl k (mset q x m) = if k = q then x else fl k m := by
  unfold fl
  rw [mget_mset]
  split <;> rfl

/-! ### the disk -/
theorem concat_ev (x y : List Int) (hx : x.length ≤ 1099511627776) (hy : y.length ≤ 1099511627776) : Evt (fun k => slices_Concat_byte_byte.f k ([x, y] : List (List Int))) (x ++ y) := by
  simp only [slices_Concat_byte_byte.f]
  have h1 : IntKind.i64.wrap (0 + (x.length : Int)) = (x.length : Int) := by rw [wrap_i64 (by omega) (by omega)]; omega
  have h2 : IntKind.i64.wrap ((x.length : Int) + (y.length : Int)) = (x.length : Int) + (y.length : Int) := wrap_i64 (by omega) (by omega)
  have w1 : IntKind.i64.wrap (0 + 1) = 1 := by decide
  have w2 : IntKind.i64.wrap (1 + 1) = 2 := by decide
  refine Evt.succ (fun k => by rw [slices_Concat_byte_byte.l0]) ?_
  refine Evt.pos rfl ?_
  refine Evt.some_bind (a := x) rfl ?_
  rw [h1, w1]
  refine Evt.neg (by simp) ?_
  refine Evt.succ (fun k => by rw [slices_Concat_byte_byte.l0]) ?_
  refine Evt.pos rfl ?_
  refine Evt.some_bind (a := y) rfl ?_
  rw [h2, w2]
  refine Evt.neg (by simp; omega) ?_
  refine Evt.succ (fun k => by rw [slices_Concat_byte_byte.l0]) ?_
  refine Evt.neg (by simp) ?_
  refine Evt.bind (a := ([] : List Int)) ?_ ?_
  · have w3 : IntKind.i64.wrap ((x.length : Int) + (y.length : Int) - 0) = (x.length : Int) + (y.length : Int) := by rw [wrap_i64 (by omega) (by omega)]; omega
    simp only [slices_Grow_byte_byte_nil0.f]
    rw [w3]
    refine Evt.neg (by simp; omega) ?_
    by_cases hz : (x.length : Int) + (y.length : Int) > 0
    · exact Evt.pos (by simpa using hz) (Evt.pos (by rw [decide_eq_true_eq]; omega) (.pure _))
    · exact Evt.neg (by simpa using hz) (.pure _)
  · refine Evt.succ (fun k => by rw [slices_Concat_byte_byte.l1]) ?_
    refine Evt.pos rfl ?_
    refine Evt.some_bind (a := x) rfl ?_
    rw [w1]
    refine Evt.pos (by simp; omega) ?_
    refine Evt.succ (fun k => by rw [slices_Concat_byte_byte.l1]) ?_
    refine Evt.pos rfl ?_
    refine Evt.some_bind (a := y) rfl ?_
    rw [w2]
    refine Evt.pos (by simp; omega) ?_
    refine Evt.succ (fun k => by rw [slices_Concat_byte_byte.l1]) ?_
    refine Evt.neg (by simp) ?_
    simpa using Evt.pure (x ++ y)
theorem set_ev (D : vdisk_Disk) (n : ByteArray) (f : vdisk_file) : ∃ u, Evt (fun k => vdisk_Disk_set.f k D n f) (⟨mset n f D.files, D.room, u, (), D.dead⟩ : vdisk_Disk) := by
  simp only [vdisk_Disk_set.f]
  exact ⟨_, .pure _⟩
theorem change_ev (D : vdisk_Disk) (may : Bool) (n : ByteArray) (fresh : Bool) (g : Int) : ∃ e : Int, Evt (fun k => vdisk_Disk_change.f k D may n fresh g) (e, D) := by
  simp only [vdisk_Disk_change.f, vdisk_Disk_none.f]
  have h : ∀ {α : Type} {c : Prop} [Decidable c] {f g : Nat → Option (Int × vdisk_Disk)}, (∃ e : Int, Evt f (e, D)) → (∃ e : Int, Evt g (e, D)) → ∃ e : Int, Evt (fun k => if c then f k else g k) (e, D) := by
    intro _ c _ f g ⟨e1, h1⟩ ⟨e2, h2⟩
    by_cases hc : c
    · exact ⟨e1, h1.pos hc⟩
    · exact ⟨e2, h2.neg hc⟩
  have p : ∀ e : Int, ∃ e' : Int, Evt (fun _ : Nat => some (e, D)) (e', D) := fun e => ⟨e, .pure _⟩
  have key := h (α := Unit) (c := (false = true)) (p 2) (h (α := Unit) (c := may = true) (h (α := Unit) (c := D.dead = true) (p 70) (h (α := Unit) (c := (mget n D.files).isSome = true)
    (h (α := Unit) (c := decide (g > 0) = true) (h (α := Unit) (c := decide (g > IntKind.i64.wrap (D.room - D.used)) = true) (p 71) (p 0)) (p 0))
    (h (α := Unit) (c := fresh = true) (h (α := Unit) (c := decide (g > 0) = true) (h (α := Unit) (c := decide (g > IntKind.i64.wrap (D.room - D.used)) = true) (p 71) (p 0)) (p 0)) (p 33)))) (p 1))
  obtain ⟨e, he⟩ := key
  exact ⟨e, Evt.bind (.pure _) he⟩
theorem named_ev (n : ByteArray) : ∃ b, Evt (fun k => vdisk_named.f k n) b := by
  simp only [vdisk_named.f]
  by_cases h : (n.toList == (⟨#[]⟩ : ByteArray).toList) = true
  · exact ⟨_, Evt.pos h (.pure _)⟩
  · exact ⟨_, Evt.neg h (.pure _)⟩
/-- what an Append does to a disk. -/
theorem append_ev (D : vdisk_Disk) (n : ByteArray) (x : List Int) (h1 : (fl n D.files).b.length ≤ 1099511627776) (h2 : x.length ≤ 1099511627776) :
    ∃ (e : Int) (D' : vdisk_Disk), Evt (fun k => vdisk_Disk_Append.f k D n x) (e, D') ∧ (D' = D ∨ ∃ u, D' = ⟨mset n ⟨(fl n D.files).b ++ x, (fl n D.files).sure⟩ D.files, D.room, u, (), D.dead⟩) := by
  simp only [vdisk_Disk_Append.f]
  obtain ⟨b, hb⟩ := named_ev n
  obtain ⟨e, he⟩ := change_ev D b n true (x.length : Int)
  by_cases h0 : e = 0
  · obtain ⟨u, hu⟩ := set_ev D n ⟨(fl n D.files).b ++ x, (fl n D.files).sure⟩
    exact ⟨e, _, Evt.bind hb (Evt.bind he (Evt.pos (by simpa using h0) (Evt.bind (concat_ev _ x h1 h2) (Evt.bind hu (.pure _))))), .inr ⟨u, rfl⟩⟩
  · exact ⟨e, D, Evt.bind hb (Evt.bind he (Evt.neg (by simpa using h0) (.pure _))), .inl rfl⟩
/-- files are right. -/
structure Ok (p : List Int) (B : Nat) (m : List (ByteArray × vdisk_file)) : Prop where
  sure : ∀ k, 0 ≤ (fl k m).sure ∧ (fl k m).sure ≤ ((fl k m).b.length : Int)
  len : ∀ k, (fl k m).b.length ≤ B
  has : (mget (⟨#[97]⟩ : ByteArray) m).isSome = true
  pre : p <+: (fl ⟨#[97]⟩ m).b
  far : (p.length : Int) ≤ (fl ⟨#[97]⟩ m).sure
  keys : ∀ e ∈ m, e.1 = ⟨#[97]⟩ ∨ e.1 = ⟨#[98]⟩
  size : m.length ≤ B
theorem Ok.mono {p : List Int} {B C : Nat} {m : List (ByteArray × vdisk_file)} (h : Ok p B m) (hc : B ≤ C) : Ok p C m :=
  ⟨h.sure, fun k => Nat.le_trans (h.len k) hc, h.has, h.pre, h.far, h.keys, Nat.le_trans h.size hc⟩
theorem Ok.set {p : List Int} {B C : Nat} {m : List (ByteArray × vdisk_file)} (h : Ok p B m) {n : ByteArray} {f : vdisk_file} (hn : n = ⟨#[97]⟩ ∨ n = ⟨#[98]⟩) (hB : B ≤ C) (h1 : 0 ≤ f.sure ∧ f.sure ≤ (f.b.length : Int)) (h2 : f.b.length ≤ C) (hs : m.length + 1 ≤ C) (h3 : n = ⟨#[97]⟩ → p <+: f.b ∧ (p.length : Int) ≤ f.sure) : Ok p C (mset n f m) := by
  refine ⟨fun k => ?_, fun k => ?_, ?_, ?_, ?_, fun e he => ?_, Nat.le_trans (mset_keys n f m).2 hs⟩
  · rw [fl_set]; split
    · exact h1
    · exact h.sure k
  · rw [fl_set]; split
    · exact h2
    · exact Nat.le_trans (h.len k) hB
  · rw [mget_mset]; split
    · rfl
    · exact h.has
  · rw [fl_set]; split
    · rename_i e; exact (h3 e.symm).1
    · exact h.pre
  · rw [fl_set]; split
    · rename_i e; exact (h3 e.symm).2
    · exact h.far
  · rcases (mset_keys n f m).1 e he with h4 | h4
    · rw [h4]; exact hn
    · exact h.keys e h4
end Go.Abs.GenV
