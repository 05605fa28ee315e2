import Derived.Test.YthdbbamkjmogfaaDoorAbsSHa
set_option linter.unusedVariables false
set_option linter.unusedSimpArgs false
set_option maxRecDepth 100000
set_option maxHeartbeats 4000000
namespace Go.Abs.GenS
open Go Go.Abs Go.Proofs Go.RowKit Go.Shelf
attribute [local go_sem] Oper.semAt_some
/-! ### what a round keeps -/
/-- the block that the box B's slice owns. -/
def ownB (B : Nat) (W : World) : Option Nat := (W.cell? ⟨B, 0, none⟩).bind Value.ownBlock
/-- from where on the rounds may turn rows. -/
def baseB (B : Nat) (W : World) : Nat := (ownB B W).getD W.heap.size
/-- whatever cells lay ahead of the box's row, but for the box, lie as they lay; the row is the same, or lies behind. -/
structure KeepB (B : Nat) (W W' : World) : Prop where
 size : W.heap.size ≤ W'.heap.size
 same : ∀ (k : Nat) (o : Obj), W.heap[k]? = some o → o.isCells = true → k ≠ B → k < baseB B W → W'.heap[k]? = some o
 own : ownB B W' = ownB B W ∨ ∃ g, ownB B W' = some g ∧ baseB B W ≤ g
theorem KeepB.base {B : Nat} {W W' : World} (h : KeepB B W W') : baseB B W ≤ baseB B W' := by
 rcases h.own with e | ⟨g, e, hg⟩
 ·unfold baseB
  rw [e]
  cases ownB B W with
  | none => exact h.size
  | some g => exact Nat.le_refl _
 ·have : baseB B W' = g := by unfold baseB; rw [e]; rfl
  rw [this]; exact hg
theorem KeepB.trans {B : Nat} {X Y Z : World} (h : KeepB B X Y) (k : KeepB B Y Z) : KeepB B X Z := by
 refine ⟨Nat.le_trans h.size k.size, fun i o hi ho hB hlt => k.same i o (h.same i o hi ho hB hlt) ho hB (Nat.lt_of_lt_of_le hlt h.base), ?_⟩
 rcases k.own with e | ⟨g, e, hg⟩
 ·rw [e]
  exact h.own
 ·exact .inr ⟨g, e, Nat.le_trans h.base hg⟩
theorem ownB_of {B : Nat} {W W' : World} (h : W'.heap[B]? = W.heap[B]?) : ownB B W' = ownB B W := by
 unfold ownB; rw [World.cell?_of_block h]
theorem KeepB.of_below {B : Nat} {W W' : World} (h : Below W.heap.size W W') (hB : B < W.heap.size) : KeepB B W W' :=
 ⟨h.size, fun k o hk _ _ _ => (h.block k (Array.getElem?_eq_some_iff.1 hk).1).trans hk, .inl (ownB_of (h.block B hB))⟩
theorem KeepB.putObj {B : Nat} {W : World} {l : Nat} {o : Obj} (o' : Obj) (hl : W.heap[l]? = some o) (ho : o.isCells = false) (hB : B ≠ l) : KeepB B W (W.putObj l o') :=
 ⟨by simp, fun k o2 hk hc _ _ => (World.putObj_heap_other (fun e => by subst e; rw [hl] at hk; cases hk; rw [ho] at hc; cases hc)).trans hk, .inl (ownB_of (World.putObj_heap_other hB))⟩
theorem below_grown {W W' : World} (h : Below W.heap.size W W') : W.grownBy W' none := ⟨h.os, h.tape, h.output, h.size, fun k hk _ => h.block k hk⟩
abbrev encs (p : Piece) : Array Value := #[.agg #[.string p.1, .int .i64 p.2.1], .bool p.2.2]
theorem abides_below {β : Type} {n0 : Nat} {J : β → World → Prop} (hJ : AbidesFrom n0 J) {s : β} {W W' : World} (h : J s W) (hb : Below W.heap.size W W') : J s W' :=
 hJ s W W' none h (below_grown hb) (fun r e => by cases e)
theorem KeepB.cell {B : Nat} {W W' : World} (h : KeepB B W W') {b off : Nat} {v : Value} (hb : b ≠ B) (ho : ownB B W = none) (hc : W.cell? ⟨b, off, none⟩ = some v) : W'.cell? ⟨b, off, none⟩ = some v := by
 obtain ⟨o, ho', hcells⟩ := cells_of_cell hc
 exact (World.cell?_of_block ((h.same b o ho' hcells hb (by unfold baseB; rw [ho]; exact (Array.getElem?_eq_some_iff.1 ho').1)).trans ho'.symm)).trans hc
theorem one_bool {e : Ending} {A B : Prop} (h : (e = .returned (.bool true) ∧ A) ∨ (e = .returned (.bool false) ∧ B)) : ∃ bb : Bool, e = .returned (.bool bb) ∧ ((bb = true ∧ A) ∨ (bb = false ∧ B)) := by
 rcases h with ⟨h, a⟩ | ⟨h, b⟩
 ·exact ⟨true, h, .inl ⟨rfl, a⟩⟩
 ·exact ⟨false, h, .inr ⟨rfl, b⟩⟩
end Go.Abs.GenS
