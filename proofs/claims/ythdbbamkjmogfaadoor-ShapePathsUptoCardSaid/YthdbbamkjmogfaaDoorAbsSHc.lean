import Derived.Test.YthdbbamkjmogfaaDoorAbsSHi
import Derived.Test.YthdbbamkjmogfaaDoorAbsSHj
set_option linter.unusedVariables false
set_option linter.unusedSimpArgs false
set_option maxRecDepth 100000
set_option maxHeartbeats 4000000
namespace Go.Abs.GenS
open Go Go.Abs Go.Proofs Go.RowKit Go.Shelf
attribute [local go_sem] Oper.semAt_some
theorem pieces_calls (doc : ByteArray) (w : World) : Calls Tryd.prog 27 #[.string doc] w fun e w' => e = .returned (.func (.func 36) #[] #[.pointer (some ⟨w.heap.size, 0, none⟩)]) ∧ w' = w.alloc (.cells #[.string doc] 9) := by
 refine (callsIn_wide (n := 0)).1 ?_
 refine callsIn_of_wp Tryd.func27 rfl trivial ?_ rfl
 simp only [Tryd.ntmps27, List.size_toArray, List.length_cons, List.length_nil, Nat.reduceAdd, Nat.reduceSub, Array.replicate_succ, Array.replicate_zero, List.push_toArray, List.append_toArray, List.nil_append, List.cons_append]
 gi_wp2
 go_ret
 exact ⟨rfl, rfl⟩
theorem it_stops (n : Nat) (hn : 1 ≤ n) (Bd B : Nat) (doc : ByteArray) (hd : doc.size ≤ 1048576) (w : World) (hB : B < w.heap.size) (hBd : Bd < w.heap.size) (hown : ownB B w = none) (hc : w.cell? ⟨Bd, 0, none⟩ = some (.string doc)) :
  SeqStopsK Fence.wide n Tryd.prog 36 #[.pointer (some ⟨Bd, 0, none⟩)] encs (KeepB B) (fun ys => ys = piecesS doc) (fun pre => pre <+: piecesS doc) (piecesS doc).length w := fun l J Jx W hW hJ hJx hY h0 =>
 it_in n hn l Bd B doc hd J Jx W (Nat.lt_of_lt_of_le hB hW.size) ((ownB_of (hW.block B hB)).trans hown) hJ hY ((hW.cell (p := ⟨Bd, 0, none⟩) hBd).trans hc) h0
/-! ### what the callers keep -/
theorem block_own (B : Nat) (o : Obj) (ho : o.isCells = true) : Own (fun (_ : Unit) W => W.heap[B]? = some o) := by
 intro s W W' row h hg hr
 refine (hg.block B (Array.getElem?_eq_some_iff.1 h).1 fun e => ?_).trans h
 obtain ⟨o', h', hc⟩ := hr B e.symm
 rw [h] at h'; cases h'; rw [ho] at hc; cases hc
theorem size_own (n : Nat) : Own (fun (_ : Unit) W => n ≤ W.heap.size) := fun s W W' row h hg hr => Nat.le_trans h hg.size
theorem boxed_own (B : Nat) (t : TypeId) (v : Value) : Own (fun (_ : Unit) W => Boxed W B t v) := block_own B _ rfl
theorem owns_base {W : World} {base base' : Nat} {e : TypeId} {size : Nat} {v : Value} {k : Nat} {xs : List Value} (h : W.ownsRow base e size v k xs) (hb : ∀ g, v.ownBlock = some g → base' ≤ g) : W.ownsRow base' e size v k xs := by
 refine ⟨h.1, ?_⟩
 rcases h.2 with hn | ⟨g, cap, cur, rfl, hbg, rest⟩
 ·exact .inl hn
 ·exact .inr ⟨g, cap, cur, rfl, hb g rfl, rest⟩
theorem ownB_box {W : World} {B : Nat} {t : TypeId} {v : Value} (h : Boxed W B t v) : ownB B W = v.ownBlock := by
 unfold ownB; rw [h.cell]; rfl
/-- the row, from where the rounds may turn on. -/
theorem owns_at {W : World} {B n₀ : Nat} {t e : TypeId} {size : Nat} {v : Value} {k : Nat} {xs : List Value} (hv : Boxed W B t v) (h : W.ownsRow n₀ e size v k xs) : W.ownsRow (baseB B W) e size v k xs :=
 owns_base h fun g hg => by unfold baseB; rw [ownB_box hv, hg]; exact Nat.le_refl _
theorem base_le {W : World} {B n₀ : Nat} {t e : TypeId} {size : Nat} {v : Value} {k : Nat} {xs : List Value} (hv : Boxed W B t v) (h : W.ownsRow n₀ e size v k xs) (hn : n₀ ≤ W.heap.size) : n₀ ≤ baseB B W ∧ baseB B W ≤ W.heap.size := by
 unfold baseB
 rw [ownB_box hv]
 cases hg : v.ownBlock with
 | none => exact ⟨hn, Nat.le_refl _⟩
 | some g =>
  have := h.lt g hg
  exact ⟨this.1, Nat.le_of_lt this.2⟩
/-- what an append to the box's row leaves. -/
structure Appended (W W' : World) (n₀ B : Nat) (t e : TypeId) (size m : Nat) (v' : Value) (ys : List Value) : Prop where
 box : Boxed W' B t v'
 row : W'.ownsRow n₀ e size v' m ys
 keep : KeepB B W W'
 from_ : KeepsOthers W W'
 below : Below B W W'
 same : ∀ k, k < n₀ → k ≠ B → W'.heap[k]? = W.heap[k]?
theorem appended {W w1 : World} {n₀ B : Nat} {t e : TypeId} {size : Nat} {v v' : Value} {k m : Nat} {xs ys : List Value} {tmp : Obj}
  (hv : Boxed W B t v) (hte : t ≠ e) (hrow : W.ownsRow n₀ e size v k xs) (hB : B < n₀) (hn₀ : n₀ ≤ W.heap.size) (hm : m ≠ 0)
  (hown' : w1.ownsRow (baseB B W) e size v' m ys) (hgrow : (W.alloc tmp).grownBy w1 v.ownBlock) :
  Appended W (w1.setCell ⟨B, 0, none⟩ v') n₀ B t e size m v' ys := by
 obtain ⟨hb1, hb2⟩ := base_le hv hrow hn₀
 have hown0 : w1.ownsRow n₀ e size v' m ys := owns_base hown' fun g hg => Nat.le_trans hb1 (hown'.lt g hg).1
 obtain ⟨g1, g2, g3, g4, g5⟩ := Boxed.appended (n₀ := B) hv hte (owns_base hrow fun g hg => by have := (hrow.lt g hg).1; omega) (by have := hv.lt; omega) (Nat.le_refl _) (owns_base hown' fun g hg => by have := (hown'.lt g hg).1; omega) hgrow
 have hblk : ∀ k, k < W.heap.size → k ≠ B → v.ownBlock ≠ some k → (w1.setCell ⟨B, 0, none⟩ v').heap[k]? = W.heap[k]? := fun j hj hjB hjo =>
  (Below.heap_setCell w1 ⟨B, 0, none⟩ v' j hjB).trans ((hgrow.block j (by simp; omega) (fun e => hjo e.symm)).trans (Below.heap_alloc W tmp j hj))
 refine ⟨g2, owns_base g3 fun g hg => (hown0.lt g hg).1, ⟨g4.size, fun j o hj _ hjB hlt => ?_, ?_⟩, g4, g5, fun j hj hjB => hblk j (by omega) hjB ?_⟩
 ·refine (hblk j (Array.getElem?_eq_some_iff.1 hj).1 hjB fun e' => ?_).trans hj
  have : baseB B W = j := by unfold baseB; rw [ownB_box hv, e']; rfl
  omega
 ·rw [ownB_box g2]
  rcases hown'.2 with ⟨_, h0⟩ | ⟨g, cap, cur, rfl, hbg, _⟩
  ·exact absurd h0 hm
  ·exact .inr ⟨g, rfl, hbg⟩
 ·intro e'
  have := (hrow.lt j e').1
  omega
end Go.Abs.GenS
