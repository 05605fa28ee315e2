import Derived.Test.YtdpakmmkponfmaaAbsX
import Derived.Lib.Bytealg
import Derived.Laws.MakeOwn
set_option linter.unusedVariables false
set_option linter.unusedSimpArgs false
namespace Go.Abs
/-! ### functions without a body: what the model says of them -/
def ExtOK (pr : Program) (f : FuncId) (e : Array Value → Sem Value) : Prop :=
 ∃ fn, pr.funcs[f]? = some fn ∧ (fn.name == "runtime.NumGoroutine") = false ∧ fn.body.isNone = true ∧ Extern.findNext fn = none ∧ Extern.find fn = some e
section
variable {pr : Program} {x : Ctx} {K : Exit → St → Prop} {st : St} {ops : Array Oper} {rest : List Oper} {dst : Option Tmp} {ty : TypeId} {pos : String} {aft : Array Edge}
theorem s_ext2 {y z1 z2 : Operand} {tys : Array TypeId} {f : FuncId} {e : Array Value → Sem Value} {a1 a2 : Value} {f1 f2 : Bool} {n : Int} (hx : ExtOK pr f e) (hy : st.val y = .one (.clo f [])) (h1 : st.val z1 = .one (.p f1 (.v a1))) (h2 : st.val z2 = .one (.p f2 (.v a2)))
  (hr : ∀ w, (e #[a1, a2]).run pr w = .ok (.int .i64 n) w) (k : AWops pr x ops rest K (st.put dst (sc (.int .i64 n)))) :
  AWops pr x ops (⟨dst, .call { callee := .value y, args := #[z1, z2], argTypes := tys }, ty, pos, aft, none⟩ :: rest) K st :=
 AWops.pure _ (fun a w S g hs => by
  refine ⟨.int .i64 n, ?_, .sc _ rfl⟩
  have e1 := (h1 ▸ hs.val z1).of_v
  have e2 := (h2 ▸ hs.val z2).of_v
  have hyv := hy ▸ hs.val y
  have hc : a.eval y = .func (.func f) #[] #[] := by
   generalize a.eval y = q at hyv
   cases hyv with
   | t h => cases h with | one h => cases h with | clo vs hs h => cases vs with
    | nil => rfl
    | cons _ _ => cases hs
  obtain ⟨fn, hf, hname, hb, hn, he⟩ := hx
  have := run_callFunc_extern hf hname hb hn he #[a1, a2] w
  rw [hr w] at this
  simp only [execOp, resolve, hc, Deferred.ofValue, invoke, Sem.run_bind, Sem.run_pure, Result.andThen]
  simpa [e1, e2, Result.andThen] using this) k
end
def cmpS (s t : ByteArray) : Int := Lib.compareBytes s.data.toList t.data.toList
def cntS (s : ByteArray) (c : Int) : Nat := Lib.countByte s.data.toList c.toNat.toUInt8
def idxS (s : ByteArray) (c : Int) : Int := Lib.indexByte s.data.toList c.toNat.toUInt8
theorem run_cmp {pr : Program} (s t : ByteArray) (w : World) : (Extern.BytealgCompare.compare #[.string s, .string t]).run pr w = .ok (.int .i64 (cmpS s t)) w := Lib.run_compareString s t w
theorem run_cnt {pr : Program} (s : ByteArray) (c : Int) (w : World) : (Extern.BytealgCount.count #[.string s, .int .u8 c]).run pr w = .ok (.int .i64 (cntS s c : Int)) w := Lib.run_countString s c w
theorem run_idx {pr : Program} (s : ByteArray) (c : Int) (w : World) : (Extern.BytealgIndexByte.indexByte #[.string s, .int .u8 c]).run pr w = .ok (.int .i64 (idxS s c)) w := Lib.run_indexByteString s c w

/-! ### literals -/
theorem toList_loop (s : ByteArray) : ∀ (n i : Nat) (r : List UInt8), s.size - i = n → ByteArray.toList.loop s i r = r.reverse ++ s.data.toList.drop i := by
 intro n
 induction n with
 | zero =>
  intro i r h
  unfold ByteArray.toList.loop
  rw [if_neg (by omega), List.drop_eq_nil_of_le (by rw [Array.length_toList, ByteArray.size_data]; omega), List.append_nil]
 | succ n ih =>
  intro i r h
  have hi : i < s.size := by omega
  unfold ByteArray.toList.loop
  rw [if_pos hi, ih (i + 1) _ (by omega)]
  have hl : i < s.data.toList.length := by rw [Array.length_toList, ByteArray.size_data]; exact hi
  rw [List.drop_eq_getElem_cons hl, List.reverse_cons, List.append_assoc]
  congr 1
  show [s.get! i] ++ _ = _
  have : s.get! i = s.data.toList[i] := by
   show s.data[i]! = _
   rw [getElem!_pos s.data i (by rw [ByteArray.size_data]; exact hi)]
   simp
  rw [this]; rfl
theorem toList_data (s : ByteArray) : s.toList = s.data.toList := by
 show ByteArray.toList.loop s 0 [] = _
 rw [toList_loop s s.size 0 [] (by omega)]; simp
theorem lit_eq {i j : ByteArray} {b : Bool} (h : (i.data.toList == j.data.toList) = b) : binS .eql i j = some (.bool b) := by
 rw [← h, ← toList_data, ← toList_data]; rfl
theorem lit_ne {i j : ByteArray} {b : Bool} (h : (!(i.data.toList == j.data.toList)) = b) : binS .neq i j = some (.bool b) := by
 rw [← h, ← toList_data, ← toList_data]; rfl
/-! ### lists of nothing yet -/
theorem rep_flat {α β : Type} {f : α → List β} {a0 : α} {sz : Nat} (hl : (f a0).length = sz) (hs : 0 < sz) : ∀ n j, j < n * sz → ((List.replicate n a0).flatMap f)[j]? = (f a0)[j % sz]?
 | 0, j, h => by omega
 | n + 1, j, h => by
  rw [List.replicate_succ, List.flatMap_cons]
  by_cases hj : j < sz
  ·rw [List.getElem?_append_left (by omega), Nat.mod_eq_of_lt hj]
  ·rw [List.getElem?_append_right (by omega), hl, Nat.mod_eq_sub_mod (Nat.le_of_not_lt hj)]
   refine rep_flat hl hs n (j - sz) ?_
   have : (n + 1) * sz = n * sz + sz := by rw [Nat.add_mul, Nat.one_mul]
   omega
section
variable {pr : Program} {x : Ctx} {K : Exit → St → Prop} {st : St} {ops : Array Oper} {rest : List Oper} {dst : Option Tmp} {ty : TypeId} {pos : String} {aft : Array Edge}
theorem t_make {α : Type} {f : α → List P} {a0 : α} {t e : TypeId} {y z : Operand} {zv : Value} {sz bs : Nat} {kl kc : IntKind} {f1 f2 : Bool} {n : Int} (ht : pr.underlying t = some (.slice e)) (hi : infoQ pr e = some (some zv, sz, bs)) (hzs : zv.cells.size = sz) (hsz : 0 < sz)
  (hf : f a0 = zv.cells.toList.map P.v) (h1 : zv.cells.toList.all (·.oneCell') = true) (hy : st.val y = .one (.p f1 (.v (.int kl n)))) (hz : st.val z = .one (.p f2 (.v (.int kc n)))) (h0 : 0 ≤ n) (hb : (bs : Int) * n ≤ 281474976710656) (h63 : n ≤ 9223372036854775807)
  (k : AWops pr x ops rest K ((st.heap (st.H ++ [some (.cells true (rowC f (List.replicate n.toNat a0)))])).put dst (.one (.own st.H.length 0 (List.replicate n.toNat a0).length sz)))) :
  AWops pr x ops (⟨dst, .makeSlice t y z, ty, pos, aft, none⟩ :: rest) K st :=
 AWops.of_run rfl (fun a w S g hs => by
  have e1 := (hy ▸ hs.val y).of_v
  have e2 := (hz ▸ hs.val z).of_v
  obtain ⟨i, hi1, hi2, hi3, hi4⟩ := infoQ_some hi
  have hfl : (f a0).length = sz := by rw [hf, List.length_map, Array.length_toList, hzs]
  have hlen : (rowC f (List.replicate n.toNat a0)).length = n.toNat * sz := by
   unfold rowC
   rw [List.length_map, List.length_flatMap]
   simp [hfl]
  have hs' := hs.newCells (madeCells zv.cells (n.toNat * sz)) e (cs := rowC f (List.replicate n.toNat a0)) (by rw [hlen, size_madeCells]; exact Nat.le_refl _) (by
   intro j hj
   have hj' : j < n.toNat * sz := by omega
   have hm : j % sz < zv.cells.size := by rw [hzs]; exact Nat.mod_lt _ hsz
   have ec : (rowC f (List.replicate n.toNat a0))[j]? = some (mkC (P.v zv.cells[j % sz])) := by
    unfold rowC
    rw [List.getElem?_map, rep_flat hfl hsz _ _ hj', hf, List.getElem?_map]
    simp [hm]
   have ec' : (rowC f (List.replicate n.toNat a0))[j] = mkC (P.v zv.cells[j % sz]) := by
    rw [List.getElem?_eq_getElem hj] at ec
    exact Option.some.inj ec
   rw [ec']
   have ev : (madeCells zv.cells (n.toNat * sz)).getD j undef = zv.cells[j % sz] := by
    have hw : j < (madeCells zv.cells (n.toNat * sz)).size := by rw [size_madeCells]; exact hj'
    rw [Array.getD_eq_getD_getElem?, Array.getElem?_eq_getElem hw]
    simp [madeCells, hzs, hm]
    rw [getElem!_pos zv.cells _ hm]
   rw [ev]
   exact .p (.v _ (List.all_eq_true.mp h1 _ (by simp))))
  rw [List.length_replicate] at k
  refine ⟨.slice (some ⟨w.heap.size, 0, none⟩) n.toNat n.toNat, _, _, S, _, ?_, hs'.put dst (.t (.one (.own00 gnew_at (Nat.le_refl _) (by rw [size_madeCells]; omega)))), k⟩
  have := run_make (P := pr) w t e i zv ht hi1 hi2 kl kc n n h0 (Int.le_refl _) (by rw [hi4]; exact hb) h63
  rw [hi3] at this
  simp only [execOp, e1, e2, Sem.run_bind, this, Result.andThen_ok]
  rfl)
end
end Go.Abs
