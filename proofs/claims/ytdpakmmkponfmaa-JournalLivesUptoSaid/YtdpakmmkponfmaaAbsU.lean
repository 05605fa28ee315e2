import Derived.Test.YtdpakmmkponfmaaAbsS
set_option linter.unusedVariables false
set_option linter.unusedSimpArgs false
namespace Go.Abs
section
variable {pr : Program} {x : Ctx} {K : Exit → St → Prop} {st : St} {a : Act} {w : World} {S : Nat → Prop} {g : G}
variable {ops : Array Oper} {rest : List Oper} {dst : Option Tmp} {ty : TypeId} {pos : String} {aft : Array Edge}

/-- an element of an array that nobody writes. -/
theorem s_indexPk {t e : TypeId} {y z : Operand} {n sz : Nat} {kd : IntKind} {i : Int} {f1 fr : Bool} {cs ps : List P} (ht : pr.underlying t = some (.array n e)) (hsz : szOf pr e = some sz)
  (hy : st.val y = .one (.peek fr cs)) (hz : st.val z = .one (.p f1 (.v (.int kd i)))) (h0 : 0 ≤ i) (h1 : i < n) (hp : (cs.drop (i.toNat * sz)).take sz = ps)
  (k : AWops pr x ops rest K (st.put dst (.one (.peek fr ps)))) : AWops pr x ops (⟨dst, .indexAddr t y z, ty, pos, aft, none⟩ :: rest) K st :=
 AWops.pure _ (fun a w S g hs => by
  subst hp
  have h := hy ▸ hs.val y
  have hi := (hz ▸ hs.val z).of_v
  generalize hq : a.eval y = q at h
  cases h with
  | t h =>
   cases h with
   | one h =>
    cases h with
    | peek b o _ us hb hc hr =>
     refine ⟨.pointer (some ⟨b, o + i.toNat * sz, none⟩), ?_, .t (.one (.peek b (o + i.toNat * sz) _ (fun j => us (i.toNat * sz + j)) hb ?_ ?_))⟩
     ·simp [execOp, hq, hi, Instr.indexAt, asIntOf, run_underlying ht, h0, h1, run_size hsz, add_addr, Instr.sureAddr]
     ·intro j hj
      simp at hj
      rw [show o + i.toNat * sz + j = o + (i.toNat * sz + j) by omega]
      exact hc _ (by omega)
     ·intro j hj
      simp at hj
      have := hr (i.toNat * sz + j) (by omega)
      simpa using this) k

theorem s_max2 {t t' : TypeId} {y z : Operand} {k : IntKind} {f f' : Bool} {p q r : Int} (hy : st.val y = .one (.p f (.v (.int k p)))) (hz : st.val z = .one (.p f' (.v (.int k q)))) (hr : (if q > p then q else p) = r)
  (kk : AWops pr x ops rest K (st.put dst (sc (.int k r)))) : AWops pr x ops (⟨dst, .call { callee := .builtin .max, args := #[y, z], argTypes := #[t, t'] }, ty, pos, aft, none⟩ :: rest) K st :=
 AWops.pure _ (fun a w S g hs => by
  refine ⟨.int k r, ?_, .sc _ rfl⟩
  have e1 := (hy ▸ hs.val y).of_v
  have e2 := (hz ▸ hs.val z).of_v
  subst hr
  simp [execOp, resolve, invoke, builtin, e1, e2, run_max_int2]) kk

theorem row_u8 (xs : List Int) : rowC e_u8 xs = xs.map fun v => mkC (.v (.int .u8 v)) := by
 unfold rowC
 induction xs with
 | nil => rfl
 | cons z zs ih => rw [List.flatMap_cons, List.map_append, ih]; rfl
theorem row_piece (xs : List Int) (l n : Nat) : ((rowC e_u8 xs).drop (0 + l * 1)).take (n * 1) = rowC e_u8 ((xs.drop l).take n) := by
 rw [row_u8, row_u8, Nat.mul_one, Nat.mul_one, Nat.zero_add, ← List.map_drop, ← List.map_take]
/-- a text of a piece of a row. -/
theorem t_toStrO {src d e : TypeId} {y : Operand} {t l n : Nat} {fr : Bool} {xs : List Int} (hsrc : pr.underlying src = some (.slice e)) (he : pr.underlying e = some (.int .u8)) (hd : pr.underlying d = some .string)
  (hy : st.val y = .one (.own t (0 + l * 1) n 1)) (hH : st.H[t]? = some (some (.cells fr (rowC e_u8 xs)))) (hn : l + n ≤ xs.length)
  (k : AWops pr x ops rest K (st.put dst (sc (.string (ofNums ((xs.drop l).take n)))))) :
  AWops pr x ops (⟨dst, .convert src d y, ty, pos, aft, none⟩ :: rest) K st := by
 refine s_toStr (n := n) (cs := rowC e_u8 ((xs.drop l).take n)) hsrc he hd ?_ (fun f s h => by rw [hy] at h; cases h) (u8_nums _) k
 rw [hy]
 exact .own hH (row_piece xs l n) (by rw [row_len e_u8_len]; simp; omega) (row_noTop _)
end
end Go.Abs
