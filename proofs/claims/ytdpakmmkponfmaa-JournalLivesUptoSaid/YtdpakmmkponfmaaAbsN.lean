import Derived.Test.YtdpakmmkponfmaaAbsL
set_option linter.unusedVariables false
set_option linter.unusedSimpArgs false
namespace Go.Abs
section
variable {pr : Program} {x : Ctx} {K : Exit → St → Prop} {st : St} {a : Act} {w : World} {S : Nat → Prop} {g : G}
variable {ops : Array Oper} {rest : List Oper} {dst : Option Tmp} {ty : TypeId} {pos : String} {aft : Array Edge}

/-- so many rounds at the most, each told by itself. -/
def U (pr : Program) (x : Ctx) (c : Code) (K : Exit → St → Prop) : Nat → St → Prop
 | 0, _ => False
 | n + 1, st => AW pr x c (thenK (U pr x c K n) K) st
theorem U.step {c : Code} {n : Nat} (h : AW pr x c (thenK (U pr x c K n) K) st) : U pr x c K (n + 1) st := h
theorem AW.unroll {c : Code} (n : Nat) (h : U pr x c K n st) : AW pr x (.loop c) K st := by
 refine AW.loop (fun k st => U pr x c K k st) (k := n) h ?_
 intro k st hk
 cases k with
 | zero => exact hk.elim
 | succ k =>
  refine AW.mono hk ?_
  intro e s hs
  cases e with
  | normal => exact ⟨k, Nat.lt_succ_self _, hs⟩
  | _ => exact hs

theorem s_min2 {t t' : TypeId} {y z : Operand} {k : IntKind} {f f' : Bool} {p q r : Int} (hy : st.val y = .one (.p f (.v (.int k p)))) (hz : st.val z = .one (.p f' (.v (.int k q)))) (hr : (if q < p then q else p) = r)
  (kk : AWops pr x ops rest K (st.put dst (sc (.int k r)))) : AWops pr x ops (⟨dst, .call { callee := .builtin .min, args := #[y, z], argTypes := #[t, t'] }, ty, pos, aft, none⟩ :: rest) K st :=
 AWops.pure _ (fun a w S g hs => by
  refine ⟨.int k r, ?_, .sc _ rfl⟩
  have e1 := (hy ▸ hs.val y).of_v
  have e2 := (hz ▸ hs.val z).of_v
  subst hr
  simp [execOp, resolve, invoke, builtin, e1, e2, run_min_int2]) kk
end
end Go.Abs
