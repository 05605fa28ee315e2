import Derived.Test.YtdpakmmkponfmaaAbsA
import Derived.WalkKit
set_option linter.unusedVariables false
set_option linter.unusedSimpArgs false
namespace Go.Abs

/-- a scalar. -/
abbrev sc (v : Value) : D := .one (.p true (.v v))

def upd (n : Nat) (fr : Nat → D) (d : Nat) (v : D) (i : Nat) : D := bif Nat.beq i d && Nat.blt d n then v else fr i

def St.put (st : St) (dst : Option Nat) (v : D) : St :=
 match dst with
 | some d => { st with fr := upd st.n st.fr d v }
 | none => st

def St.heap (st : St) (H : List (Option AObj)) : St := { st with H := H }

def St.val (st : St) : Operand → D
 | .tmp t => st.fr t
 | .const (.agg xs) => if xs.toList.all (fun v => v.oneCell') = true then .agg (xs.toList.map fun v => .p true (.v v)) else .one .top
 | .const v => if v.oneCell' = true then sc v else .one .top
 | .global b => match GL b with | some ps => .one (.peek false ps) | none => .one .top
 | .func f => .one (.clo f [])

theorem DRel.top {w : World} {S : Nat → Prop} {base : Nat} {g : G} (x : Value) : DRel w S base g x (.one .top) := .t (.one (.top x))
theorem DRel.sc {w : World} {S : Nat → Prop} {base : Nat} {g : G} (x : Value) (h : x.oneCell' = true) : DRel w S base g x (sc x) := .t (.one (.p (.v x h)))

theorem DRel.of_v {w : World} {S : Nat → Prop} {base : Nat} {g : G} {x y : Value} {fr : Bool} (h : DRel w S base g x (.one (.p fr (.v y)))) : x = y := by
 cases h with
 | t h => cases h with | one h => cases h with | p h => cases h; rfl

section
variable {pr : Program} {x : Ctx} {K : Exit → St → Prop} {st : St} {a : Act} {w : World} {S : Nat → Prop} {g : G}

theorem getD_set (l : Array Value) (d i : Nat) (v : Value) : (l.setIfInBounds d v).getD i undef = if i = d ∧ d < l.size then v else l.getD i undef := by
 simp only [Array.getD_eq_getD_getElem?, Array.getElem?_setIfInBounds]
 by_cases h : d = i
 ·subst h
  by_cases hd : d < l.size
  ·simp [hd]
  ·simp [hd, Array.getElem?_eq_none (Nat.le_of_not_lt hd)]
 ·have : ¬ i = d := fun e => h e.symm
  simp [h, this]

theorem Sim.put (hs : Sim x st a w S g) (dst : Option Nat) {v : Value} {d : D} (hv : DRel w S x.base g v d) : Sim x (st.put dst d) (a.put dst v) w S g := by
 cases dst with
 | none => exact hs
 | some t =>
  refine ⟨by simp [Act.put, St.put, hs.size], hs.nodef, fun i => ?_, hs.ok, hs.s0, hs.wr, hs.ext, hs.par, hs.kl⟩
  show DRel w S x.base g ((a.tmps.setIfInBounds t v).getD i undef) (upd st.n st.fr t d i)
  rw [getD_set, hs.size, upd]
  by_cases h : i = t ∧ t < st.n
  ·rw [if_pos h]
   have h1 : Nat.beq i t = true := by simpa [Nat.beq_eq] using h.1
   have h2 : Nat.blt t st.n = true := by simpa [Nat.blt_eq] using h.2
   rw [h1, h2]; exact hv
  ·rw [if_neg h]
   have : (Nat.beq i t && Nat.blt t st.n) = false := by
    cases h1 : Nat.beq i t
    ·rfl
    ·cases h2 : Nat.blt t st.n
     ·rfl
     ·exact absurd ⟨by simpa [Nat.beq_eq] using h1, by simpa [Nat.blt_eq] using h2⟩ h
   rw [this]; exact hs.fr i

theorem Sim.val (hs : Sim x st a w S g) (o : Operand) : DRel w S x.base g (a.eval o) (st.val o) := by
 cases o with
 | tmp t => exact hs.fr t
 | const v =>
  have other : ∀ v : Value, DRel w S x.base g v (if v.oneCell' = true then sc v else .one .top) := by
   intro v
   split
   ·exact .sc v (by assumption)
   ·exact .top _
  cases v with
  | agg xs =>
   show DRel w S x.base g (.agg xs) (if xs.toList.all (fun v => v.oneCell') = true then .agg (xs.toList.map fun v => .p true (.v v)) else .one .top)
   split
   ·rename_i h
    rw [List.all_eq_true] at h
    have key : DRel w S x.base g (.agg xs.toList.toArray) (.agg (xs.toList.map fun v => .p true (.v v))) := by
     refine .t (.agg xs.toList (by simp) fun i h1 h2 => ?_)
     rw [List.getElem_map]
     exact .p (.v _ (h _ (List.getElem_mem h2)))
    simpa using key
   ·exact .top _
  | _ => exact other _
 | global b =>
  show DRel w S x.base g (.pointer (some ⟨b, 0, none⟩)) (match GL b with | some ps => .one (.peek false ps) | none => .one .top)
  cases hb : GL b with
  | none => exact .top _
  | some ps =>
   obtain ⟨h1, h2⟩ := hs.ok.glob b ps hb
   refine .t (.one (.peek b 0 ps (fun j => (w.cell? ⟨b, j, none⟩).getD undef) ⟨h1, fun h => by cases h⟩ ?_ ?_))
   ·intro j hj
    obtain ⟨u, h3, _⟩ := h2 j _ (List.getElem?_eq_getElem hj)
    rw [Nat.zero_add, h3]; rfl
   ·intro j hj
    obtain ⟨u, h3, h4⟩ := h2 j _ (List.getElem?_eq_getElem hj)
    rw [h3]; exact h4.weak fun b hb => ⟨hb, fun h => by cases h⟩
 | func f => exact .t (.one (.clo [] rfl (fun i h => absurd h (by simp))))

/-- whatever the operation does, told by its run. -/
theorem AWops.of_run {ops : Array Oper} {rest : List Oper} {o : Oper} (hg : o.guard = none)
  (h : ∀ a w S g, Sim x st a w S g → ∃ v w' st1 S' g', (execOp a.eval o).run pr w = .ok (.value v) w' ∧ Sim x st1 (a.put o.dst v) w' S' g' ∧
   AWops pr x ops rest K st1) : AWops pr x ops (o :: rest) K st := by
 intro a w S g hs
 refine wpList_plain hg fun K' hK => ?_
 obtain ⟨v, w', st1, S', g', hr, hs', hrest⟩ := h a w S g hs
 simp only [Oper.wp, hr, Oper.upon_value]
 exact hK _ _ (hrest _ _ _ _ hs')

theorem AWops.of_skip {ops : Array Oper} {rest : List Oper} {o : Oper} (hg : o.guard = none)
  (h : ∀ a w S g, Sim x st a w S g → ∃ w' st1 S' g', (execOp a.eval o).run pr w = .ok .skip w' ∧ Sim x st1 (a.put o.dst undef) w' S' g' ∧
   AWops pr x ops rest K st1) : AWops pr x ops (o :: rest) K st := by
 intro a w S g hs
 refine wpList_plain hg fun K' hK => ?_
 obtain ⟨w', st1, S', g', hr, hs', hrest⟩ := h a w S g hs
 simp only [Oper.wp, hr, Oper.upon_skip]
 exact hK _ _ (hrest _ _ _ _ hs')

/-- an operation that turns nothing. -/
theorem AWops.pure {ops : Array Oper} {rest : List Oper} {dst : Option Tmp} {op : Op} {ty : TypeId} {pos : String} {aft : Array Edge} (d : D)
  (h : ∀ a w S g, Sim x st a w S g → ∃ v, (execOp a.eval ⟨dst, op, ty, pos, aft, none⟩).run pr w = .ok (.value v) w ∧ DRel w S x.base g v d)
  (k : AWops pr x ops rest K (st.put dst d)) : AWops pr x ops (⟨dst, op, ty, pos, aft, none⟩ :: rest) K st :=
 AWops.of_run rfl fun a w S g hs => let ⟨v, hr, hd⟩ := h a w S g hs; ⟨v, w, _, S, g, hr, hs.put dst hd, k⟩

/-- the guard says yes, no. -/
theorem AWops.guard_yes {ops : Array Oper} {rest : List Oper} {dst : Option Tmp} {op : Op} {ty : TypeId} {pos : String} {aft : Array Edge} {j d : Nat} {want b fr : Bool}
  (hj : (ops[j]?).bind (·.dst) = some d) (hd : d < st.n) (hv : st.fr d = .one (.p fr (.v (.bool b)))) (hb : b = want)
  (h : AWops pr x ops (⟨dst, op, ty, pos, aft, none⟩ :: rest) K st) : AWops pr x ops (⟨dst, op, ty, pos, aft, some (j, want)⟩ :: rest) K st := by
 intro a w S g hs
 have h1 := h a w S g hs
 have hx : a.tmps.getD d undef = .bool b := (hv ▸ hs.fr d).of_v
 have hy : a.tmps[d]? = some (.bool b) := by
  rw [Array.getD_eq_getD_getElem?, Array.getElem?_eq_getElem (by rw [hs.size]; exact hd)] at hx
  rw [Array.getElem?_eq_getElem (by rw [hs.size]; exact hd)]; simpa using hx
 have hw : Region.wanted ⟨dst, op, ty, pos, aft, some (j, want)⟩ (yielded ops a.tmps) = true := by simp [Region.wanted, yielded, hj, hy, hb]
 unfold wpList at h1 ⊢
 rw [if_pos hw]
 rw [if_pos (by simp [Region.wanted])] at h1
 exact h1

theorem AWops.guard_no {ops : Array Oper} {rest : List Oper} {dst : Option Tmp} {op : Op} {ty : TypeId} {pos : String} {aft : Array Edge} {j d : Nat} {want b fr : Bool}
  (hj : (ops[j]?).bind (·.dst) = some d) (hd : d < st.n) (hv : st.fr d = .one (.p fr (.v (.bool b)))) (hb : b = !want)
  (h : AWops pr x ops rest K (st.put dst (.tup []))) : AWops pr x ops (⟨dst, op, ty, pos, aft, some (j, want)⟩ :: rest) K st := by
 intro a w S g hs
 have hx : a.tmps.getD d undef = .bool b := (hv ▸ hs.fr d).of_v
 have hy : a.tmps[d]? = some (.bool b) := by
  rw [Array.getD_eq_getD_getElem?, Array.getElem?_eq_getElem (by rw [hs.size]; exact hd)] at hx
  rw [Array.getElem?_eq_getElem (by rw [hs.size]; exact hd)]; simpa using hx
 have hw : Region.wanted ⟨dst, op, ty, pos, aft, some (j, want)⟩ (yielded ops a.tmps) = false := by
  simp only [Region.wanted, yielded, hj, hy, Option.bind_some]; rw [hb]; cases want <;> rfl
 unfold wpList
 rw [if_neg (by rw [hw]; decide)]
 exact h _ _ _ _ (hs.put dst (.tup [] rfl (fun i h => by cases h)))

/-- a guard over what was passed by. -/
theorem AWops.guard_undef {ops : Array Oper} {rest : List Oper} {dst : Option Tmp} {op : Op} {ty : TypeId} {pos : String} {aft : Array Edge} {j d : Nat} {want : Bool}
  (hj : (ops[j]?).bind (·.dst) = some d) (hv : st.fr d = .tup [])
  (h : AWops pr x ops rest K (st.put dst (.tup []))) : AWops pr x ops (⟨dst, op, ty, pos, aft, some (j, want)⟩ :: rest) K st := by
 intro a w S g hs
 have hx : a.tmps.getD d undef = .tuple #[] := by
  have h1 := hv ▸ hs.fr d
  generalize a.tmps.getD d undef = q at h1 ⊢
  cases h1 with
  | t h => cases h
  | tup vs hl h =>
   have : vs = [] := List.eq_nil_of_length_eq_zero (by simpa using hl)
   subst this; rfl
 have hw : Region.wanted ⟨dst, op, ty, pos, aft, some (j, want)⟩ (yielded ops a.tmps) = false := by
  simp only [Region.wanted, yielded, hj, Option.bind_some]
  rw [Array.getD_eq_getD_getElem?] at hx
  cases ht : a.tmps[d]? with
  | none => rfl
  | some v =>
   rw [ht] at hx
   have : v = .tuple #[] := hx
   subst this; rfl
 unfold wpList
 rw [if_neg (by rw [hw]; decide)]
 exact h _ _ _ _ (hs.put dst (.tup [] rfl (fun i h => by cases h)))

theorem AW.cond {c : Operand} {y z : Code} {b fr : Bool} (hv : st.val c = .one (.p fr (.v (.bool b)))) (ht : b = true → AW pr x y K st) (hf : b = false → AW pr x z K st) :
  AW pr x (.cond c y z) K st := by
 intro a w S g hs
 refine wp_cond_split ((hv ▸ hs.val c).of_v) (fun h => ht h a w S g hs) (fun h => hf h a w S g hs)

theorem AW.cond_yes {c : Operand} {y z : Code} {b fr : Bool} (hv : st.val c = .one (.p fr (.v (.bool b)))) (hb : b = true) (h : AW pr x y K st) :
  AW pr x (.cond c y z) K st := AW.cond hv (fun _ => h) (fun h => by rw [hb] at h; cases h)
theorem AW.cond_no {c : Operand} {y z : Code} {b fr : Bool} (hv : st.val c = .one (.p fr (.v (.bool b)))) (hb : b = false) (h : AW pr x z K st) :
  AW pr x (.cond c y z) K st := AW.cond hv (fun h => by rw [hb] at h; cases h) (fun _ => h)

variable {ops : Array Oper} {rest : List Oper} {dst : Option Tmp} {ty : TypeId} {pos : String} {aft : Array Edge}

theorem s_move {y : Operand} {d : D} (hy : st.val y = d) (k : AWops pr x ops rest K (st.put dst d)) :
  AWops pr x ops (⟨dst, .move y, ty, pos, aft, none⟩ :: rest) K st :=
 AWops.pure d (fun a w S g hs => ⟨a.eval y, by simp [execOp], hy ▸ hs.val y⟩) k

theorem s_assign {y : Operand} {d : D} (hy : st.val y = d) (k : AWops pr x ops rest K (st.put dst d)) :
  AWops pr x ops (⟨dst, .assign y, ty, pos, aft, none⟩ :: rest) K st :=
 AWops.pure d (fun a w S g hs => ⟨a.eval y, by simp [execOp], hy ▸ hs.val y⟩) k

theorem s_pick_yes {c y z : Operand} {d : D} {b fr : Bool} (hc : st.val c = .one (.p fr (.v (.bool b)))) (hb : b = true) (hy : st.val y = d) (k : AWops pr x ops rest K (st.put dst d)) :
  AWops pr x ops (⟨dst, .pick c y z, ty, pos, aft, none⟩ :: rest) K st :=
 AWops.pure d (fun a w S g hs => ⟨a.eval y, by have := (hc ▸ hs.val c).of_v; simp [execOp, this, asBool, hb], hy ▸ hs.val y⟩) k

theorem s_pick_no {c y z : Operand} {d : D} {b fr : Bool} (hc : st.val c = .one (.p fr (.v (.bool b)))) (hb : b = false) (hz : st.val z = d) (k : AWops pr x ops rest K (st.put dst d)) :
  AWops pr x ops (⟨dst, .pick c y z, ty, pos, aft, none⟩ :: rest) K st :=
 AWops.pure d (fun a w S g hs => ⟨a.eval z, by have := (hc ▸ hs.val c).of_v; simp [execOp, this, asBool, hb], hz ▸ hs.val z⟩) k

/-- numbers. -/
def binI (op : BinOp) (k : IntKind) (a b : Int) : Option Value :=
 match op with
 | .add => some (.int k (k.wrap (a + b)))
 | .sub => some (.int k (k.wrap (a - b)))
 | .mul => some (.int k (k.wrap (a * b)))
 | .quo => if b = 0 then none else some (.int k (k.wrap (a.tdiv b)))
 | .rem => if b = 0 then none else some (.int k (a.tmod b))
 | .and => some (.int k (bits .and k a b))
 | .or => some (.int k (bits .or k a b))
 | .xor => some (.int k (bits .xor k a b))
 | .andNot => some (.int k (bits .andNot k a b))
 | .eql => some (.bool (a == b))
 | .neq => some (.bool (a != b))
 | .lss => some (.bool (decide (a < b)))
 | .leq => some (.bool (decide (a ≤ b)))
 | .gtr => some (.bool (decide (a > b)))
 | .geq => some (.bool (decide (a ≥ b)))
 | _ => none

theorem binI_one {op : BinOp} {k : IntKind} {a b : Int} {v : Value} (h : binI op k a b = some v) : v.oneCell' = true := by
 cases op <;> simp only [binI] at h <;> first | (cases h; done) | (cases h; rfl) | (split at h <;> first | (cases h; done) | (cases h; rfl))

theorem run_binI {op : BinOp} {k : IntKind} {a b : Int} {v : Value} (h : binI op k a b = some v) (t : TypeId) (o1 o2 : Operand) (w : World) :
  (do eqGuard op t o1 o2 (.int k a) (.int k b); binOp op t (.int k a) (.int k b) : Sem Value).run pr w = .ok v w := by
 cases op <;> simp only [binI] at h <;> try (cases h; done)
 all_goals first
  | (obtain rfl := Option.some.inj h; simp [eqGuard, binOp, Op.intArith, Op.intBits, Op.intCmp, bits]; done)
  | ((split at h <;> rename_i hb) <;> first | (cases h; done) | (obtain rfl := Option.some.inj h; simp [eqGuard, binOp, Op.intDiv, hb]))

theorem s_binI {op : BinOp} {t t' : TypeId} {y z : Operand} {k : IntKind} {i j : Int} {f1 f2 : Bool} {v : Value}
  (hy : st.val y = .one (.p f1 (.v (.int k i)))) (hz : st.val z = .one (.p f2 (.v (.int k j)))) (hv : binI op k i j = some v) (kk : AWops pr x ops rest K (st.put dst (sc v))) :
  AWops pr x ops (⟨dst, .binOp op t y z t', ty, pos, aft, none⟩ :: rest) K st :=
 AWops.pure _ (fun a w S g hs => ⟨v, by
  have e1 := (hy ▸ hs.val y).of_v
  have e2 := (hz ▸ hs.val z).of_v
  have := run_binI (pr := pr) hv t y z w
  simp only [execOp, e1, e2]
  simp only [Sem.run_bind] at this ⊢
  rw [this]; rfl, .sc v (binI_one hv)⟩) kk

def shiftI (op : BinOp) (k : IntKind) (a b : Int) : Option Value :=
 if b < 0 then none else
 match op with
 | .shl => some (.int k (k.wrap (a * 2 ^ (min b.toNat k.bits))))
 | .shr => some (.int k (a.fdiv (2 ^ (min b.toNat k.bits))))
 | _ => none

theorem s_shift {op : BinOp} {t t' : TypeId} {y z : Operand} {k k' : IntKind} {i j : Int} {f1 f2 : Bool} {v : Value}
  (hy : st.val y = .one (.p f1 (.v (.int k i)))) (hz : st.val z = .one (.p f2 (.v (.int k' j)))) (hv : shiftI op k i j = some v) (kk : AWops pr x ops rest K (st.put dst (sc v))) :
  AWops pr x ops (⟨dst, .binOp op t y z t', ty, pos, aft, none⟩ :: rest) K st :=
 AWops.pure _ (fun a w S g hs => ⟨v, by
  have e1 := (hy ▸ hs.val y).of_v
  have e2 := (hz ▸ hs.val z).of_v
  unfold shiftI at hv
  split at hv
  ·cases hv
  ·rename_i hb
   cases op <;> simp only at hv <;> try (cases hv; done)
   all_goals obtain rfl := Option.some.inj hv
   all_goals simp [execOp, e1, e2, eqGuard, binOp, Op.shift, hb], .sc v (by
    unfold shiftI at hv
    split at hv
    ·cases hv
    ·cases op <;> simp only at hv <;> first | (cases hv; done) | (cases hv; rfl))⟩) kk

def binS (op : BinOp) (a b : ByteArray) : Option Value :=
 match op with
 | .add => if ((a.size + b.size : Nat) : Int) > 9223372036854775807 then none else some (.string (a ++ b))
 | .eql => some (.bool (a.toList == b.toList))
 | .neq => some (.bool (!(a.toList == b.toList)))
 | .lss => some (.bool (Op.bytesLess a.toList b.toList))
 | .leq => some (.bool (Op.bytesLess a.toList b.toList || a.toList == b.toList))
 | .gtr => some (.bool (!(Op.bytesLess a.toList b.toList || a.toList == b.toList)))
 | .geq => some (.bool (!(Op.bytesLess a.toList b.toList)))
 | _ => none

theorem s_binS {op : BinOp} {t t' : TypeId} {y z : Operand} {i j : ByteArray} {f1 f2 : Bool} {v : Value}
  (hy : st.val y = .one (.p f1 (.v (.string i)))) (hz : st.val z = .one (.p f2 (.v (.string j)))) (hv : binS op i j = some v) (kk : AWops pr x ops rest K (st.put dst (sc v))) :
  AWops pr x ops (⟨dst, .binOp op t y z t', ty, pos, aft, none⟩ :: rest) K st :=
 AWops.pure _ (fun a w S g hs => ⟨v, by
  have e1 := (hy ▸ hs.val y).of_v
  have e2 := (hz ▸ hs.val z).of_v
  have hm : IntKind.i64.max = 9223372036854775807 := by decide
  cases op <;> simp only [binS] at hv <;> try (cases hv; done)
  case add =>
   split at hv
   ·cases hv
   ·rename_i hb; obtain rfl := Option.some.inj hv
    have hb' : ¬ (IntKind.i64.max < ((i.size + j.size : Nat) : Int)) := by rw [hm]; exact hb
    simp only [execOp, e1, e2, eqGuard, binOp, Op.stringOp, Sem.run_bind]
    simp [hb', hm, hb]
    omega
  all_goals
   obtain rfl := Option.some.inj hv
   simp [execOp, e1, e2, eqGuard, binOp, Op.stringOp], .sc v (by cases op <;> simp only [binS] at hv <;> first | (cases hv; done) | (cases hv; rfl) | (split at hv <;> first | (cases hv; done) | (cases hv; rfl)))⟩) kk

/-- two truths. -/
theorem s_binB {op : BinOp} {t t' : TypeId} {y z : Operand} {i j b : Bool} {f1 f2 : Bool} (ht : pr.underlying t = some .bool)
  (hy : st.val y = .one (.p f1 (.v (.bool i)))) (hz : st.val z = .one (.p f2 (.v (.bool j)))) (hv : (op = .eql ∧ b = (i == j)) ∨ (op = .neq ∧ b = !(i == j)))
  (kk : AWops pr x ops rest K (st.put dst (sc (.bool b)))) : AWops pr x ops (⟨dst, .binOp op t y z t', ty, pos, aft, none⟩ :: rest) K st :=
 AWops.pure _ (fun a w S g hs => ⟨.bool b, by
  have e1 := (hy ▸ hs.val y).of_v
  have e2 := (hz ▸ hs.val z).of_v
  rcases hv with ⟨rfl, rfl⟩ | ⟨rfl, rfl⟩
  ·have := run_eql_bool (P := pr) w t i j ht
   simp only [execOp, e1, e2, eqGuard, Sem.run_bind, this]; simp [this]
  ·have := run_neq_bool (P := pr) w t i j ht
   simp only [execOp, e1, e2, eqGuard, Sem.run_bind, this]; simp [this], .sc _ rfl⟩) kk

def unI (op : UnOp) (k : IntKind) (a : Int) : Option Value :=
 match op with
 | .neg => some (.int k (k.wrap (0 - a)))
 | .xor => some (.int k (bits .xor k (if k.signed then -1 else k.max) a))
 | _ => none

theorem s_unI {op : UnOp} {t : TypeId} {y : Operand} {k : IntKind} {i : Int} {f1 : Bool} {v : Value}
  (hy : st.val y = .one (.p f1 (.v (.int k i)))) (hv : unI op k i = some v) (kk : AWops pr x ops rest K (st.put dst (sc v))) :
  AWops pr x ops (⟨dst, .unOp op t y, ty, pos, aft, none⟩ :: rest) K st :=
 AWops.pure _ (fun a w S g hs => ⟨v, by
  have e1 := (hy ▸ hs.val y).of_v
  cases op <;> simp only [unI] at hv <;> try (cases hv; done)
  all_goals
   obtain rfl := Option.some.inj hv
   simp [execOp, e1, Op.unary, Op.intArith, Op.intBits, bits], .sc v (by cases op <;> simp only [unI] at hv <;> first | (cases hv; done) | (cases hv; rfl))⟩) kk

theorem s_not {t : TypeId} {y : Operand} {i : Bool} {f1 : Bool} (hy : st.val y = .one (.p f1 (.v (.bool i)))) (kk : AWops pr x ops rest K (st.put dst (sc (.bool (!i))))) :
  AWops pr x ops (⟨dst, .unOp .not t y, ty, pos, aft, none⟩ :: rest) K st :=
 AWops.pure _ (fun a w S g hs => ⟨_, by
  have e1 := (hy ▸ hs.val y).of_v
  simp [execOp, e1, Op.unary], .sc _ rfl⟩) kk

theorem s_convI {src d : TypeId} {ds : TypeDesc} {y : Operand} {k k' : IntKind} {i : Int} {f1 : Bool} (hsrc : pr.underlying src = some ds) (hd : pr.underlying d = some (.int k'))
  (hy : st.val y = .one (.p f1 (.v (.int k i)))) (kk : AWops pr x ops rest K (st.put dst (sc (.int k' (k'.wrap i))))) :
  AWops pr x ops (⟨dst, .convert src d y, ty, pos, aft, none⟩ :: rest) K st :=
 AWops.pure _ (fun a w S g hs => ⟨.int k' (k'.wrap i), by
  have e1 := (hy ▸ hs.val y).of_v
  simp [execOp, e1, convert, run_underlying hsrc, run_underlying hd, Conv.intToInt], .sc _ rfl⟩) kk

theorem s_convS {src d : TypeId} {ds : TypeDesc} {y : Operand} {i : ByteArray} {f1 : Bool} (hsrc : pr.underlying src = some ds) (hd : pr.underlying d = some .string)
  (hy : st.val y = .one (.p f1 (.v (.string i)))) (kk : AWops pr x ops rest K (st.put dst (sc (.string i)))) :
  AWops pr x ops (⟨dst, .convert src d y, ty, pos, aft, none⟩ :: rest) K st :=
 AWops.pure _ (fun a w S g hs => ⟨.string i, by
  have e1 := (hy ▸ hs.val y).of_v
  simp [execOp, e1, convert, run_underlying hsrc, run_underlying hd], .sc _ rfl⟩) kk

/-- a part of a result of several. -/
theorem s_extract {y : Operand} {i : Nat} {ds : List D} {d : D} (hy : st.val y = .tup ds) (hi : ds[i]? = some d) (kk : AWops pr x ops rest K (st.put dst d)) :
  AWops pr x ops (⟨dst, .extract y i, ty, pos, aft, none⟩ :: rest) K st :=
 AWops.pure d (fun a w S g hs => by
  have h := hy ▸ hs.val y
  obtain ⟨hl, hd⟩ := List.getElem?_eq_some_iff.mp hi
  generalize hv : a.eval y = v at h
  cases h with
  | t h => cases h
  | tup vs hs' h =>
   have h2 : i < vs.length := by rw [hs']; exact hl
   refine ⟨vs[i], ?_, .t (hd ▸ h i hl h2)⟩
   simp [execOp, hv, Instr.extract, h2]) kk

theorem list_rel {st : St} {a : Act} {w : World} {S : Nat → Prop} {g : G} {base : Nat} (hv : ∀ o, DRel w S base g (a.eval o) (st.val o)) {l : List Operand} {ds : List D}
  (h : l.map st.val = ds) : ∀ i (h : i < ds.length) (h' : i < (l.map a.eval).length), DRel w S base g ((l.map a.eval)[i]'h') (ds[i]'h) := by
 subst h
 intro i h h'
 simp only [List.getElem_map]
 exact hv _

theorem s_func {fn : FuncId} {l : List Operand} {cs : List C} (hc : l.map st.val = cs.map D.one) (kk : AWops pr x ops rest K (st.put dst (.one (.clo fn cs)))) :
  AWops pr x ops (⟨dst, .makeFunc (.func fn) #[] l.toArray, ty, pos, aft, none⟩ :: rest) K st :=
 AWops.pure _ (fun a w S g hs => by
  refine ⟨.func (.func fn) #[] (l.map a.eval).toArray, by simp [execOp, Instr.makeFunc], .t (.one ?_)⟩
  have hl : l.length = cs.length := by simpa using congrArg List.length hc
  refine .clo _ (by simp [hl]) fun i h h' => ?_
  have h2 := list_rel (fun o => hs.val o) hc i (by simpa using h) h'
  simp only [List.getElem_map] at h2 ⊢
  generalize a.eval l[i] = q at h2 ⊢
  cases h2 with
  | t h2 => cases h2 with | one h2 => exact h2) kk
end
end Go.Abs
