import Derived.Test.YtdpakmmkponfmaaAbsU
import Derived.Laws.StructEq
set_option linter.unusedVariables false
set_option linter.unusedSimpArgs false
namespace Go.Abs

def scKind : TypeDesc → Bool
 | .int _ => true
 | .bool => true
 | .string => true
 | _ => false
def flatF (pr : Program) (f : Field) : Option (Nat × TypeDesc) :=
 if f.name = "_" then none else
 match aggOf pr f.type, pr.underlying f.type with
 | some false, some d => if scKind d then some (f.offset, d) else none
 | _, _ => none
def flatL (pr : Program) : List Field → Option (List (Nat × TypeDesc))
 | [] => some []
 | f :: fs => match flatF pr f, flatL pr fs with
  | some x, some l => some (x :: l)
  | _, _ => none
/-- the fields of a struct of scalars. -/
def flatFs (pr : Program) (t : TypeId) : Option (List (Nat × TypeDesc)) :=
 match pr.underlying t with
 | some (.struct fs) => if pr.stoodInHeld t || pr.eqGuardType pr.depth t then none else flatL pr fs.toList
 | _ => none
/-- two of them compared. -/
def eqC : TypeDesc → C → C → Option Bool
 | .int _, .p _ (.v (.int k1 a)), .p _ (.v (.int k2 b)) => if k1 = k2 then some (a == b) else none
 | .bool, .p _ (.v (.bool a)), .p _ (.v (.bool b)) => some (a == b)
 | .string, .p _ (.v (.string a)), .p _ (.v (.string b)) => some (a.toList == b.toList)
 | _, _, _ => none
def eqL : List (Nat × TypeDesc) → List C → List C → Option Bool
 | [], _, _ => some true
 | (o, d) :: l, cs, ds => match cs[o]?, ds[o]?, eqL l cs ds with
  | some c, some c', some q => match eqC d c c' with
   | some b => some (b && q)
   | none => none
  | _, _, _ => none

section
variable {pr : Program} {x : Ctx} {K : Exit → St → Prop} {st : St} {a : Act} {w : World} {S : Nat → Prop} {g : G} {base : Nat}
theorem eqC_run {d : Nat} {t : TypeId} {td : TypeDesc} {c c' : C} {u v : Value} {b : Bool} (ht : pr.underlying t = some td) (hu : CRel w S base g u c) (hv : CRel w S base g v c') (h : eqC td c c' = some b) :
  (Op.equalIn (d + 1) t u v).run pr w = .ok b w := by
 unfold eqC at h
 split at h
 ·split at h
  ·rename_i hk
   subst hk
   cases h
   cases hu with | p hu => cases hu with | v _ _ => cases hv with | p hv => cases hv with | v _ _ => exact run_equalIn_int w d t _ _ _ _ ht
  ·cases h
 ·cases h
  cases hu with | p hu => cases hu with | v _ _ => cases hv with | p hv => cases hv with | v _ _ => exact run_equalIn_bool' w d t _ _ ht
 ·cases h
  cases hu with | p hu => cases hu with | v _ _ => cases hv with | p hv => cases hv with | v _ _ => exact run_equalIn_string w d t _ _ ht
 ·cases h

theorem eqL_run {d : Nat} {xs ys : List Value} {cs ds : List C} (hx : ∀ i (h : i < cs.length) (h' : i < xs.length), CRel w S base g (xs[i]'h') (cs[i]'h)) (hxl : xs.length = cs.length) (hy : ∀ i (h : i < ds.length) (h' : i < ys.length), CRel w S base g (ys[i]'h') (ds[i]'h)) (hyl : ys.length = ds.length) :
  ∀ (fs : List Field) (l : List (Nat × TypeDesc)) (b : Bool), flatL pr fs = some l → eqL l cs ds = some b → (Op.eqFields (d + 1) xs.toArray ys.toArray fs).run pr w = .ok b w := by
 intro fs
 induction fs with
 | nil =>
  intro l b hl hb
  simp only [flatL, Option.some.injEq] at hl
  subst hl
  simp only [eqL, Option.some.injEq] at hb
  subst hb
  rfl
 | cons f fs ih =>
  intro l b hl hb
  simp only [flatL] at hl
  split at hl
  ·rename_i y l' hf hl'
   cases hl
   obtain ⟨o, td⟩ := y
   unfold flatF at hf
   split at hf
   ·cases hf
   ·rename_i hname
    split at hf
    ·rename_i d' hag hund
     split at hf
     ·cases hf
      simp only [eqL] at hb
      split at hb
      ·rename_i c c' q hc hc' hq
       split at hb
       ·rename_i b' hb'
        cases hb
        obtain ⟨h1, rfl⟩ := List.getElem?_eq_some_iff.mp hc
        obtain ⟨h2, rfl⟩ := List.getElem?_eq_some_iff.mp hc'
        have r1 := hx _ h1 (by omega)
        have r2 := hy _ h2 (by omega)
        have e1 := eqC_run (d := d) hund r1 r2 hb'
        have e2 := ih l' q hl' hq
        simp only [Op.eqFields]
        rw [if_pos hname]
        have p1 : (part f.type xs.toArray f.offset).run pr w = .ok (xs[f.offset]'(by omega)) w := by simp [part, run_agg hag, show f.offset < xs.length by omega]
        have p2 : (part f.type ys.toArray f.offset).run pr w = .ok (ys[f.offset]'(by omega)) w := by simp [part, run_agg hag, show f.offset < ys.length by omega]
        simp only [Sem.run_bind, p1, p2, e1, Result.andThen_ok]
        cases b' with
        | true => simpa using e2
        | false => simp
       ·cases hb
      ·cases hb
     ·cases hf
    ·cases hf
  ·cases hl

variable {ops : Array Oper} {rest : List Oper} {dst : Option Tmp} {ty : TypeId} {pos : String} {aft : Array Edge}
/-- two structs of scalars. -/
theorem s_binA {op : BinOp} {t t' : TypeId} {y z : Operand} {cs ds : List C} {l : List (Nat × TypeDesc)} {b : Bool} (hf : flatFs pr t = some l) (hy : st.val y = .agg cs) (hz : st.val z = .agg ds) (hb : eqL l cs ds = some b) (hop : op = .eql ∨ op = .neq)
  (k : AWops pr x ops rest K (st.put dst (sc (.bool (if op = .eql then b else !b))))) : AWops pr x ops (⟨dst, .binOp op t y z t', ty, pos, aft, none⟩ :: rest) K st :=
 AWops.pure _ (fun a w S g hs => by
  have h1 := hy ▸ hs.val y
  have h2 := hz ▸ hs.val z
  generalize hq : a.eval y = q at h1
  generalize hr : a.eval z = r at h2
  cases h1 with
  | t h1 =>
   cases h1 with
   | agg xs hxl hx =>
    cases h2 with
    | t h2 =>
     cases h2 with
     | agg ys hyl hy2 =>
      unfold flatFs at hf
      split at hf
      ·rename_i fs hu
       split at hf
       ·cases hf
       ·rename_i hc
        simp only [Bool.or_eq_true, not_or, Bool.not_eq_true] at hc
        have hfo : pr.fieldsOf t = fs := by simp [Program.fieldsOf, hu]
        have he := eqL_run (d := 9998) hx hxl hy2 hyl fs.toList l b hf hb
        have hrun : (Op.equalIn 10000 t (.agg xs.toArray) (.agg ys.toArray)).run pr w = .ok b w := by
         rw [show (10000 : Nat) = 9999 + 1 from rfl, run_equalIn_agg w 9999 t _ _ (by rw [hfo]; exact hu) hc.1, hfo]
         exact he
        refine ⟨_, ?_, .sc (.bool (if op = .eql then b else !b)) rfl⟩
        rcases hop with rfl | rfl
        ·have e1 := run_eqGuard_agg (P := pr) w .eql t y z xs.toArray ys.toArray hc.2
         have e2 := run_eql_struct (P := pr) w t xs.toArray ys.toArray
         rw [hrun] at e2
         simp only [execOp, hq, hr, Sem.run_bind, e1, Result.andThen_ok, e2]
         simp
        ·have e1 := run_eqGuard_agg (P := pr) w .neq t y z xs.toArray ys.toArray hc.2
         have e2 := run_neq_struct (P := pr) w t xs.toArray ys.toArray
         rw [hrun] at e2
         simp only [execOp, hq, hr, Sem.run_bind, e1, Result.andThen_ok, e2]
         simp
      ·cases hf) k
end
end Go.Abs
