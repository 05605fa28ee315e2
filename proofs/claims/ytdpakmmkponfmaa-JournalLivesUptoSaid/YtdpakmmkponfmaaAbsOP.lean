/-
 Addresses that are there or not.
-/
import Derived.Test.YtdpakmmkponfmaaAbsCU
set_option linter.unusedVariables false
set_option linter.unusedSimpArgs false
namespace Go.Abs
section
variable {pr : Program} {x : Ctx} {K : Exit → St → Prop} {st : St} {a : Act} {w : World} {S : Nat → Prop} {g : G} {ops : Array Oper} {rest : List Oper} {dst : Option Tmp} {ty : TypeId} {pos : String} {aft : Array Edge}
/-- one cell of an object told otherwise. -/
theorem Sim.recell (hs : Sim x st a w S g) {p j : Nat} {f : Bool} {ocs : List C} {c c' : C} (hp : Live st.H p (.cells f ocs)) (hj : ocs[j]? = some c) (h : ∀ v, CRel w S x.base g v c → CRel w S x.base g v c') :
  Sim x (st.heap (st.H.set p (some (.cells f (ocs.set j c'))))) a w S g := by
 refine hs.retell hp (by simp) fun i hi hi' v hv => ?_
 rw [List.getElem_set]
 by_cases hij : j = i
 ·subst hij
  rw [if_pos rfl]
  obtain ⟨hjl, hje⟩ := List.getElem?_eq_some_iff.mp hj
  rw [hje] at hv; exact h v hv
 ·rw [if_neg hij]; exact hv
theorem Weak.recell {k n p j : Nat} {fr : Nat → D} {H H' : List (Option AObj)} {f : Bool} {ocs : List C} {c c' : C} (hp : H[p]? = some (some (.cells f ocs))) (hj : ocs[j]? = some c)
  (h : ∀ (w : World) (S : Nat → Prop) (base : Nat) (g : G) v, CRel w S base g v c → CRel w S base g v c') (hH : H.set p (some (.cells f (ocs.set j c'))) = H') : Weak k ⟨n, fr, H⟩ ⟨n, fr, H'⟩ := by
 subst hH
 exact fun x a w S g _ hs => ⟨_, _, hs.recell hp hj (h _ _ _ _)⟩
/-- it is there. -/
theorem Weak.toOpt {k n p j t o : Nat} {fr : Nat → D} {H H' : List (Option AObj)} {f : Bool} {ocs : List C} (hp : H[p]? = some (some (.cells f ocs))) (hj : ocs[j]? = some (.ref t o)) (hH : H.set p (some (.cells f (ocs.set j (.opt true t o)))) = H') : Weak k ⟨n, fr, H⟩ ⟨n, fr, H'⟩ :=
 Weak.recell hp hj (fun w S base g v h => by cases h with | ref hg ho => exact .opt1 hg ho) hH
/-- it is not there: whatever is told of what it leads to. -/
theorem Weak.noOpt {k n p j t : Nat} {fr : Nat → D} {H H' : List (Option AObj)} {f f1 : Bool} {ocs : List C} (hp : H[p]? = some (some (.cells f ocs))) (hj : ocs[j]? = some (.p f1 (.v (.pointer none)))) (hH : H.set p (some (.cells f (ocs.set j (.opt false t 0)))) = H') : Weak k ⟨n, fr, H⟩ ⟨n, fr, H'⟩ :=
 Weak.recell hp hj (fun w S base g v h => by cases h with | p h => cases h; exact .opt0) hH
theorem Weak.virt {k n : Nat} {fr : Nat → D} {H : List (Option AObj)} (f : Bool) (cs : List C) : Weak k ⟨n, fr, H⟩ ⟨n, fr, H ++ [some (.cells f cs)]⟩ :=
 fun x a w S g _ hs => ⟨_, _, hs.newVirt f cs⟩
/-- known to be there. -/
theorem Weak.unOpt {k n p j t o : Nat} {b : Bool} {fr : Nat → D} {H H' : List (Option AObj)} {f : Bool} {ocs : List C} (hb : b = true) (hp : H[p]? = some (some (.cells f ocs))) (hj : ocs[j]? = some (.opt b t o)) (hH : H.set p (some (.cells f (ocs.set j (.ref t o)))) = H') : Weak k ⟨n, fr, H⟩ ⟨n, fr, H'⟩ := by
 subst hb
 exact Weak.recell hp hj (fun w S base g v h => by cases h with | opt1 hg ho => exact .ref hg ho) hH
theorem Weak.unNo {k n p j t o : Nat} {b : Bool} {fr : Nat → D} {H H' : List (Option AObj)} {f : Bool} {ocs : List C} (hb : b = false) (hp : H[p]? = some (some (.cells f ocs))) (hj : ocs[j]? = some (.opt b t o)) (hH : H.set p (some (.cells f (ocs.set j (.p true (.v (.pointer none)))))) = H') : Weak k ⟨n, fr, H⟩ ⟨n, fr, H'⟩ := by
 subst hb
 exact Weak.recell hp hj (fun w S base g v h => by cases h with | opt0 => exact .p (.v _ rfl)) hH
/-- a slot told otherwise. -/
theorem Weak.reslot {k n i : Nat} {fr : Nat → D} {H : List (Option AObj)} {c c' : C} (hi : fr i = .one c) (h : ∀ (w : World) (S : Nat → Prop) (base : Nat) (g : G) v, CRel w S base g v c → CRel w S base g v c') : Weak k ⟨n, fr, H⟩ ⟨n, upd n fr i (.one c'), H⟩ := by
 intro x a w S g _ hs
 refine ⟨S, g, hs.size, hs.nodef, fun j => ?_, hs.ok, hs.s0, hs.wr, hs.ext, hs.par, hs.kl⟩
 have hj : DRel w S x.base g (a.tmps.getD j undef) (fr j) := hs.fr j
 show DRel w S x.base g _ (upd n fr i (.one c') j)
 unfold upd
 cases hc : (Nat.beq j i && Nat.blt i n) with
 | false => exact hj
 | true =>
  have hji : j = i := by simp only [Bool.and_eq_true, Nat.beq_eq] at hc; exact hc.1
  subst hji
  rw [hi] at hj
  simp only [cond_true]
  generalize a.tmps.getD j undef = v at hj ⊢
  cases hj with | t hj => cases hj with | one hj => exact .t (.one (h _ _ _ _ _ hj))
theorem Weak.optS {k n i t o : Nat} {b : Bool} {fr : Nat → D} {H : List (Option AObj)} (hb : b = true) (hi : fr i = .one (.opt b t o)) : Weak k ⟨n, fr, H⟩ ⟨n, upd n fr i (.one (.ref t o)), H⟩ := by
 subst hb
 exact Weak.reslot hi (fun w S base g v h => by cases h with | opt1 hg ho => exact .ref hg ho)
theorem Weak.optN {k n i t o : Nat} {b : Bool} {fr : Nat → D} {H : List (Option AObj)} (hb : b = false) (hi : fr i = .one (.opt b t o)) : Weak k ⟨n, fr, H⟩ ⟨n, upd n fr i (.one (.p true (.v (.pointer none)))), H⟩ := by
 subst hb
 exact Weak.reslot hi (fun w S base g v h => by cases h with | opt0 => exact .p (.v _ rfl))
/-- such an address against nil. -/
theorem s_optEql {t t' e : TypeId} {y z : Operand} {f b : Bool} {q o : Nat} (ht : pr.underlying t = some (.pointer e)) (hz : st.val z = .one (.p f (.v (.pointer none)))) (hy : st.val y = .one (.opt b q o)) (k : AWops pr x ops rest K (st.put dst (sc (.bool (!b))))) :
  AWops pr x ops (⟨dst, .binOp .eql t y z t', ty, pos, aft, none⟩ :: rest) K st :=
 AWops.pure _ (fun a w S g hs => by
  have e2 := (hz ▸ hs.val z).of_v
  have hpt : pr.underlying t = some (.pointer (pr.pointee t)) := by simp [Program.pointee, ht]
  obtain ⟨q, e1, hq⟩ : ∃ q : Option Addr, a.eval y = .pointer q ∧ q.isNone = !b := by
   have h := hy ▸ hs.val y
   generalize a.eval y = q at h
   cases h with | t h => cases h with | one h => cases h with
    | opt1 hg ho => exact ⟨_, rfl, rfl⟩
    | opt0 => exact ⟨_, rfl, rfl⟩
  rw [← hq]
  refine ⟨_, ?_, .sc (.bool q.isNone) rfl⟩
  have h1 := run_eql_pointer_nil (P := pr) w t q hpt
  simp only [execOp, e1, e2, eqGuard, Sem.run_bind]
  simp [h1]) k
theorem s_optNeq {t t' e : TypeId} {y z : Operand} {f b : Bool} {q o : Nat} (ht : pr.underlying t = some (.pointer e)) (hz : st.val z = .one (.p f (.v (.pointer none)))) (hy : st.val y = .one (.opt b q o)) (k : AWops pr x ops rest K (st.put dst (sc (.bool b)))) :
  AWops pr x ops (⟨dst, .binOp .neq t y z t', ty, pos, aft, none⟩ :: rest) K st :=
 AWops.pure _ (fun a w S g hs => by
  have e2 := (hz ▸ hs.val z).of_v
  have hpt : pr.underlying t = some (.pointer (pr.pointee t)) := by simp [Program.pointee, ht]
  obtain ⟨q, e1, hq⟩ : ∃ q : Option Addr, a.eval y = .pointer q ∧ q.isNone = !b := by
   have h := hy ▸ hs.val y
   generalize a.eval y = q at h
   cases h with | t h => cases h with | one h => cases h with
    | opt1 hg ho => exact ⟨_, rfl, rfl⟩
    | opt0 => exact ⟨_, rfl, rfl⟩
  have hb : b = !q.isNone := by rw [hq]; simp
  rw [hb]
  refine ⟨_, ?_, .sc (.bool (!q.isNone)) rfl⟩
  have h1 := run_neq_pointer_nil (P := pr) w t q hpt
  simp only [execOp, e1, e2, eqGuard, Sem.run_bind]
  simp [h1]) k
end
end Go.Abs
