/-
 Lists in blocks that were made since: results that hold no block of the arguments.
-/
import Derived.Test.YtkcaljadkfpefaaDoorAbsZ
set_option linter.unusedVariables false
set_option linter.unusedSimpArgs false
namespace Go.Abs
section
variable {pr : Program} {x : Ctx} {K : Exit → St → Prop} {st : St} {ops : Array Oper} {rest : List Oper} {dst : Option Tmp} {ty : TypeId} {pos : String} {aft : Array Edge}
theorem ccM {m : Nat} (hmx : m ≤ x.base) (ρ : List Nat) (H2 : List (Option AObj)) (d : D) {y : Operand} {l : List Operand} {tys : Array TypeId} {f : FuncId} {caps : List C} {ds args' : List D} {H0 H1 : List (Option AObj)} {r : D}
  (hc : callable pr f = true) (hy : st.val y = .one (.clo f caps)) (hl : l.map st.val = ds) (hlend : All2 (LendT st ρ false) (ds ++ caps.map D.one) args')
  (hH0 : All2 (LendO st ρ false) (ρ.map fun t => st.H.getD t none) H0) (hm : MeetsM m pr f args' H0 r H1) (k : AWops pr x ops rest K ((st.heap H2).put dst d))
  (hH2 : mergeH2 (sig ρ st.H.length) st.H ρ H1 (ρ.all (freshAt st.H)) = H2 := by first | rfl | (simp only [mS]; done) | (simp only [mS]; rfl)) (hd : renD (sig ρ st.H.length) r = d := by rfl)
  (hnd : ρ.Nodup := by decide) (hρ : ρ.all (fun t => Nat.blt t st.H.length) = true := by rfl) :
  AWops pr x ops (⟨dst, .call { callee := .value y, args := l.toArray, argTypes := tys }, ty, pos, aft, none⟩ :: rest) K st := s_call2M hc hy hl hlend hH0 hnd hρ hmx hm (.inl rfl) hH2 hd k
/-- a cell of what is new. -/
inductive FLe (m : Nat) : C → C → Prop
 | s (c : C) : FLe m c c
 | f {b : Bool} {n : Nat} {cs : List P} : FLe m (.p true (.fsl 0 n cs)) (.p b (.fsl m n cs))
theorem FLe.rel {w : World} {S : Nat → Prop} {base : Nat} {g : G} {m : Nat} (hm : m ≤ base) {v : Value} {c c' : C} (h : FLe m c c') (hv : CRel w S base g v c) : CRel w S base g v c' := by
 cases h with
 | s => exact hv
 | @f b n cs =>
  cases hv with
  | p hv =>
   cases hv with
   | fnil _ a cap => exact .p (.fnil m a cap)
   | fsl _ bb o _ cap _ us hb _ hz hn hc hr =>
    exact .p (.fsl m bb o n cap cs us ⟨hb.1, fun _ => hb.2 rfl⟩ (Nat.le_trans hm (hb.2 rfl)) hz hn hc fun j hj => (hr j hj).weak fun k hk => ⟨hk.1, fun _ => hk.2 rfl⟩)
theorem CLe.frzU {α : Type} {vf : α → Value} {f : α → List P} {H : List (Option AObj)} {ρ fz : List Nat} (hf : ∀ x, f x = [.v (vf x)]) {t n : Nat} {xs : List α} (ht : fz.contains t = true) (hl : H[t]? = some (some (.cells true (rowC f xs)))) (hn : n = xs.length) :
  CLe H ρ fz (.own t 0 n 1) (.p true (.fsl 0 xs.length (xs.flatMap f))) := by
 subst hn
 have e : ∀ ys : List α, ys.flatMap f = (ys.map vf).map P.v := by
  intro ys
  rw [List.map_map]
  induction ys with
  | nil => rfl
  | cons y ys ih => rw [List.flatMap_cons, hf, List.map_cons, ih]; rfl
 rw [e xs]
 exact .freezeU ht hl (by rw [row_all (fun x => by rw [hf]; rfl), row_plain, e xs]; simp)
/-- a slot is told as new. -/
theorem AWops.fresh {m : Nat} (hm : m ≤ x.base) {n i : Nat} {fr : Nat → D} {H : List (Option AObj)} {l : List Oper} {cs cs' : List C} (h : All2 (FLe m) cs cs')
  (k : AWops pr x ops l K ⟨n, upd n fr i (.agg cs'), H⟩) : AWops pr x ops l K ⟨n, upd n fr i (.agg cs), H⟩ := by
 intro a w S g hs
 refine k a w S g ⟨hs.size, hs.nodef, fun j => ?_, hs.ok, hs.s0, hs.wr, hs.ext, hs.par, hs.kl⟩
 have hj := hs.fr j
 show DRel w S x.base g _ (upd n fr i (.agg cs') j)
 have hj' : DRel w S x.base g (a.tmps.getD j undef) (upd n fr i (.agg cs) j) := hj
 unfold upd at hj' ⊢
 cases hc : (Nat.beq j i && Nat.blt i n) with
 | false => rw [hc] at hj'; exact hj'
 | true =>
  rw [hc] at hj'
  simp only [cond_true] at hj' ⊢
  generalize a.tmps.getD j undef = v at hj' ⊢
  cases hj' with
  | t hj' =>
   cases hj' with
   | agg vs hl hr =>
    have hlen := h.len
    exact .t (.agg vs (by omega) fun q h1 h2 => (h.get q (by omega) h1).rel hm (hr q (by omega) h2))
end
end Go.Abs
