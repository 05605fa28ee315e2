import Derived.Test.YtdpakmmkponfmaaAbsY
import Derived.MapKept
import Derived.Laws.Cover3
set_option linter.unusedVariables false
set_option linter.unusedSimpArgs false
namespace Go.Abs
open MapKept

/-! ### maps by texts -/
def mapE {V : Type} (b : Bool) (f : V → List P) (m : List (ByteArray × V)) : List (Value × Bool × List P) := m.map fun e => (.string e.1, b, f e.2)
abbrev om_ {V : Type} (f : V → List P) (x : List (ByteArray × V)) : Option AObj := some (AObj.map false (mapE true f x))
def mget {V : Type} (k : ByteArray) : List (ByteArray × V) → Option V
 | [] => none
 | e :: m => if (k.toList == e.1.toList) = true then some e.2 else mget k m
def mset {V : Type} (k : ByteArray) (x : V) : List (ByteArray × V) → List (ByteArray × V)
 | [] => [(k, x)]
 | e :: m => if (k.toList == e.1.toList) = true then (k, x) :: m else e :: mset k x m
def mdel {V : Type} (k : ByteArray) : List (ByteArray × V) → List (ByteArray × V)
 | [] => []
 | e :: m => if (k.toList == e.1.toList) = true then m else e :: mdel k m
theorem toList_iff (s t : ByteArray) : (s.toList == t.toList) = true ↔ s = t := by
 rw [toList_data, toList_data]
 constructor
 ·intro h
  obtain ⟨⟨x⟩⟩ := s
  obtain ⟨⟨y⟩⟩ := t
  have : x = y := by simpa using h
  rw [this]
 ·intro h; rw [h]; simp
theorem find_m {V : Type} (k : ByteArray) : ∀ (es : List MapEntry) (m : List (ByteArray × V)) (i : Nat), es.map (·.key) = m.map (fun e => Value.string e.1) →
  (Instr.findNow .string (.string k) es i = some none ∧ mget k m = none ∧ (∀ x, mset k x m = m ++ [(k, x)]) ∧ mdel k m = m ∧ ∀ x ∈ es, x.key ≠ .string k) ∨
  ∃ j e v, Instr.findNow .string (.string k) es i = some (some (i + j, e.val)) ∧ es[j]? = some e ∧ e.key = .string k ∧ m[j]? = some (k, v) ∧ mget k m = some v ∧ (∀ x, mset k x m = m.set j (k, x)) ∧ mdel k m = m.eraseIdx j
 | [], [], i, _ => .inl ⟨rfl, rfl, fun _ => rfl, rfl, by simp⟩
 | [], _ :: _, _, h => by cases h
 | _ :: _, [], _, h => by cases h
 | e :: es, y :: m, i, h => by
  rw [List.map_cons, List.map_cons, List.cons.injEq] at h
  obtain ⟨h1, h2⟩ := h
  by_cases hk : k = y.1
  ·have hs : Instr.sameNow .string (.string k) e.key = some true := by
    rw [h1]; show some (k == y.1) = some true
    rw [(bytes_beq _ _).mpr hk]
   have ht : (k.toList == y.1.toList) = true := (toList_iff _ _).mpr hk
   refine .inr ⟨0, e, y.2, by simp [Instr.findNow, hs], rfl, by rw [h1, hk], by rw [hk]; rfl, by simp only [mget, ht, if_true], fun x => by simp only [mset, ht, if_true]; rfl, by simp only [mdel, ht, if_true]; rfl⟩
  ·have hb : (k == y.1) = false := by
    cases hb : (k == y.1) with
    | false => rfl
    | true => exact absurd ((bytes_beq _ _).mp hb) hk
   have hs : Instr.sameNow .string (.string k) e.key = some false := by
    rw [h1]; show some (k == y.1) = some false
    rw [hb]
   have ht : ¬ (k.toList == y.1.toList) = true := fun q => hk ((toList_iff _ _).mp q)
   rcases find_m k es m (i + 1) h2 with ⟨a1, a2, a3, a4, a5⟩ | ⟨j, e', v, a1, a2, a3, a4, a5, a6, a7⟩
   ·refine .inl ⟨by simp [Instr.findNow, hs, a1], by rw [mget, if_neg ht, a2], fun x => by rw [mset, if_neg ht, a3]; rfl, by rw [mdel, if_neg ht, a4], fun x hx => ?_⟩
    rcases List.mem_cons.mp hx with rfl | hx
    ·rw [h1]; intro q; exact hk (Value.string.inj q).symm
    ·exact a5 x hx
   ·exact .inr ⟨j + 1, e', v, by simp [Instr.findNow, hs, a1]; omega, by simpa using a2, a3, by simpa using a4, by rw [mget, if_neg ht, a5], fun x => by rw [mset, if_neg ht, a6]; rfl, by rw [mdel, if_neg ht, a7]; rfl⟩

/-- what an entry holds, as data. -/
def dV (b : Bool) (cs : List P) : D := if b then .agg (cs.map mkC) else match cs with | [p] => .one (mkC p) | _ => .tup []
def VRel (w : World) (S : Nat → Prop) (base : Nat) (b : Bool) (v : Value) (cs : List P) : Prop :=
 ∃ vs : List Value, (v = if b then .agg vs.toArray else vs.getD 0 undef) ∧ (b = false → vs.length = 1) ∧ vs.length = cs.length ∧
  ∀ i (h : i < cs.length) (h' : i < vs.length), PRel w (Sub S base false) (vs[i]'h') (cs[i]'h)
theorem mkC_rel {w : World} {S : Nat → Prop} {base : Nat} {g : G} {v : Value} {p : P} (h : PRel w (Sub S base false) v p) : CRel w S base g v (mkC p) := CRel.norm (.p (fr := false) h)
theorem mkC_inv {w : World} {S : Nat → Prop} {base : Nat} {g : G} {v : Value} {p : P} (h : CRel w S base g v (mkC p)) : PRel w (Sub S base false) v p := by
 cases p with
 | v x => cases h with | p h => cases h with | v _ h1 => exact .v _ h1
 | sl n cs => cases h with | p h => exact h
 | fsl m n cs => cases h with | p h => exact h
 | fptr m p => cases h with | p h => exact h
theorem VRel.toT {w : World} {S : Nat → Prop} {base : Nat} {g : G} {b : Bool} {v : Value} {cs : List P} (h : VRel w S base b v cs) : TRel w S base g v (dV b cs) := by
 obtain ⟨vs, h1, h2, h3, h4⟩ := h
 subst h1
 cases b with
 | true =>
  refine .agg vs (by simpa using h3) fun i hi hi' => ?_
  rw [List.getElem_map]
  exact mkC_rel (h4 i (by simpa using hi) hi')
 | false =>
  have hl := h2 rfl
  match vs, cs, hl, h3, h4 with
  | [x], [p], _, _, h4 => exact .one (mkC_rel (h4 0 (by simp) (by simp)))
theorem VRel.ofD {w : World} {S : Nat → Prop} {base : Nat} {g : G} {b : Bool} {v : Value} {cs : List P} (hb : b = false → cs.length = 1) (h : DRel w S base g v (dV b cs)) : VRel w S base b v cs := by
 cases b with
 | true =>
  cases h with
  | t h => cases h with
   | agg vs hs h => exact ⟨vs, rfl, fun h => (by cases h), by simpa using hs, fun i hi hi' => mkC_inv (by have := h i (by simpa using hi) hi'; rwa [List.getElem_map] at this)⟩
 | false =>
  match cs, hb rfl with
  | [p], _ =>
   cases h with
   | t h => cases h with
    | one h => exact ⟨[v], rfl, fun _ => rfl, rfl, fun i hi hi' => by
      have : i = 0 := by simp at hi; omega
      subst this; exact mkC_inv h⟩
inductive ZRel : Value → P → Prop
 | v (x : Value) (h : x.oneCell' = true) : ZRel x (.v x)
 | n : ZRel (.slice none 0 0) (.sl 0 [])
theorem vrel_zero {w : World} {S : Nat → Prop} {base : Nat} {b : Bool} {v : Value} {vs : List Value} {cs : List P} (hv : v = if b then .agg vs.toArray else vs.getD 0 undef) (h1 : b = false → vs.length = 1) (h : All2 ZRel vs cs) : VRel w S base b v cs := by
 refine ⟨vs, hv, h1, h.len, fun i hi hi' => ?_⟩
 have := h.get i hi' hi
 generalize vs[i] = x at this
 generalize cs[i] = c at this
 cases this with
 | v _ h => exact .v _ h
 | n => exact .nil _ _

section
variable {pr : Program} {x : Ctx} {K : Exit → St → Prop} {st : St} {a : Act} {w : World} {S : Nat → Prop} {g : G} {ops : Array Oper} {rest : List Oper} {dst : Option Tmp} {ty : TypeId} {pos : String} {aft : Array Edge}

/-- a map that is live. -/
theorem Sim.mapAt (hs : Sim x st a w S g) {t : Nat} {fr : Bool} {es : List (Value × Bool × List P)} (hl : Live st.H t (.map fr es)) :
  ∃ b arr clock, g t = some (some (b, 0)) ∧ (fr = true → Exact arr clock) ∧ w.heap[b]? = some (.map arr clock) ∧ (arr.size = es.length ∧ Stamped arr clock) ∧
   ∀ i (h : i < es.length) (h' : i < arr.size), ERel w S x.base false (arr[i]'h') (es[i]'h) := hs.ok.obj t _ hl

/-- a new map. -/
theorem Sim.newMap {fr : Bool} (hs : Sim x st a w S g) :
  Sim x (st.heap (st.H ++ [some (.map fr [])])) a { w with heap := w.heap.push (.map #[] 0) } S (gnew g st.H.length (some (w.heap.size, 0))) := by
 have hgo := gnew_old (H := st.H) hs.ok.dom (v := some (w.heap.size, 0))
 have hS : ∀ b, S b → S b ∧ (w.heap.push (.map #[] 0))[b]? = w.heap[b]? := fun b hb => ⟨hb, push_old (hs.ok.st b hb)⟩
 have hgn : ∀ t o b N, Live st.H t o → gnew g st.H.length (some (w.heap.size, 0)) t = some (some (b, N)) → g t = some (some (b, N)) := by
  intro t o b N hl h
  unfold gnew at h
  rw [if_neg (by have := hl.lt; omega)] at h; exact h
 refine hs.change hS hgo ⟨?_, ?_, ?_, ?_, ?_, ?_, hs.ok.glob.mono hS⟩ hs.s0 ?_ (hs.ext.push _) (fun t ht => gnew_lt ht) (by simp)
 ·intro t o hlive
  rcases live_snoc hlive with h | ⟨rfl, rfl⟩
  ·refine (hs.ok.obj t o h).mono hS hgo fun b N hb => push_old (hs.ok.lt t o b N h hb)
  ·exact ⟨w.heap.size, #[], 0, by simp [gnew], fun _ => ⟨rfl, fun i h => absurd h (Nat.not_lt_zero i)⟩, by simp, ⟨rfl, stamped_empty 0⟩, fun i h => (by cases h)⟩
 ·intro t t' o o' b N N' h h' hb hb'
  rcases live_snoc h with h | ⟨rfl, rfl⟩ <;> rcases live_snoc h' with h' | ⟨rfl, rfl⟩
  ·exact hs.ok.inj t t' o o' b N N' h h' (hgn _ _ _ _ h hb) (hgn _ _ _ _ h' hb')
  ·simp [gnew] at hb'; have := hs.ok.lt t o b N h (hgn _ _ _ _ h hb); omega
  ·simp [gnew] at hb; have := hs.ok.lt t' o' b N' h' (hgn _ _ _ _ h' hb'); omega
  ·rfl
 ·intro b hb; have := hs.ok.st b hb; simp; omega
 ·intro b t o N hb hlive hgb
  rcases live_snoc hlive with h | ⟨rfl, rfl⟩
  ·exact hs.ok.dis b t o N hb h (hgn _ _ _ _ h hgb)
  ·simp [gnew] at hgb; have := hs.ok.st b hb; omega
 ·intro t ht
  simp at ht
  unfold gnew
  rw [if_neg (by omega)]; exact hs.ok.dom t (by omega)
 ·intro t o b N hlive hgb
  rcases live_snoc hlive with h | ⟨rfl, rfl⟩
  ·have := hs.ok.lt t o b N h (hgn _ _ _ _ h hgb); simp; omega
  ·simp [gnew] at hgb; simp; omega
 ·intro t o b N hlive hgb
  rcases live_snoc hlive with h | ⟨rfl, rfl⟩
  ·exact hs.wr t o b N h (hgn _ _ _ _ h hgb)
  ·simp [gnew] at hgb; have := hs.ext.size; omega

/-- a new map with entries that others have. -/
theorem Sim.newMapE (hs : Sim x st a w S g) {arr : Array MapEntry} {clock : Nat} {es : List (Value × Bool × List P)} (hsz : arr.size = es.length) (hst : Stamped arr clock) (he : ∀ i (h : i < es.length) (h' : i < arr.size), ERel w S x.base false (arr[i]'h') (es[i]'h)) :
  Sim x (st.heap (st.H ++ [some (.map false es)])) a { w with heap := w.heap.push (.map arr clock) } S (gnew g st.H.length (some (w.heap.size, 0))) := by
 have hgo := gnew_old (H := st.H) hs.ok.dom (v := some (w.heap.size, 0))
 have hS : ∀ b, S b → S b ∧ (w.heap.push (.map arr clock))[b]? = w.heap[b]? := fun b hb => ⟨hb, push_old (hs.ok.st b hb)⟩
 have hgn : ∀ t o b N, Live st.H t o → gnew g st.H.length (some (w.heap.size, 0)) t = some (some (b, N)) → g t = some (some (b, N)) := by
  intro t o b N hl h
  unfold gnew at h
  rw [if_neg (by have := hl.lt; omega)] at h; exact h
 refine hs.change hS hgo ⟨?_, ?_, ?_, ?_, ?_, ?_, hs.ok.glob.mono hS⟩ hs.s0 ?_ (hs.ext.push _) (fun t ht => gnew_lt ht) (by simp)
 ·intro t o hlive
  rcases live_snoc hlive with h | ⟨rfl, rfl⟩
  ·refine (hs.ok.obj t o h).mono hS hgo fun b N hb => push_old (hs.ok.lt t o b N h hb)
  ·exact ⟨w.heap.size, arr, clock, by simp [gnew], fun h => (by cases h), by simp, ⟨hsz, hst⟩, fun i h h' => (he i h h').mono hS⟩
 ·intro t t' o o' b N N' h h' hb hb'
  rcases live_snoc h with h | ⟨rfl, rfl⟩ <;> rcases live_snoc h' with h' | ⟨rfl, rfl⟩
  ·exact hs.ok.inj t t' o o' b N N' h h' (hgn _ _ _ _ h hb) (hgn _ _ _ _ h' hb')
  ·simp [gnew] at hb'; have := hs.ok.lt t o b N h (hgn _ _ _ _ h hb); omega
  ·simp [gnew] at hb; have := hs.ok.lt t' o' b N' h' (hgn _ _ _ _ h' hb'); omega
  ·rfl
 ·intro b hb; have := hs.ok.st b hb; simp; omega
 ·intro b t o N hb hlive hgb
  rcases live_snoc hlive with h | ⟨rfl, rfl⟩
  ·exact hs.ok.dis b t o N hb h (hgn _ _ _ _ h hgb)
  ·simp [gnew] at hgb; have := hs.ok.st b hb; omega
 ·intro t ht
  simp at ht
  unfold gnew
  rw [if_neg (by omega)]; exact hs.ok.dom t (by omega)
 ·intro t o b N hlive hgb
  rcases live_snoc hlive with h | ⟨rfl, rfl⟩
  ·have := hs.ok.lt t o b N h (hgn _ _ _ _ h hgb); simp; omega
  ·simp [gnew] at hgb; simp; omega
 ·intro t o b N hlive hgb
  rcases live_snoc hlive with h | ⟨rfl, rfl⟩
  ·exact hs.wr t o b N h (hgn _ _ _ _ h hgb)
  ·simp [gnew] at hgb; have := hs.ext.size; omega

/-- the entries of a live map are written anew. -/
theorem Sim.writeMapX (hs : Sim x st a w S g) {t b : Nat} {fr : Bool} {es es' : List (Value × Bool × List P)} {arr : Array MapEntry} {clock : Nat} (hl : Live st.H t (.map fr es)) (hg : g t = some (some (b, 0))) (hb : w.heap[b]? = some (.map arr clock))
  (arr' : Array MapEntry) (clock' : Nat) (hsz : arr'.size = es'.length) (hst : Stamped arr' clock') (hex : fr = true → Exact arr' clock') (hc : ∀ i (h : i < es'.length) (h' : i < arr'.size), ERel w S x.base false (arr'[i]'h') (es'[i]'h)) :
  Sim x (st.heap (st.H.set t (some (.map fr es')))) a { w with heap := w.heap.setIfInBounds b (.map arr' clock') } S g := by
 obtain ⟨b0, arr0, clock0, k1, hfr, k3, _, _⟩ := hs.mapAt hl
 rw [hg] at k1
 cases k1
 obtain ⟨hb', ho⟩ := heap_set (o' := .map arr' clock') hb
 have hS : ∀ k, S k → S k ∧ (w.heap.setIfInBounds b (.map arr' clock'))[k]? = w.heap[k]? := fun k hk => ⟨hk, ho k fun e => hs.ok.dis b t _ 0 (e ▸ hk) hl hg⟩
 have hsize : (w.heap.setIfInBounds b (.map arr' clock')).size = w.heap.size := by simp
 refine hs.change hS (fun _ _ h => h) ⟨?_, ?_, fun k hk => by rw [hsize]; exact hs.ok.st k hk, ?_, ?_, ?_, hs.ok.glob.mono hS⟩ hs.s0 ?_ ?_ (fun _ _ => rfl) (by simp)
 ·intro u o hu
  rcases live_set hl hu with ⟨rfl, rfl⟩ | ⟨hne, hu⟩
  ·exact ⟨b, arr', clock', hg, hex, hb', ⟨hsz, hst⟩, fun j hj hj' => (hc j hj hj').mono hS⟩
  ·exact (hs.ok.obj u o hu).mono hS (fun _ _ h => h) fun k M hk => ho k fun e => hne (hs.ok.inj u t o _ b M 0 hu hl (e ▸ hk) hg)
 ·intro u u' o o' k M M' hu hu' hk hk'
  have h1 : ∃ q, Live st.H u q := by rcases live_set hl hu with ⟨rfl, _⟩ | ⟨_, h⟩ <;> exact ⟨_, by assumption⟩
  have h2 : ∃ q, Live st.H u' q := by rcases live_set hl hu' with ⟨rfl, _⟩ | ⟨_, h⟩ <;> exact ⟨_, by assumption⟩
  obtain ⟨q, h1⟩ := h1
  obtain ⟨q', h2⟩ := h2
  exact hs.ok.inj u u' q q' k M M' h1 h2 hk hk'
 ·intro k u o M hk hu hgu
  rcases live_set hl hu with ⟨rfl, _⟩ | ⟨_, hu⟩
  ·exact hs.ok.dis k _ _ M hk hl hgu
  ·exact hs.ok.dis k u o M hk hu hgu
 ·intro u hu; rw [List.length_set] at hu; exact hs.ok.dom u hu
 ·intro u o k M hu hgu
  show k < (w.heap.setIfInBounds b (.map arr' clock')).size
  rw [hsize]
  rcases live_set hl hu with ⟨rfl, _⟩ | ⟨_, hu⟩
  ·exact hs.ok.lt _ _ k M hl hgu
  ·exact hs.ok.lt u o k M hu hgu
 ·intro u o k M hu hgu
  rcases live_set hl hu with ⟨rfl, _⟩ | ⟨_, hu⟩
  ·exact hs.wr _ _ k M hl hgu
  ·exact hs.wr u o k M hu hgu
 ·refine ⟨hs.ext.tape, hs.ext.os, hs.ext.output, by show x.base ≤ (w.heap.setIfInBounds b (.map arr' clock')).size; rw [hsize]; exact hs.ext.size, fun k hk hw => ?_⟩
  show (w.heap.setIfInBounds b (.map arr' clock'))[k]? = _
  rw [ho k]
  ·exact hs.ext.frame k hk hw
  ·rintro rfl
   rcases hs.wr t _ k 0 hl hg with h | h
   ·omega
   ·exact hw h
theorem Sim.writeMap (hs : Sim x st a w S g) {t b : Nat} {es es' : List (Value × Bool × List P)} {arr : Array MapEntry} {clock : Nat} (hl : Live st.H t (.map false es)) (hg : g t = some (some (b, 0))) (hb : w.heap[b]? = some (.map arr clock))
  (arr' : Array MapEntry) (clock' : Nat) (hsz : arr'.size = es'.length) (hst : Stamped arr' clock') (hc : ∀ i (h : i < es'.length) (h' : i < arr'.size), ERel w S x.base false (arr'[i]'h') (es'[i]'h)) :
  Sim x (st.heap (st.H.set t (some (.map false es')))) a { w with heap := w.heap.setIfInBounds b (.map arr' clock') } S g := hs.writeMapX hl hg hb arr' clock' hsz hst (fun h => by cases h) hc

theorem t_makeMap {t : TypeId} (k : AWops pr x ops rest K ((st.heap (st.H ++ [some (.map false [])])).put dst (.one (.mp st.H.length)))) :
  AWops pr x ops (⟨dst, .makeMap t none, ty, pos, aft, none⟩ :: rest) K st :=
 AWops.of_run rfl (fun a w S g hs => ⟨.map (some w.heap.size), _, _, S, _, by
  have := (rfl : (Instr.makeMap t none).run pr w = .ok (.map (some w.heap.size)) (w.alloc (.map #[] 0)))
  simp only [execOp, Sem.run_bind, this, Result.andThen]
  rfl, hs.newMap.put dst (.t (.one (.mp gnew_at))), k⟩)

/-- the entries of a map by texts, and their array. -/
theorem erel_keys {V : Type} {f : V → List P} {b fr : Bool} {m : List (ByteArray × V)} {arr : Array MapEntry} (hsz : arr.size = (mapE b f m).length)
  (h : ∀ i (h : i < (mapE b f m).length) (h' : i < arr.size), ERel w S x.base fr (arr[i]'h') ((mapE b f m)[i]'h)) : arr.toList.map (·.key) = m.map (fun e => Value.string e.1) := by
 apply List.ext_getElem
 ·simpa [mapE] using hsz
 ·intro i h1 h2
  have h3 : i < (mapE b f m).length := by simpa [mapE] using h2
  have h4 : i < arr.size := by simpa using h1
  have := (h i h3 h4).1
  simp only [mapE, List.getElem_map] at this
  simpa using this
theorem erel_val {V : Type} {f : V → List P} {b : Bool} {m : List (ByteArray × V)} {arr : Array MapEntry}
  (h : ∀ i (h : i < (mapE b f m).length) (h' : i < arr.size), ERel w S x.base false (arr[i]'h') ((mapE b f m)[i]'h)) {j : Nat} {e : MapEntry} {k : ByteArray} {v : V} (he : arr[j]? = some e) (hm : m[j]? = some (k, v)) : VRel w S x.base b e.val (f v) := by
 obtain ⟨h1, h2⟩ := Array.getElem?_eq_some_iff.mp he
 obtain ⟨h3, h4⟩ := List.getElem?_eq_some_iff.mp hm
 have h5 : j < (mapE b f m).length := by simpa [mapE] using h3
 have := (h j h5 h1).2
 rw [h2] at this
 simp only [mapE, List.getElem_map, h4] at this
 exact this
theorem run_lookup {t kt e : TypeId} {arr : Array MapEntry} {clock r : Nat} {s : ByteArray} {ok : Bool} {zv : Value} {q : Option (Nat × Value)} (ht : pr.underlying t = some (.map kt e)) (hk : pr.underlying kt = some .string) (hz : zeroOf pr e = some zv)
  (hb : w.heap[r]? = some (.map arr clock)) (hf : Instr.findNow .string (.string s) arr.toList 0 = some q) :
  (Instr.lookup t (.map (some r)) (.string s) ok).run pr w = .ok (if ok then .tuple #[(match q with | some (_, v) => v | none => zv), .bool q.isSome] else (match q with | some (_, v) => v | none => zv)) w := by
 have h1 := MapKept.run_findKey (P := pr) (w := w) (k := .string s) hk hf
 have h2 := MapKept.run_checkKey (P := pr) (w := w) (k := .string s) hk trivial arr.isEmpty 9999
 have h3 := MapKept.run_getObj_map (P := pr) hb
 cases q with
 | none => cases ok <;> simp [Instr.lookup, run_underlying ht, Result.andThen, h1, h2, h3, run_zero hz]
 | some p => obtain ⟨i, v⟩ := p; cases ok <;> simp [Instr.lookup, run_underlying ht, Result.andThen, h1, h2, h3]
theorem lookup_rel {V : Type} {f : V → List P} {b : Bool} {z : V} {m : List (ByteArray × V)} {t kt e : TypeId} {tk : Nat} {s : ByteArray} {ok : Bool} {zv : Value} {zs : List Value} (ht : pr.underlying t = some (.map kt e)) (hk : pr.underlying kt = some .string) (hz : zeroOf pr e = some zv)
  (hzv : zv = if b then .agg zs.toArray else zs.getD 0 undef) (hz1 : b = false → zs.length = 1) (hzz : All2 ZRel zs (f z)) (hl : Live st.H tk (.map false (mapE b f m))) (hs : Sim x st a w S g) {v : Value} (hv : CRel w S x.base g v (.mp tk)) :
  ∃ u, (Instr.lookup t v (.string s) ok).run pr w = .ok (if ok then .tuple #[u, .bool (mget s m).isSome] else u) w ∧ VRel w S x.base b u (f ((mget s m).getD z)) := by
 obtain ⟨bk, arr, clock, h1, h2, h3, ⟨h4, h5⟩, h6⟩ := hs.mapAt hl
 cases hv with
 | mp hg =>
  rw [h1] at hg
  cases hg
  rcases find_m s arr.toList m 0 (erel_keys h4 h6) with ⟨a1, a2, _⟩ | ⟨j, e', v, a1, a2, a3, a4, a5, _⟩
  ·refine ⟨zv, ?_, ?_⟩
   ·rw [run_lookup ht hk hz h3 a1, a2]; rfl
   ·rw [a2]; exact vrel_zero hzv hz1 hzz
  ·refine ⟨e'.val, ?_, ?_⟩
   ·rw [run_lookup ht hk hz h3 a1, a5]; rfl
   ·rw [a5]; exact erel_val h6 (by simpa using a2) a4
theorem t_lookup {V : Type} {f : V → List P} {b : Bool} {z : V} {m : List (ByteArray × V)} {t kt e : TypeId} {y kk : Operand} {tk : Nat} {s : ByteArray} {f1 : Bool} {zv : Value} {zs : List Value} {d : D} (ht : pr.underlying t = some (.map kt e)) (hk : pr.underlying kt = some .string) (hz : zeroOf pr e = some zv)
  (hzv : zv = if b then .agg zs.toArray else zs.getD 0 undef) (hz1 : b = false → zs.length = 1) (hzz : All2 ZRel zs (f z)) (hy : st.val y = .one (.mp tk)) (hl : st.H[tk]? = some (some (.map false (mapE b f m)))) (hkk : st.val kk = .one (.p f1 (.v (.string s))))
  (hd : dV b (f ((mget s m).getD z)) = d) (k : AWops pr x ops rest K (st.put dst d)) : AWops pr x ops (⟨dst, .lookup t y kk false, ty, pos, aft, none⟩ :: rest) K st :=
 AWops.pure _ (fun a w S g hs => by
  subst hd
  have e1 := (hkk ▸ hs.val kk).of_v
  have hyv := hy ▸ hs.val y
  obtain ⟨u, hu, hr⟩ := lookup_rel (s := s) (ok := false) ht hk hz hzv hz1 hzz hl hs (v := a.eval y) (by
   generalize a.eval y = q at hyv
   cases hyv with | t h => cases h with | one h => exact h)
  refine ⟨u, ?_, .t hr.toT⟩
  simp only [execOp, e1, Sem.run_bind, hu, Result.andThen]
  rfl) k
theorem t_lookupOk {V : Type} {f : V → List P} {b : Bool} {z : V} {m : List (ByteArray × V)} {t kt e : TypeId} {y kk : Operand} {tk : Nat} {s : ByteArray} {f1 : Bool} {zv : Value} {zs : List Value} {d : D} (ht : pr.underlying t = some (.map kt e)) (hk : pr.underlying kt = some .string) (hz : zeroOf pr e = some zv)
  (hzv : zv = if b then .agg zs.toArray else zs.getD 0 undef) (hz1 : b = false → zs.length = 1) (hzz : All2 ZRel zs (f z)) (hy : st.val y = .one (.mp tk)) (hl : st.H[tk]? = some (some (.map false (mapE b f m)))) (hkk : st.val kk = .one (.p f1 (.v (.string s))))
  (hd : dV b (f ((mget s m).getD z)) = d) (k : AWops pr x ops rest K (st.put dst (.tup [d, sc (.bool (mget s m).isSome)]))) : AWops pr x ops (⟨dst, .lookup t y kk true, ty, pos, aft, none⟩ :: rest) K st :=
 AWops.pure _ (fun a w S g hs => by
  subst hd
  have e1 := (hkk ▸ hs.val kk).of_v
  have hyv := hy ▸ hs.val y
  obtain ⟨u, hu, hr⟩ := lookup_rel (s := s) (ok := true) ht hk hz hzv hz1 hzz hl hs (v := a.eval y) (by
   generalize a.eval y = q at hyv
   cases hyv with | t h => cases h with | one h => exact h)
  refine ⟨.tuple #[u, .bool (mget s m).isSome], ?_, .tup [u, .bool (mget s m).isSome] rfl fun i hi hi' => ?_⟩
  ·simp only [execOp, e1, Sem.run_bind, hu, Result.andThen]
   rfl
  ·match i, hi with
   | 0, _ => exact hr.toT
   | 1, _ => exact .one (.p (.v _ rfl))) k

theorem mset_nodup {V : Type} {f : V → List P} {b : Bool} {m : List (ByteArray × V)} : (mapE b f m).length = m.length := by simp [mapE]
/-- an entry is set. -/
theorem Sim.mapSet {V : Type} {f : V → List P} {b : Bool} {m : List (ByteArray × V)} {t kt e : TypeId} {tk : Nat} {s : ByteArray} {u : V} (ht : pr.underlying t = some (.map kt e)) (hk : pr.underlying kt = some .string)
  (hl : Live st.H tk (.map false (mapE b f m))) (hs : Sim x st a w S g) {v uv : Value} (hv : CRel w S x.base g v (.mp tk)) (hu : VRel w S x.base b uv (f u)) :
  ∃ w', (Instr.mapUpdate t v (.string s) uv).run pr w = .ok () w' ∧ Sim x (st.heap (st.H.set tk (some (.map false (mapE b f (mset s u m)))))) a w' S g := by
 obtain ⟨bk, arr, clock, h1, h2, h3, ⟨h4, h5⟩, h6⟩ := hs.mapAt hl
 cases hv with
 | mp hg =>
  rw [h1] at hg
  cases hg
  have hc := MapKept.run_checkKey (P := pr) (w := w) (k := .string s) hk trivial false 9999
  have hgo := MapKept.run_getObj_map (P := pr) h3
  have hkeys := erel_keys h4 h6
  rcases find_m s arr.toList m 0 hkeys with ⟨a1, a2, a3, a4, a5⟩ | ⟨j, e', v', a1, a2, a3, a4, a5, a6, a7⟩
  ·have hfk := MapKept.run_findKey (P := pr) (w := w) (k := .string s) hk a1
   refine ⟨{ w with heap := w.heap.setIfInBounds bk (.map (arr.push { key := .string s, val := uv, born := clock }) (clock + 1)) }, ?_, ?_⟩
   ·have hso := MapKept.run_setObj_map (P := pr) (.map (arr.push { key := .string s, val := uv, born := clock }) (clock + 1)) h3
    simp [Instr.mapUpdate, run_underlying ht, Result.andThen, hc, hgo, hfk, hso]
   ·rw [a3]
    refine hs.writeMap hl h1 h3 _ _ ?_ (stamped_push h5 a5) fun i hi hi' => ?_
    ·simpa [mapE] using h4
    ·have hm : (mapE b f (m ++ [(s, u)])) = mapE b f m ++ [(.string s, b, f u)] := by simp [mapE]
     by_cases hlt : i < arr.size
     ·have := h6 i (by omega) hlt
      rw [Array.getElem_push_lt hlt]
      simp only [hm, List.getElem_append_left (by omega : i < (mapE b f m).length)]
      exact this
     ·have hi2 : i = arr.size := by simp at hi'; omega
      subst hi2
      rw [Array.getElem_push_eq]
      simp only [hm, List.getElem_append_right (by omega : (mapE b f m).length ≤ arr.size)]
      have : arr.size - (mapE b f m).length = 0 := by omega
      simp only [this, List.getElem_cons_zero]
      exact ⟨rfl, hu⟩
  ·have hfk := MapKept.run_findKey (P := pr) (w := w) (k := .string s) hk a1
   have hst := run_keyThatStays (P := pr) (w := w) (d := .string) (k := .string s) trivial
   rw [Nat.zero_add] at hfk
   have e2 : arr[j]? = some e' := by simpa using a2
   refine ⟨{ w with heap := w.heap.setIfInBounds bk (.map (arr.modify j fun y => { y with key := .string s, val := uv }) clock) }, ?_, ?_⟩
   ·have hso := MapKept.run_setObj_map (P := pr) (.map (arr.modify j fun y => { y with key := .string s, val := uv }) clock) h3
    simp [Instr.mapUpdate, run_underlying ht, Result.andThen, hc, hgo, hfk, e2, a3, hst, hso]
   ·rw [a6]
    refine hs.writeMap hl h1 h3 _ _ ?_ (stamped_modify h5 j _ (fun _ _ => rfl) ?_) fun i hi hi' => ?_
    ·simpa [mapE] using h4
    ·intro y _ hy
     rw [e2] at hy
     cases hy
     exact a3.symm
    ·have hi2 : i < arr.size := by simpa using hi'
     have hm : mapE b f (m.set j (s, u)) = (mapE b f m).set j (.string s, b, f u) := by simp [mapE, List.map_set]
     simp only [Array.getElem_modify, hm, List.getElem_set]
     by_cases hij : j = i
     ·rw [if_pos hij, if_pos hij]; exact ⟨rfl, hu⟩
     ·rw [if_neg hij, if_neg hij]; exact h6 i (by omega) hi2
theorem t_mapSet {V : Type} {f : V → List P} {b : Bool} {m : List (ByteArray × V)} {t kt e : TypeId} {y kk vv : Operand} {tk : Nat} {s : ByteArray} {u : V} {f1 : Bool} {H' : List (Option AObj)} (ht : pr.underlying t = some (.map kt e)) (hk : pr.underlying kt = some .string)
  (hb1 : b = false → (f u).length = 1) (hy : st.val y = .one (.mp tk)) (hl : st.H[tk]? = some (some (.map false (mapE b f m)))) (hkk : st.val kk = .one (.p f1 (.v (.string s)))) (hvv : st.val vv = dV b (f u))
  (hH : st.H.set tk (some (.map false (mapE b f (mset s u m)))) = H') (k : AWops pr x ops rest K (st.heap H')) : AWops pr x ops (⟨none, .mapUpdate t y kk vv, ty, pos, aft, none⟩ :: rest) K st :=
 AWops.of_skip rfl (fun a w S g hs => by
  subst hH
  have e1 := (hkk ▸ hs.val kk).of_v
  have hyv := hy ▸ hs.val y
  have hvv' := hvv ▸ hs.val vv
  obtain ⟨w', hr, hs'⟩ := Sim.mapSet (s := s) (u := u) (v := a.eval y) (uv := a.eval vv) ht hk hl hs (by
   generalize a.eval y = q at hyv
   cases hyv with | t h => cases h with | one h => exact h) (VRel.ofD hb1 hvv')
  refine ⟨w', _, S, g, ?_, hs', k⟩
  simp only [execOp, e1, Sem.run_bind, hr, Result.andThen]
  rfl)
theorem map_erase {α β : Type} (h : α → β) : ∀ (l : List α) (j : Nat), (l.eraseIdx j).map h = (l.map h).eraseIdx j
 | [], _ => rfl
 | _ :: _, 0 => rfl
 | x :: l, j + 1 => by simp [List.eraseIdx, map_erase h l j]
/-- an entry goes. -/
theorem Sim.mapDel {V : Type} {f : V → List P} {b : Bool} {m : List (ByteArray × V)} {t kt e ty : TypeId} {tk : Nat} {s : ByteArray} (ht : pr.underlying t = some (.map kt e)) (hk : pr.underlying kt = some .string)
  (hl : Live st.H tk (.map false (mapE b f m))) (hs : Sim x st a w S g) {v : Value} (hv : CRel w S x.base g v (.mp tk)) {tys : Array TypeId} (htys : tys[0]? = some t) :
  ∃ w', (Builtin.delete_ tys ty #[v, .string s]).run pr w = .ok (.tuple #[]) w' ∧ Sim x (st.heap (st.H.set tk (some (.map false (mapE b f (mdel s m)))))) a w' S g := by
 obtain ⟨bk, arr, clock, h1, h2, h3, ⟨h4, h5⟩, h6⟩ := hs.mapAt hl
 cases hv with
 | mp hg =>
  rw [h1] at hg
  cases hg
  have hc := MapKept.run_checkKey (P := pr) (w := w) (k := .string s) hk trivial arr.isEmpty 9999
  have hgo := MapKept.run_getObj_map (P := pr) h3
  have hkeys := erel_keys h4 h6
  rcases find_m s arr.toList m 0 hkeys with ⟨a1, a2, a3, a4, a5⟩ | ⟨j, e', v', a1, a2, a3, a4, a5, a6, a7⟩
  ·have hfk := MapKept.run_findKey (P := pr) (w := w) (k := .string s) hk a1
   refine ⟨{ w with heap := w.heap.setIfInBounds bk (.map arr clock) }, ?_, ?_⟩
   ·have hso := MapKept.run_setObj_map (P := pr) (.map arr clock) h3
    simp [Builtin.delete_, htys, run_underlying ht, Result.andThen, hc, hgo, hfk, hso]
   ·rw [a4]
    exact hs.writeMap hl h1 h3 _ _ h4 h5 h6
  ·have hfk := MapKept.run_findKey (P := pr) (w := w) (k := .string s) hk a1
   rw [Nat.zero_add] at hfk
   have hj : j < arr.size := by
    have := (List.getElem?_eq_some_iff.mp a2).1
    simpa using this
   refine ⟨{ w with heap := w.heap.setIfInBounds bk (.map (arr.eraseIdxIfInBounds j) clock) }, ?_, ?_⟩
   ·have hso := MapKept.run_setObj_map (P := pr) (.map (arr.eraseIdxIfInBounds j) clock) h3
    simp [Builtin.delete_, htys, run_underlying ht, Result.andThen, hc, hgo, hfk, hso]
   ·rw [a7]
    have hm : mapE b f (m.eraseIdx j) = (mapE b f m).eraseIdx j := map_erase _ _ _
    have hml : (mapE b f m).length = m.length := by simp [mapE]
    have he : arr.eraseIdxIfInBounds j = arr.eraseIdx j hj := by simp [Array.eraseIdxIfInBounds, hj]
    refine hs.writeMap hl h1 h3 _ _ ?_ (stamped_erase h5 j) fun i hi hi' => ?_
    ·rw [he, hm, Array.size_eraseIdx, List.length_eraseIdx, if_pos (by omega), h4]
    ·have hi2 : i < arr.size - 1 := by rw [he, Array.size_eraseIdx] at hi'; exact hi'
     simp only [he, hm, Array.getElem_eraseIdx, List.getElem_eraseIdx]
     by_cases hij : i < j
     ·simp only [hij, dif_pos]; exact h6 i (by omega) (by omega)
     ·simp only [hij, dif_neg, not_false_eq_true]; exact h6 (i + 1) (by omega) (by omega)
theorem t_mapDel {V : Type} {f : V → List P} {b : Bool} {m : List (ByteArray × V)} {t kt e : TypeId} {y kk : Operand} {tk : Nat} {s : ByteArray} {f1 : Bool} {tys : Array TypeId} {H' : List (Option AObj)} (ht : pr.underlying t = some (.map kt e)) (hk : pr.underlying kt = some .string)
  (htys : tys[0]? = some t) (hy : st.val y = .one (.mp tk)) (hl : st.H[tk]? = some (some (.map false (mapE b f m)))) (hkk : st.val kk = .one (.p f1 (.v (.string s))))
  (hH : st.H.set tk (some (.map false (mapE b f (mdel s m)))) = H') (k : AWops pr x ops rest K ((st.heap H').put dst (.tup []))) : AWops pr x ops (⟨dst, .call { callee := .builtin .delete, args := #[y, kk], argTypes := tys }, ty, pos, aft, none⟩ :: rest) K st :=
 AWops.of_run rfl (fun a w S g hs => by
  subst hH
  have e1 := (hkk ▸ hs.val kk).of_v
  have hyv := hy ▸ hs.val y
  obtain ⟨w', hr, hs'⟩ := Sim.mapDel (s := s) (v := a.eval y) (ty := ty) (tys := tys) ht hk hl hs (by
   generalize a.eval y = q at hyv
   cases hyv with | t h => cases h with | one h => exact h) htys
  refine ⟨.tuple #[], w', _, S, g, ?_, hs'.put dst (.tup [] rfl fun i hi => by cases hi), k⟩
  simp [execOp, resolve, invoke, builtin, e1, hr])

/-- a map against nil. -/
theorem s_mapNil {t t' kt e : TypeId} {y z : Operand} {f : Bool} {op : BinOp} {b c : Bool} (ht : pr.underlying t = some (.map kt e)) (hz : st.val z = .one (.p f (.v (.map none))))
  (hy : (b = true ∧ ∃ f1, st.val y = .one (.p f1 (.v (.map none)))) ∨ (b = false ∧ ∃ tk, st.val y = .one (.mp tk))) (hop : (op = .eql ∧ c = b) ∨ (op = .neq ∧ c = !b))
  (k : AWops pr x ops rest K (st.put dst (sc (.bool c)))) : AWops pr x ops (⟨dst, .binOp op t y z t', ty, pos, aft, none⟩ :: rest) K st :=
 AWops.pure _ (fun a w S g hs => by
  refine ⟨.bool c, ?_, .sc _ rfl⟩
  have e2 := (hz ▸ hs.val z).of_v
  have e1 : ∃ m : Option Nat, a.eval y = .map m ∧ m.isNone = b := by
   rcases hy with ⟨rfl, f1, hy⟩ | ⟨rfl, tk, hy⟩
   ·exact ⟨none, (hy ▸ hs.val y).of_v, rfl⟩
   ·have := hy ▸ hs.val y
    generalize a.eval y = q at this
    cases this with | t h => cases h with | one h => cases h with | mp hg => exact ⟨_, rfl, rfl⟩
  obtain ⟨m, e1, hm⟩ := e1
  subst hm
  have h1 := run_equal_map_nil (P := pr) (w := w) t kt e m ht
  have hg : (eqGuard op t y z (.map m) (.map none)).run pr w = .ok () w := by
   rcases hop with ⟨rfl, _⟩ | ⟨rfl, _⟩ <;> simp [eqGuard, run_underlying ht, Result.andThen]
  rcases hop with ⟨rfl, rfl⟩ | ⟨rfl, rfl⟩
  ·simp [execOp, e1, e2, hg, Go.binOp, h1, Result.andThen]
  ·simp [execOp, e1, e2, hg, Go.binOp, h1, Result.andThen]) k

/-! ### pieces of nothing -/
/-- a row is told as empty from now on. -/
theorem Sim.recut (hs : Sim x st a w S g) {t : Nat} {fr : Bool} {cs : List C} (hl : Live st.H t (.cells fr cs)) : Sim x (st.heap (st.H.set t (some (.cells fr [])))) a w S g := by
 have hS : ∀ k, S k → S k ∧ w.heap[k]? = w.heap[k]? := fun k hk => ⟨hk, rfl⟩
 have back : ∀ u o, Live (st.H.set t (some (.cells fr []))) u o → ∃ q, Live st.H u q := by
  intro u o hu
  rcases live_set hl hu with ⟨rfl, _⟩ | ⟨_, h⟩ <;> exact ⟨_, by assumption⟩
 refine hs.change hS (fun _ _ h => h) ⟨?_, ?_, hs.ok.st, ?_, ?_, ?_, hs.ok.glob.mono hS⟩ hs.s0 ?_ hs.ext (fun _ _ => rfl) (by simp)
 ·intro u o hu
  rcases live_set hl hu with ⟨rfl, rfl⟩ | ⟨hne, hu⟩
  ·rcases hs.ok.obj u _ hl with h | ⟨b, N, arr, e, h1, h2, h3, h4, h5, h6⟩
   ·exact .inl h
   ·exact .inr ⟨b, N, arr, e, h1, h2, h3, h4, by simp; omega, fun j hj => (by cases hj)⟩
  ·exact hs.ok.obj u o hu
 ·intro u u' o o' k M M' hu hu' hk hk'
  obtain ⟨q, h1⟩ := back u o hu
  obtain ⟨q', h2⟩ := back u' o' hu'
  exact hs.ok.inj u u' q q' k M M' h1 h2 hk hk'
 ·intro k u o M hk hu hgu
  obtain ⟨q, h1⟩ := back u o hu
  exact hs.ok.dis k u q M hk h1 hgu
 ·intro u hu; rw [List.length_set] at hu; exact hs.ok.dom u hu
 ·intro u o k M hu hgu
  obtain ⟨q, h1⟩ := back u o hu
  exact hs.ok.lt u q k M h1 hgu
 ·intro u o k M hu hgu
  obtain ⟨q, h1⟩ := back u o hu
  exact hs.wr u q k M h1 hgu
theorem t_cut0 {t e : TypeId} {y y0 : Operand} {tk n sz : Nat} {k0 : IntKind} {f0 fr : Bool} {cs : List C} {H' : List (Option AObj)} (ht : pr.underlying t = some (.slice e)) (hsz : szOf pr e = some sz)
  (hy : st.val y = .one (.own tk 0 n sz)) (hl : st.H[tk]? = some (some (.cells fr cs))) (h0 : st.val y0 = .one (.p f0 (.v (.int k0 0)))) (hH : st.H.set tk (some (.cells fr [])) = H')
  (k : AWops pr x ops rest K ((st.heap H').put dst (.one (.own tk 0 0 sz)))) : AWops pr x ops (⟨dst, .slice t y none (some y0) none, ty, pos, aft, none⟩ :: rest) K st :=
 AWops.of_run rfl (fun a w S g hs => by
  subst hH
  have e2 := (h0 ▸ hs.val y0).of_v
  have hyv := hy ▸ hs.val y
  have hb : ∀ c, (Instr.sliceBound (.int k0 0) c .sliceAcap).run pr w = .ok 0 w := fun c => run_bound (i := 0) (by omega) (by simp)
  generalize hq : a.eval y = q at hyv
  cases hyv with | t h => cases h with | one h => cases h with
   | @own _ b N _ _ cap _ hg hn hN =>
    refine ⟨.slice (if cap = 0 then some ⟨b, N.o, none⟩ else some (Addr.add ⟨b, N.o, none⟩ (0 * sz))) 0 cap, w, _, S, g, ?_, (hs.recut hl).put dst (.t (.one ?_)), k⟩
    ·simp [execOp, hq, e2, Instr.sliceAt, Instr.slice, run_underlying ht, Instr.sliceBounds, hb, run_size hsz]
    ·have : (if cap = 0 then some (⟨b, N.o, none⟩ : Addr) else some (Addr.add ⟨b, N.o, none⟩ (0 * sz))) = some ⟨b, N.o, none⟩ := by split <;> simp [Addr.add]
     rw [this]; exact .own hg (Nat.zero_le _) hN
   | own0 ad hg =>
    refine ⟨.slice ad 0 0, w, _, S, g, ?_, (hs.recut hl).put dst (.t (.one (.own0 ad hg))), k⟩
    simp [execOp, hq, e2, Instr.sliceAt, Instr.slice, run_underlying ht, Instr.sliceBounds, hb, run_size hsz])
theorem s_capNil {t e : TypeId} {y : Operand} {f : Bool} (ht : pr.underlying t = some (.slice e)) (hy : st.val y = .one (.p f (.v (.slice none 0 0)))) (k : AWops pr x ops rest K (st.put dst (sc (.int .i64 0)))) :
  AWops pr x ops (⟨dst, .call { callee := .builtin .cap, args := #[y], argTypes := #[t] }, ty, pos, aft, none⟩ :: rest) K st :=
 AWops.pure _ (fun a w S g hs => by
  refine ⟨.int .i64 0, ?_, .sc _ rfl⟩
  have e1 := (hy ▸ hs.val y).of_v
  simp [execOp, resolve, invoke, builtin, e1, Builtin.cap_, run_underlying ht, goInt]) k
theorem s_sliceNil {t e : TypeId} {y y0 : Operand} {sz : Nat} {k0 : IntKind} {f f0 : Bool} (ht : pr.underlying t = some (.slice e)) (hsz : szOf pr e = some sz) (hy : st.val y = .one (.p f (.v (.slice none 0 0)))) (h0 : st.val y0 = .one (.p f0 (.v (.int k0 0))))
  (k : AWops pr x ops rest K (st.put dst (sc (.slice none 0 0)))) : AWops pr x ops (⟨dst, .slice t y none (some y0) none, ty, pos, aft, none⟩ :: rest) K st :=
 AWops.pure _ (fun a w S g hs => by
  refine ⟨.slice none 0 0, ?_, .sc _ rfl⟩
  have e1 := (hy ▸ hs.val y).of_v
  have e2 := (h0 ▸ hs.val y0).of_v
  have hb : (Instr.sliceBound (.int k0 0) 0 .sliceAcap).run pr w = .ok 0 w := run_bound (i := 0) (by omega) (by simp)
  simp [execOp, e1, e2, Instr.sliceAt, Instr.slice, run_underlying ht, Instr.sliceBounds, hb, run_size hsz]) k

/-- 'append(nil, make([]T, n)...)'. -/
theorem zeroCells_at (z : Array Value) (n j : Nat) (hz : 0 < z.size) (h : j < n * z.size) : (Builtin.zeroCells z n)[j]? = z[j % z.size]? := by
 have hm : j % z.size < z.size := Nat.mod_lt _ hz
 unfold Builtin.zeroCells
 simp [h, hm]
theorem t_appendMake {α : Type} {f : α → List P} {a0 : α} {t u e : TypeId} {y z : Operand} {zv : Value} {sz bs : Nat} {kd ku : IntKind} {f1 f2 : Bool} {n : Int} (ht : pr.underlying t = some (.slice e)) (hu : pr.underlying u = some (.int ku)) (hi : infoQ pr e = some (some zv, sz, bs)) (hzs : zv.cells.size = sz) (hsz : 0 < sz)
  (hf : f a0 = zv.cells.toList.map P.v) (h1 : zv.cells.toList.all (·.oneCell') = true) (hy : st.val y = .one (.p f1 (.v (.slice none 0 0)))) (hz : st.val z = .one (.p f2 (.v (.int kd n)))) (h0 : 0 < n) (hb : (bs : Int) * n ≤ 140737488355328) (h63 : n ≤ 9223372036854775807)
  (k : AWops pr x ops rest K ((st.heap (st.H ++ [some (.cells true (rowC f (List.replicate n.toNat a0)))])).put dst (.one (.own st.H.length 0 (List.replicate n.toNat a0).length sz)))) :
  AWops pr x ops (⟨dst, .call { callee := .builtin .append, args := #[y, z], argTypes := #[t, u] }, ty, pos, aft, none⟩ :: rest) K st :=
 AWops.of_run rfl (fun a w S g hs => by
  have e1 := (hy ▸ hs.val y).of_v
  have e2 := (hz ▸ hs.val z).of_v
  obtain ⟨i, hi1, hi2, hi3, hi4⟩ := infoQ_some hi
  obtain ⟨m, rfl⟩ := Int.eq_ofNat_of_zero_le (Int.le_of_lt h0)
  have hm0 : 0 < m := by omega
  rw [Int.toNat_natCast] at k
  have hcap := grownCap_ge w m 0 e
  have hfl : (f a0).length = sz := by rw [hf, List.length_map, Array.length_toList, hzs]
  have hlen : (rowC f (List.replicate m a0)).length = m * sz := by
   unfold rowC
   rw [List.length_map, List.length_flatMap]
   simp [hfl]
  have hw : IntKind.i64.wrap (m : Int) = (m : Int) := by rw [IntKind.wrap_i64]; omega
  have hbn : m * i.bytes ≤ 140737488355328 := by
   have h2 : ((bs * m : Nat) : Int) ≤ 140737488355328 := by rw [Int.natCast_mul]; exact hb
   rw [hi4, Nat.mul_comm]; omega
  have hbi : ¬ (281474976710656 < (m : Int) * (i.bytes : Int)) := by
   have : ((m * i.bytes : Nat) : Int) ≤ 140737488355328 := by omega
   rw [Int.natCast_mul] at this; omega
  have hfit : ¬ (281474976710656 < Builtin.nextslicecap m 0 * i.bytes) := by rw [nextslicecap_zero hm0]; omega
  have hsize : (Builtin.zeroCells zv.cells m ++ Builtin.zeroCells zv.cells (grownCap w m 0 e - m)).size = grownCap w m 0 e * sz := by
   simp only [Builtin.zeroCells, Array.size_append, Array.size_map, Array.size_range, hzs, ← Nat.add_mul]
   congr 1; omega
  have hs0 : Sim x st a w.drew S g := hs.same rfl rfl rfl rfl
  have hs' := hs0.newCells (Builtin.zeroCells zv.cells m ++ Builtin.zeroCells zv.cells (grownCap w m 0 e - m)) e (cs := rowC f (List.replicate m a0)) (by rw [hlen, hsize]; exact Nat.mul_le_mul_right _ hcap) (by
   intro j hj
   have hj' : j < m * sz := by omega
   have hm : j % sz < zv.cells.size := by rw [hzs]; exact Nat.mod_lt _ hsz
   have ec : (rowC f (List.replicate m a0))[j]? = some (mkC (P.v zv.cells[j % sz])) := by
    unfold rowC
    rw [List.getElem?_map, rep_flat hfl hsz _ _ hj', hf, List.getElem?_map]
    simp [hm]
   have ec' : (rowC f (List.replicate m a0))[j] = mkC (P.v zv.cells[j % sz]) := by
    rw [List.getElem?_eq_getElem hj] at ec
    exact Option.some.inj ec
   rw [ec']
   have ev : (Builtin.zeroCells zv.cells m ++ Builtin.zeroCells zv.cells (grownCap w m 0 e - m)).getD j undef = zv.cells[j % sz] := by
    rw [Array.getD_eq_getD_getElem?, Array.getElem?_append_left (by simp [Builtin.zeroCells, hzs]; exact hj'), zeroCells_at _ _ _ (by omega) (by rw [hzs]; exact hj')]
    rw [hzs, Array.getElem?_eq_getElem hm]; rfl
   rw [ev]
   exact .p (.v _ (List.all_eq_true.mp h1 _ (by simp))))
  rw [List.length_replicate] at k
  refine ⟨.slice (some ⟨w.heap.size, 0, none⟩) m (grownCap w m 0 e), _, _, S, _, ?_, hs'.put dst (.t (.one (.own00 gnew_at hcap (by rw [hsize]; omega)))), k⟩
  have hrun : (Builtin.append_ #[t, u] ty #[.slice none 0 0, .int kd (m : Int)]).run pr w = .ok (.slice (some ⟨w.heap.size, 0, none⟩) m (grownCap w m 0 e)) (w.drew.alloc (.cells (Builtin.zeroCells zv.cells m ++ Builtin.zeroCells zv.cells (grownCap w m 0 e - m)) e)) := by
   have hn : m ≠ 0 := by omega
   have h63' : ¬ (9223372036854775807 < (m : Int)) := by omega
   have hne : ¬ (m * i.size = 0) := by rw [hi3]; exact Nat.ne_of_gt (Nat.mul_pos hm0 hsz)
   simp [Builtin.append_, run_underlying ht, run_underlying hu, sizeOf, typeInfo, zeroValue, hi1, hi2, asInt, asIntOf, hw, hn, hbi, h63', hfit, hne, Question.forced, run_firstCells_none, newRow, grownCap]
   intro hneg
   exact absurd hneg (by omega)
  simp [execOp, resolve, invoke, builtin, e1, e2, hrun]
  rfl)

/-! ### bytes of a constant -/
/-- a row that nobody writes any more; its block has turned, its cells have not. -/
theorem Sim.toImm (hs : Sim x st a w S g) {t b : Nat} {N : RI} {cs : List C} (hl : Live st.H t (.cells true cs)) (hg : g t = some (some (b, N))) (w' : World) (hsz : w'.heap.size = w.heap.size) (ho : ∀ k, k ≠ b → w'.heap[k]? = w.heap[k]?) (h2 : w'.tape = w.tape) (h3 : w'.os = w.os) (h4 : w'.output = w.output) :
  Sim x (st.heap (st.H.set t none)) a w' (fun k => S k ∨ k = b) g := by
 have hb : x.base ≤ b := (hs.row hl hg).1 rfl
 have hlt := hs.ok.lt t _ b N hl hg
 have hS : ∀ k, S k → (S k ∨ k = b) ∧ w'.heap[k]? = w.heap[k]? := fun k hk => ⟨.inl hk, ho k fun e => hs.ok.dis b t _ N (e ▸ hk) hl hg⟩
 refine hs.change hS (fun _ _ h => h) ⟨?_, ?_, ?_, ?_, ?_, ?_, hs.ok.glob.mono hS⟩ ?_ ?_ ?_ (fun _ _ => rfl) (by simp)
 ·intro u o hu
  obtain ⟨hne, hu⟩ := live_kill hu
  exact (hs.ok.obj u o hu).mono hS (fun _ _ h => h) fun k M hk => ho k fun e => hne (hs.ok.inj u t o _ b M N hu hl (e ▸ hk) hg)
 ·exact fun u u' o o' k M M' hu hu' => hs.ok.inj u u' o o' k M M' (live_kill hu).2 (live_kill hu').2
 ·rintro k (hk | rfl)
  ·rw [hsz]; exact hs.ok.st k hk
  ·rw [hsz]; exact hlt
 ·rintro k u o M (hk | rfl) hu hgu
  ·exact hs.ok.dis k u o M hk (live_kill hu).2 hgu
  ·exact (live_kill hu).1 (hs.ok.inj u t o _ _ M N (live_kill hu).2 hl hgu hg)
 ·intro u hu; rw [List.length_set] at hu; exact hs.ok.dom u hu
 ·intro u o k M hu hgu; rw [hsz]; exact hs.ok.lt u o k M (live_kill hu).2 hgu
 ·rintro k (hk | rfl)
  ·exact hs.s0 k hk
  ·exact .inl hb
 ·exact fun u o k M hu hgu => hs.wr u o k M (live_kill hu).2 hgu
 ·refine ⟨h2.trans hs.ext.tape, h3.trans hs.ext.os, h4.trans hs.ext.output, by rw [hsz]; exact hs.ext.size, fun k hk hw => ?_⟩
  rw [ho k (by omega)]; exact hs.ext.frame k hk hw
theorem t_convConst {t e : TypeId} {y : Operand} {tk n : Nat} {xs : List Int} {H' : List (Option AObj)} (ht : pr.underlying t = some (.slice e)) (he : pr.underlying e = some (.int .u8)) (hy : st.val y = .one (.own tk 0 n 1)) (hl : st.H[tk]? = some (some (.cells true (rowC e_u8 xs)))) (hn : n = xs.length) (hn0 : 0 < n)
  (hH : st.H.set tk none = H') (k : AWops pr x ops rest K ((st.heap H').put dst (.one (.p false (.sl xs.length (xs.flatMap e_u8)))))) :
  AWops pr x ops (⟨dst, .convert t t y, ty, pos, aft, none⟩ :: rest) K st :=
 AWops.of_run rfl (fun a w S g hs => by
  subst hH
  have hyv := hy ▸ hs.val y
  generalize hq : a.eval y = q at hyv
  cases hyv with | t h => cases h with | one h => cases h with
   | own0 ad hg => omega
   | @own _ b N _ _ cap _ hg hn hN =>
    rename_i hnx
    subst hnx
    obtain ⟨_, arr, e', hb, ha, hle, hc⟩ := hs.row hl hg
    have hlt := hs.ok.lt tk _ b N hl hg
    have hsh : w.shape? b = some (e', arr.size) := by simp [World.shape?, hb]
    have hf : (w.freeze ⟨b, arr.size, none⟩ 1).heap[b]? = some (.cells arr e' (arr.size, arr.size + 1)) ∧ (∀ k, k ≠ b → (w.freeze ⟨b, arr.size, none⟩ 1).heap[k]? = w.heap[k]?) := by
     unfold World.freeze
     rw [if_neg (by decide)]
     constructor
     ·simp [Array.getElem?_modify, hb]
     ·intro k hk
      simp [Array.getElem?_modify, Ne.symm hk]
    have hs' := hs.toImm hl hg (w.freeze ⟨b, arr.size, none⟩ 1) (by simp [World.freeze]) hf.2 rfl rfl rfl
    generalize hw' : w.freeze ⟨b, arr.size, none⟩ 1 = w' at hf hs'
    have hrl : (rowC e_u8 xs).length = xs.length := by
     unfold rowC
     rw [List.length_map, flat_len e_u8_len, Nat.mul_one]
    refine ⟨.slice (some ⟨b, N.o + 0, none⟩) xs.length cap, w', _, _, g, ?_, hs'.put dst (.t (.one (.p (.sl b (N.o + 0) xs.length cap _ (fun j => arr.getD (N.o + j) undef) ⟨.inr rfl, fun h => by cases h⟩ hn ?_ ?_)))), k⟩
    ·rw [← hw']; simp [execOp, hq, convert, run_underlying ht, run_underlying he, markStringish, hsh, Result.andThen]
    ·intro j hj
     have hj2 : N.o + j < arr.size := by
      rw [ha]
      have : (xs.flatMap e_u8).length = (rowC e_u8 xs).length := by simp [rowC]
      omega
     simp [World.cell?, hf.1, hj2]
    ·intro j hj
     have hj2 : j < (rowC e_u8 xs).length := by simpa [rowC] using hj
     have h5 := hc j hj2
     have h6 : (rowC e_u8 xs)[j] = mkC ((xs.flatMap e_u8)[j]) := by simp [rowC]
     rw [h6] at h5
     have hSx : ∀ k, S k → w'.heap[k]? = w.heap[k]? := fun k hk => hf.2 k fun e => hs.ok.dis b tk _ N (e ▸ hk) hl hg
     exact (mkC_inv h5).mono fun k hk => ⟨⟨.inl hk.1, hk.2⟩, hSx k hk.1⟩)
end
end Go.Abs
