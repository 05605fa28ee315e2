import Derived.Test.YtfejiankcfifpaaDoorAbsZ
import Derived.DeepKeys3
set_option linter.unusedVariables false
set_option linter.unusedSimpArgs false
namespace Go.Abs
open MapKept

/-! ### maps by structs -/
def fsOf (P : Program) (t : TypeId) : Array Field := match P.underlying t with
 | some (.struct fs) => fs
 | _ => #[]
theorem keyLits_str {P : Program} {t d : Nat} (h : P.underlying t = some .string) (s : ByteArray) (hs : s.size ≤ maxLen) : P.keyLits (d + 1) t [.string s] = some [.string s.data.toList] := by
 unfold Program.keyLits; simp only [h]; rw [if_pos hs]
theorem keyLits_bool {P : Program} {t d : Nat} (h : P.underlying t = some .bool) (b : Bool) : P.keyLits (d + 1) t [.bool b] = some [.bool b] := by
 unfold Program.keyLits; simp only [h]
theorem keyLits_int {P : Program} {t d : Nat} {k : IntKind} (h : P.underlying t = some (.int k)) (n : Int) (hn : (Lit.int k n).wf = true) : P.keyLits (d + 1) t [.int k n] = some [.int k n] := by
 unfold Program.keyLits; simp only [h]; rw [if_pos ⟨trivial, hn⟩]
theorem keyOf_struct {P : Program} {t D : Nat} {fs : Array Field} {vs : List Value} {fl : List (Nat × Nat)} {ls : List (List Lit)} (hu : P.underlying t = some (.struct fs)) (hb : (fs.all fun f => f.name != "_") = true) (hf : fs.toList.map (fun f => (f.type, f.offset)) = fl) (hk : P.keyType t = true) (hc : P.cellsOf t = vs.length) (hD : P.types.size = D)
  (hl : fl.mapM (fun f => P.keyLits D f.1 ((vs.drop f.2).take (P.cellsOf f.1))) = some ls) : ∃ l, keyOf P t (.agg vs.toArray) = some l := by
 unfold keyOf
 simp only [hu]
 have h1 : (P.keyType t && (Value.agg vs.toArray).formed P t) = true := by
  rw [hk, Bool.true_and]
  simp [Value.formed, hu, hc]
 rw [if_pos h1]
 have h2 : P.keyLits (P.types.size + 1) t vs = some ls.flatten := by
  unfold Program.keyLits
  simp only [hu]
  rw [if_pos ⟨hc.symm, hb⟩, hD]
  have : (fs.toList.mapM fun f => P.keyLits D f.type ((vs.drop f.offset).take (P.cellsOf f.type))) = some ls := by
   rw [← hl, ← hf]
   generalize fs.toList = L
   induction L with
   | nil => rfl
   | cons f L ih => simp only [List.map_cons, List.mapM_cons, ih]
  rw [this]; rfl
 show ∃ l, Option.map _ (P.keyLits (P.types.size + 1) t (Value.agg vs.toArray).cells.toList) = some l
 have h3 : (Value.agg vs.toArray).cells.toList = vs := by simp [Value.cells]
 rw [h3, h2]
 exact ⟨_, rfl⟩
def pv : P → Value
 | .v x => x
 | .sl _ _ => undef
section keyed
variable {K : Type} [DecidableEq K] {V : Type}
def kvs (kf : K → List P) (k : K) : Value := .agg ((kf k).map pv).toArray
def mapG (kf : K → List P) (b : Bool) (f : V → List P) (m : List (K × V)) : List (Value × Bool × List P) := m.map fun e => (kvs kf e.1, b, f e.2)
def gget (k : K) : List (K × V) → Option V
 | [] => none
 | e :: m => if e.1 = k then some e.2 else gget k m
def gset (k : K) (x : V) : List (K × V) → List (K × V)
 | [] => [(k, x)]
 | e :: m => if e.1 = k then (k, x) :: m else e :: gset k x m
/-- the keys are such as the machine compares, and each stands once. -/
def okM (ok : K → Bool) (m : List (K × V)) : Bool := (m.all fun e => ok e.1) && decide ((m.map (·.1)).Nodup)
structure KOK (pr : Program) (kt : TypeId) (kf : K → List P) (ok : K → Bool) : Prop where
 law : WideMaps.KeyLaw pr kt
 key : ∀ k, ok k = true → ∃ l, keyOf pr kt (kvs kf k) = some l
 inj : ∀ a b, kvs kf a = kvs kf b → a = b
theorem gget_none {k : K} : ∀ {m : List (K × V)}, (∀ e ∈ m, e.1 ≠ k) → gget k m = none
 | [], _ => rfl
 | e :: m, h => by rw [gget, if_neg (h e (by simp))]; exact gget_none fun y hy => h y (by simp [hy])
theorem gset_none {k : K} {x : V} : ∀ {m : List (K × V)}, (∀ e ∈ m, e.1 ≠ k) → gset k x m = m ++ [(k, x)]
 | [], _ => rfl
 | e :: m, h => by rw [gset, if_neg (h e (by simp)), gset_none fun y hy => h y (by simp [hy])]; rfl
theorem gget_at {k : K} {v : V} : ∀ {m : List (K × V)} {j : Nat}, (m.map (·.1)).Nodup → m[j]? = some (k, v) → gget k m = some v ∧ ∀ x, gset k x m = m.set j (k, x)
 | [], _, _, h => by simp at h
 | e :: m, 0, _, h => by
  obtain rfl : e = (k, v) := by simpa using h
  exact ⟨if_pos rfl, fun x => if_pos rfl⟩
 | e :: m, j + 1, hn, h => by
  rw [List.getElem?_cons_succ] at h
  rw [List.map_cons, List.nodup_cons] at hn
  have hne : ¬ e.1 = k := fun q => hn.1 (q ▸ List.mem_map.mpr ⟨(k, v), List.mem_of_getElem? h, rfl⟩)
  obtain ⟨h1, h2⟩ := gget_at hn.2 h
  exact ⟨by rw [gget, if_neg hne, h1], fun x => by rw [gset, if_neg hne, h2]; rfl⟩
theorem find_g {pr : Program} {kt : TypeId} {kf : K → List P} {ok : K → Bool} (h : KOK pr kt kf ok) (w : World) {k : K} (hk : ok k = true) {es : List MapEntry} {m : List (K × V)} (he : es.map (·.key) = m.map fun e => kvs kf e.1) (hm : okM ok m = true) :
  ((Instr.findKey kt (kvs kf k) es).run pr w = .ok none w ∧ gget k m = none ∧ (∀ x, gset k x m = m ++ [(k, x)]) ∧ ∀ x ∈ es, x.key ≠ kvs kf k) ∨
  ∃ j e v, (Instr.findKey kt (kvs kf k) es).run pr w = .ok (some (j, e.val)) w ∧ es[j]? = some e ∧ e.key = kvs kf k ∧ m[j]? = some (k, v) ∧ gget k m = some v ∧ ∀ x, gset k x m = m.set j (k, x) := by
 unfold okM at hm
 rw [Bool.and_eq_true, decide_eq_true_eq, List.all_eq_true] at hm
 obtain ⟨l, hl⟩ := h.key k hk
 have hall : ∀ e ∈ es, ∃ l, keyOf pr kt e.key = some l := by
  intro e hee
  have : e.key ∈ m.map fun e => kvs kf e.1 := he ▸ List.mem_map.mpr ⟨e, hee, rfl⟩
  obtain ⟨y, hy, hye⟩ := List.mem_map.mp this
  rw [← hye]
  exact h.key _ (hm.1 y hy)
 rcases h.law.find w hl es hall with ⟨h1, h2⟩ | ⟨j, e, h1, h2, h3⟩
 ·have hno : ∀ y ∈ m, y.1 ≠ k := by
   intro y hy q
   have : kvs kf y.1 ∈ es.map (·.key) := he ▸ List.mem_map.mpr ⟨y, hy, rfl⟩
   obtain ⟨e, hee, heq⟩ := List.mem_map.mp this
   exact h2 e hee (by rw [heq, q])
  exact .inl ⟨h1, gget_none hno, fun x => gset_none hno, h2⟩
 ·have hj : (es.map (·.key))[j]? = some e.key := by rw [List.getElem?_map, h2]; rfl
  rw [he, List.getElem?_map] at hj
  cases hq : m[j]? with
  | none => rw [hq] at hj; cases hj
  | some y =>
   rw [hq] at hj
   have hy : kvs kf y.1 = e.key := by simpa using hj
   have hyk : y.1 = k := h.inj _ _ (by rw [hy, h3])
   obtain ⟨y1, y2⟩ := y
   subst hyk
   obtain ⟨g1, g2⟩ := gget_at hm.2 hq
   exact .inr ⟨j, e, y2, h1, h2, h3, hq, g1, g2⟩
end keyed

section
variable {pr : Program} {x : Ctx} {K0 : Exit → St → Prop} {st : St} {a : Act} {w : World} {S : Nat → Prop} {g : G} {ops : Array Oper} {rest : List Oper} {dst : Option Tmp} {ty : TypeId} {pos : String} {aft : Array Edge}
variable {K : Type} {V : Type} {kf : K → List P} {f : V → List P} {b : Bool} {m : List (K × V)} {ok : K → Bool}
theorem grel_keys {fr : Bool} {arr : Array MapEntry} (hsz : arr.size = (mapG kf b f m).length)
  (h : ∀ i (h : i < (mapG kf b f m).length) (h' : i < arr.size), ERel w S x.base fr (arr[i]'h') ((mapG kf b f m)[i]'h)) : arr.toList.map (·.key) = m.map (fun e => kvs kf e.1) := by
 apply List.ext_getElem
 ·simpa [mapG] using hsz
 ·intro i h1 h2
  have h3 : i < (mapG kf b f m).length := by simpa [mapG] using h2
  have h4 : i < arr.size := by simpa using h1
  have := (h i h3 h4).1
  simp only [mapG, List.getElem_map] at this
  simpa using this
theorem grel_val {arr : Array MapEntry}
  (h : ∀ i (h : i < (mapG kf b f m).length) (h' : i < arr.size), ERel w S x.base false (arr[i]'h') ((mapG kf b f m)[i]'h)) {j : Nat} {e : MapEntry} {k : K} {v : V} (he : arr[j]? = some e) (hm : m[j]? = some (k, v)) : VRel w S x.base b e.val (f v) := by
 obtain ⟨h1, h2⟩ := Array.getElem?_eq_some_iff.mp he
 obtain ⟨h3, h4⟩ := List.getElem?_eq_some_iff.mp hm
 have h5 : j < (mapG kf b f m).length := by simpa [mapG] using h3
 have := (h j h5 h1).2
 rw [h2] at this
 simp only [mapG, List.getElem_map, h4] at this
 exact this
/-- a key as the machine has it. -/
theorem key_of {cs : List P} (h1 : ∀ p ∈ cs, ∃ y, p = .v y) {v : Value} (h : DRel w S x.base g v (.agg (cs.map mkC))) : v = .agg (cs.map pv).toArray := by
 cases h with
 | t h => cases h with
  | agg vs hs h =>
   congr 2
   apply List.ext_getElem
   ·simpa using hs
   ·intro i hi hi'
    have hc : i < cs.length := by simpa using hi'
    have := h i (by simpa using hc) hi
    rw [List.getElem_map] at this
    have := mkC_inv this
    obtain ⟨y, hy⟩ := h1 _ (List.getElem_mem hc)
    rw [List.getElem_map]
    rw [hy] at this ⊢
    generalize vs[i] = q at this ⊢
    cases this
    rfl
theorem run_glookup {t kt e : TypeId} {arr : Array MapEntry} {clock r : Nat} {s : Value} {l : Lit} {zv : Value} {q : Option (Nat × Value)} (hK : WideMaps.KeyLaw pr kt) (hl : keyOf pr kt s = some l) (ht : pr.underlying t = some (.map kt e)) (hz : zeroOf pr e = some zv)
  (hb : w.heap[r]? = some (.map arr clock)) (hf : (Instr.findKey kt s arr.toList).run pr w = .ok q w) :
  (Instr.lookup t (.map (some r)) s false).run pr w = .ok (match q with | some (_, v) => v | none => zv) w := by
 have h2 := hK.check w arr.isEmpty hl
 have h3 := MapKept.run_getObj_map (P := pr) hb
 cases q with
 | none => simp [Instr.lookup, run_underlying ht, Result.andThen, hf, h2, h3, run_zero hz]
 | some p => obtain ⟨i, v⟩ := p; simp [Instr.lookup, run_underlying ht, Result.andThen, hf, h2, h3]
/-- a new map. -/
theorem g_makeMap {t : TypeId} (k : AWops pr x ops rest K0 ((st.heap (st.H ++ [some (.map true (mapG kf b f ([] : List (K × V))))])).put dst (.one (.mp st.H.length)))) :
  AWops pr x ops (⟨dst, .makeMap t none, ty, pos, aft, none⟩ :: rest) K0 st :=
 AWops.of_run rfl (fun a w S g hs => ⟨.map (some w.heap.size), _, _, S, _, by
  have := (rfl : (Instr.makeMap t none).run pr w = .ok (.map (some w.heap.size)) (w.alloc (.map #[] 0)))
  simp only [execOp, Sem.run_bind, this, Result.andThen]
  rfl, (hs.newMap (fr := true)).put dst (.t (.one (.mp gnew_at))), k⟩)
def gput (i : Nat) (u : V) (m : List (K × V)) : List (K × V) := match m[i]? with
 | some e => m.set i (e.1, u)
 | none => m
/-- an entry's value is set, by its stamp. -/
theorem g_entryStore {t : TypeId} {y s vv : Operand} {tk : Nat} {n : Int} {u : V} {f1 : Bool} {H' : List (Option AObj)}
  (hb1 : b = false → (f u).length = 1) (hy : st.val y = .one (.mp tk)) (hl : st.H[tk]? = some (some (.map true (mapG kf b f m)))) (hs1 : st.val s = .one (.p f1 (.v (.int .i64 n)))) (hvv : st.val vv = dV b (f u)) (hg : decide (0 ≤ n ∧ n < (m.length : Int)) = true)
  (hH : st.H.set tk (some (.map true (mapG kf b f (gput n.toNat u m)))) = H') (k : AWops pr x ops rest K0 (st.heap H')) : AWops pr x ops (⟨none, .entryStore t y s vv, ty, pos, aft, none⟩ :: rest) K0 st :=
 AWops.of_skip rfl (fun a w S g hs => by
  subst hH
  rw [decide_eq_true_eq] at hg
  have e1 := (hs1 ▸ hs.val s).of_v
  have hyv := hy ▸ hs.val y
  have hvv' := VRel.ofD hb1 (hvv ▸ hs.val vv)
  have hv : CRel w S x.base g (a.eval y) (.mp tk) := by
   generalize a.eval y = q at hyv
   cases hyv with | t h => cases h with | one h => exact h
  have hl' : Live st.H tk (.map true (mapG kf b f m)) := hl
  obtain ⟨bk, arr, clock, h1, h2, h3, ⟨h4, h5⟩, h6⟩ := hs.mapAt hl'
  obtain ⟨hx1, hx2⟩ := h2 rfl
  have hyb : a.eval y = .map (some bk) := by
   generalize a.eval y = v at hv ⊢
   cases hv with
   | mp hgg => rw [h1] at hgg; cases hgg; rfl
  have hml : (mapG kf b f m).length = m.length := by simp [mapG]
  have hi : n.toNat < arr.size := by omega
  have him : n.toNat < m.length := by omega
  have hfi : arr.findIdx? (fun e => (e.born : Int) == n) = some n.toNat := by
   rw [Array.findIdx?_eq_some_iff_getElem]
   refine ⟨hi, ?_, fun j hj => ?_⟩
   ·rw [hx2 _ hi]; simp; omega
   ·rw [hx2 j (by omega)]; simp; omega
  have hgp : gput n.toNat u m = m.set n.toNat (m[n.toNat].1, u) := by
   unfold gput
   rw [List.getElem?_eq_getElem him]
  have hrun : (Instr.entryStore t (.map (some bk)) (.int .i64 n) (a.eval vv)).run pr w = .ok () { w with heap := w.heap.setIfInBounds bk (.map (arr.modify n.toNat fun e => { e with val := a.eval vv }) clock) } := by
   have hgo := MapKept.run_getObj_map (P := pr) h3
   have hso := MapKept.run_setObj_map (P := pr) (.map (arr.modify n.toNat fun e => { e with val := a.eval vv }) clock) h3
   simp [Instr.entryStore, Result.andThen, hgo, asInt, asIntOf, hfi, hso]
  refine ⟨_, _, S, g, ?_, hs.writeMapX hl' h1 h3 (arr.modify n.toNat fun e => { e with val := a.eval vv }) clock (es' := mapG kf b f (gput n.toNat u m)) ?_ (stamped_modify h5 _ _ (fun _ _ => rfl) (fun _ _ _ => rfl)) ?_ ?_, k⟩
  ·simp only [execOp, e1, hyb, Sem.run_bind, hrun, Result.andThen]
   rfl
  ·rw [hgp]; simpa [mapG] using h4
  ·intro _
   exact ⟨by simpa using hx1, fun i hi2 => by
    rw [Array.getElem_modify]
    split
    ·exact hx2 i (by simpa using hi2)
    ·exact hx2 i (by simpa using hi2)⟩
  ·intro i hi1 hi2
   have hia : i < arr.size := by simpa using hi2
   have hm : mapG kf b f (m.set n.toNat (m[n.toNat].1, u)) = (mapG kf b f m).set n.toNat (kvs kf m[n.toNat].1, b, f u) := by simp [mapG, List.map_set]
   have hold := h6 i (by omega) hia
   simp only [hgp, Array.getElem_modify, hm, List.getElem_set]
   by_cases hij : n.toNat = i
   ·subst hij
    rw [if_pos rfl, if_pos rfl]
    refine ⟨?_, hvv'⟩
    have := hold.1
    simp only [mapG, List.getElem_map] at this
    exact this
   ·rw [if_neg hij, if_neg hij]; exact hold)
variable [DecidableEq K]
theorem glookup_rel {z : V} {t kt e : TypeId} {tk : Nat} {k : K} {zv : Value} {zs : List Value} (hK : KOK pr kt kf ok) (ht : pr.underlying t = some (.map kt e)) (hz : zeroOf pr e = some zv)
  (hzv : zv = if b then .agg zs.toArray else zs.getD 0 undef) (hz1 : b = false → zs.length = 1) (hzz : All2 ZRel zs (f z)) (hl : Live st.H tk (.map true (mapG kf b f m))) (hg1 : ok k = true) (hg2 : okM ok m = true) (hs : Sim x st a w S g) {v : Value} (hv : CRel w S x.base g v (.mp tk)) :
  ∃ u, (Instr.lookup t v (kvs kf k) false).run pr w = .ok u w ∧ VRel w S x.base b u (f ((gget k m).getD z)) := by
 obtain ⟨bk, arr, clock, h1, h2, h3, ⟨h4, h5⟩, h6⟩ := hs.mapAt hl
 obtain ⟨l, hkl⟩ := hK.key k hg1
 cases hv with
 | mp hgg =>
  rw [h1] at hgg
  cases hgg
  rcases find_g hK w hg1 (grel_keys h4 h6) hg2 with ⟨a1, a2, _⟩ | ⟨j, e', v, a1, a2, a3, a4, a5, _⟩
  ·exact ⟨zv, run_glookup hK.law hkl ht hz h3 a1, by rw [a2]; exact vrel_zero hzv hz1 hzz⟩
  ·exact ⟨e'.val, run_glookup hK.law hkl ht hz h3 a1, by rw [a5]; exact grel_val h6 (by simpa using a2) a4⟩
theorem g_lookup {z : V} {t kt e : TypeId} {y kk : Operand} {tk : Nat} {k : K} {zv : Value} {zs : List Value} {d : D} (hK : KOK pr kt kf ok) (hp : ∀ p ∈ kf k, ∃ y, p = .v y) (ht : pr.underlying t = some (.map kt e)) (hz : zeroOf pr e = some zv)
  (hzv : zv = if b then .agg zs.toArray else zs.getD 0 undef) (hz1 : b = false → zs.length = 1) (hzz : All2 ZRel zs (f z)) (hy : st.val y = .one (.mp tk)) (hl : st.H[tk]? = some (some (.map true (mapG kf b f m)))) (hkk : st.val kk = .agg ((kf k).map mkC))
  (hg : (ok k && okM ok m) = true) (hd : dV b (f ((gget k m).getD z)) = d) (kt' : AWops pr x ops rest K0 (st.put dst d)) : AWops pr x ops (⟨dst, .lookup t y kk false, ty, pos, aft, none⟩ :: rest) K0 st :=
 AWops.pure _ (fun a w S g hs => by
  subst hd
  rw [Bool.and_eq_true] at hg
  have e1 : a.eval kk = kvs kf k := key_of hp (hkk ▸ hs.val kk)
  have hyv := hy ▸ hs.val y
  obtain ⟨u, hu, hr⟩ := glookup_rel (k := k) hK ht hz hzv hz1 hzz hl hg.1 hg.2 hs (v := a.eval y) (by
   generalize a.eval y = q at hyv
   cases hyv with | t h => cases h with | one h => exact h)
  refine ⟨u, ?_, .t hr.toT⟩
  simp only [execOp, e1, Sem.run_bind, hu, Result.andThen]
  rfl) kt'
/-- .. of a key that is not there: nil. -/
theorem g_lookupNil {t kt e : TypeId} {y kk : Operand} {tk : Nat} {k : K} (hK : KOK pr kt kf ok) (hp : ∀ p ∈ kf k, ∃ y, p = .v y) (ht : pr.underlying t = some (.map kt e)) (hz : zeroOf pr e = some (.slice none 0 0))
  (hy : st.val y = .one (.mp tk)) (hl : st.H[tk]? = some (some (.map true (mapG kf b f m)))) (hkk : st.val kk = .agg ((kf k).map mkC))
  (hg : (ok k && okM ok m) = true) (hn : (gget k m).isSome = false) (kt' : AWops pr x ops rest K0 (st.put dst (sc (.slice none 0 0)))) : AWops pr x ops (⟨dst, .lookup t y kk false, ty, pos, aft, none⟩ :: rest) K0 st :=
 AWops.pure _ (fun a w S g hs => by
  rw [Bool.and_eq_true] at hg
  have e1 : a.eval kk = kvs kf k := key_of hp (hkk ▸ hs.val kk)
  have hyv := hy ▸ hs.val y
  have hv : CRel w S x.base g (a.eval y) (.mp tk) := by
   generalize a.eval y = q at hyv
   cases hyv with | t h => cases h with | one h => exact h
  have : (Instr.lookup t (a.eval y) (kvs kf k) false).run pr w = .ok (.slice none 0 0) w := by
   generalize a.eval y = v at hv ⊢
   obtain ⟨bk, arr, clock, h1, h2, h3, ⟨h4, h5⟩, h6⟩ := hs.mapAt hl
   obtain ⟨l, hkl⟩ := hK.key k hg.1
   cases hv with
   | mp hgg =>
    rw [h1] at hgg
    cases hgg
    rcases find_g hK w hg.1 (grel_keys h4 h6) hg.2 with ⟨a1, a2, _⟩ | ⟨j, e', v, a1, a2, a3, a4, a5, _⟩
    ·exact run_glookup hK.law hkl ht hz h3 a1
    ·rw [a5] at hn; cases hn
  refine ⟨_, ?_, .t (.one (.p (.v _ rfl)))⟩
  simp only [execOp, e1, Sem.run_bind, this, Result.andThen]
  rfl) kt'
/-- the place of a key that was not there: a new entry of the zero value, and its stamp. -/
theorem g_entryNew {t kt e : TypeId} {y kk : Operand} {tk : Nat} {k : K} {z : V} {H' : List (Option AObj)} (hK : KOK pr kt kf ok) (hp : ∀ p ∈ kf k, ∃ y, p = .v y) (ht : pr.underlying t = some (.map kt e)) (hz : zeroOf pr e = some (.slice none 0 0)) (hfz : f z = [.sl 0 []])
  (hy : st.val y = .one (.mp tk)) (hl : st.H[tk]? = some (some (.map true (mapG kf false f m)))) (hkk : st.val kk = .agg ((kf k).map mkC)) (hg : (ok k && okM ok m) = true) (hn : (gget k m).isSome = false)
  (hH : st.H.set tk (some (.map true (mapG kf false f (gset k z m)))) = H') (k' : AWops pr x ops rest K0 ((st.heap H').put dst (.tup [sc (.slice none 0 0), sc (.int .i64 ((m.length : Nat) : Int))]))) : AWops pr x ops (⟨dst, .mapEntry t y kk, ty, pos, aft, none⟩ :: rest) K0 st :=
 AWops.of_run rfl (fun a w S g hs => by
  subst hH
  rw [Bool.and_eq_true] at hg
  have e1 : a.eval kk = kvs kf k := key_of hp (hkk ▸ hs.val kk)
  have hyv := hy ▸ hs.val y
  have hv : CRel w S x.base g (a.eval y) (.mp tk) := by
   generalize a.eval y = q at hyv
   cases hyv with | t h => cases h with | one h => exact h
  have hl' : Live st.H tk (.map true (mapG kf false f m)) := hl
  obtain ⟨bk, arr, clock, h1, h2, h3, ⟨h4, h5⟩, h6⟩ := hs.mapAt hl'
  obtain ⟨hx1, hx2⟩ := h2 rfl
  obtain ⟨l, hkl⟩ := hK.key k hg.1
  have hyb : a.eval y = .map (some bk) := by
   generalize a.eval y = v at hv ⊢
   cases hv with
   | mp hgg => rw [h1] at hgg; cases hgg; rfl
  have hml : (mapG kf false f m).length = m.length := by simp [mapG]
  rcases find_g hK w hg.1 (grel_keys h4 h6) hg.2 with ⟨a1, a2, a3, a4⟩ | ⟨j, e', v, a1, a2, a3, a4, a5, _⟩
  ·obtain rfl : clock = m.length := by omega
   have hrun : (Instr.mapEntry t (.map (some bk)) (kvs kf k)).run pr w = .ok (.tuple #[.slice none 0 0, .int .i64 ((m.length : Nat) : Int)]) { w with heap := w.heap.setIfInBounds bk (.map (arr.push { key := kvs kf k, val := .slice none 0 0, born := m.length }) (m.length + 1)) } := by
    have hc := hK.law.check w false hkl
    have hgo := MapKept.run_getObj_map (P := pr) h3
    have hso := MapKept.run_setObj_map (P := pr) (.map (arr.push { key := kvs kf k, val := .slice none 0 0, born := m.length }) (m.length + 1)) h3
    simp [Instr.mapEntry, run_underlying ht, Result.andThen, hc, hgo, a1, hso, run_zero hz, goInt]
   have hsim := hs.writeMapX hl' h1 h3 (arr.push { key := kvs kf k, val := .slice none 0 0, born := m.length }) (m.length + 1) (es' := mapG kf false f (gset k z m)) (by rw [a3]; simpa [mapG] using h4) (stamped_push h5 a4)
    (fun _ => ⟨by simp; omega, fun i hi => by
     by_cases hlt : i < arr.size
     ·rw [Array.getElem_push_lt hlt]; exact hx2 i hlt
     ·have hi2 : i = arr.size := by simp at hi; omega
      subst hi2
      rw [Array.getElem_push_eq]; exact hx1⟩)
    (fun i hi hi' => by
     simp only [a3]
     have hm : (mapG kf false f (m ++ [(k, z)])) = mapG kf false f m ++ [(kvs kf k, false, f z)] := by simp [mapG]
     by_cases hlt : i < arr.size
     ·have := h6 i (by omega) hlt
      rw [Array.getElem_push_lt hlt]
      simp only [hm, List.getElem_append_left (by omega : i < (mapG kf false f m).length)]
      exact this
     ·have hi2 : i = arr.size := by simp at hi'; omega
      subst hi2
      rw [Array.getElem_push_eq]
      simp only [hm, List.getElem_append_right (by omega : (mapG kf false f m).length ≤ arr.size)]
      have : arr.size - (mapG kf false f m).length = 0 := by omega
      simp only [this, List.getElem_cons_zero]
      rw [hfz]
      exact ⟨rfl, [.slice none 0 0], rfl, fun _ => rfl, rfl, fun j hj hj' => by
       have : j = 0 := by simp at hj; omega
       subst this; exact .nil _ _⟩)
   refine ⟨_, _, _, S, g, ?_, hsim.put dst (.tup [.slice none 0 0, .int .i64 ((m.length : Nat) : Int)] rfl fun i hi hi' => ?_), k'⟩
   ·simp only [execOp, e1, hyb, Sem.run_bind, hrun, Result.andThen]
    rfl
   ·match i, hi with
    | 0, _ => exact .one (.p (.v _ rfl))
    | 1, _ => exact .one (.p (.v _ rfl))
  ·rw [a5] at hn; cases hn)
end
end Go.Abs
