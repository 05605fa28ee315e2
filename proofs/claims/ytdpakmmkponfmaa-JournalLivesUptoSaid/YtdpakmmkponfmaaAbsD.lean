import Derived.Test.YtdpakmmkponfmaaAbsC
set_option linter.unusedVariables false
set_option linter.unusedSimpArgs false
namespace Go.Abs

def isAggD : TypeDesc → Bool
 | .struct _ | .array _ _ => true
 | _ => false
def szOf (pr : Program) (t : TypeId) : Option Nat := (pr.info? t).map (·.size)
def byOf (pr : Program) (t : TypeId) : Option Nat := (pr.info? t).map (·.bytes)
def zeroOf (pr : Program) (t : TypeId) : Option Value := (pr.info? t).bind (·.zero)
def aggOf (pr : Program) (t : TypeId) : Option Bool := (pr.underlying t).map isAggD
def fieldOf (pr : Program) (s : TypeId) (k : Nat) : Option (Nat × Nat × Bool) :=
 match pr.underlying s with
 | some (.struct fs) => (fs[k]?).bind fun f => (szOf pr f.type).bind fun n => (aggOf pr f.type).map fun b => (f.offset, n, b)
 | _ => none

section
variable {pr : Program} {w : World}
theorem run_size {t : TypeId} {n : Nat} (h : szOf pr t = some n) : (sizeOf t).run pr w = .ok n w := by
 unfold szOf at h
 cases hi : pr.info? t with
 | none => rw [hi] at h; cases h
 | some i => rw [hi] at h; simp at h; simp [sizeOf, typeInfo, hi, h]

theorem run_agg {t : TypeId} {b : Bool} (h : aggOf pr t = some b) : (isAgg t).run pr w = .ok b w := by
 unfold aggOf at h
 cases hi : pr.underlying t with
 | none => rw [hi] at h; cases h
 | some d => rw [hi] at h; simp at h; subst h; cases d <;> simp [isAgg, run_underlying hi, isAggD]

theorem run_zero {t : TypeId} {v : Value} (h : zeroOf pr t = some v) : (zeroValue t).run pr w = .ok v w := by
 unfold zeroOf at h
 cases hi : pr.info? t with
 | none => rw [hi] at h; cases h
 | some i => rw [hi] at h; simp at h; simp [zeroValue, typeInfo, hi, h]
end

/-- values over what they are told as, place by place. -/
def Pts (R : Value → C → Prop) (l : List Value) (cs : List C) : Prop := ∀ (j : Nat) (c : C), cs[j]? = some c → ∃ v, l[j]? = some v ∧ R v c

section
variable {R : Value → C → Prop} {l l' : List Value} {cs ds : List C}
theorem Pts.nil : Pts R l [] := fun j c h => by simp at h
theorem Pts.len (h : Pts R l cs) : cs.length ≤ l.length := by
 apply Classical.byContradiction; intro hn
 have hlt : l.length < cs.length := by omega
 obtain ⟨v, hv, _⟩ := h l.length _ (List.getElem?_eq_getElem hlt)
 simp at hv
theorem Pts.append (h : Pts R l cs) (k : Pts R l' ds) (hl : l.length = cs.length) : Pts R (l ++ l') (cs ++ ds) := by
 intro j c hj
 rw [List.getElem?_append] at hj ⊢
 split at hj
 ·rename_i hlt
  rw [if_pos (by omega)]; exact h j c hj
 ·rw [if_neg (by omega), hl]; exact k _ c hj
theorem Pts.appendr (h : Pts R l cs) : Pts R (l ++ l') cs := by
 intro j c hj
 obtain ⟨v, hv, hr⟩ := h j c hj
 exact ⟨v, by rw [List.getElem?_append_left (List.getElem?_eq_some_iff.mp hv).1]; exact hv, hr⟩
theorem Pts.take (h : Pts R l cs) (n : Nat) : Pts R (l.take n) (cs.take n) := by
 intro j c hj
 rw [List.getElem?_take] at hj
 split at hj
 ·rename_i hlt
  obtain ⟨v, hv, hr⟩ := h j c hj
  exact ⟨v, by rw [List.getElem?_take, if_pos hlt]; exact hv, hr⟩
 ·cases hj
theorem Pts.drop (h : Pts R l cs) (n : Nat) : Pts R (l.drop n) (cs.drop n) := by
 intro j c hj
 rw [List.getElem?_drop] at hj ⊢
 exact h _ c hj
theorem Pts.imp {R' : Value → C → Prop} (h : Pts R l cs) (hi : ∀ v c, R v c → R' v c) : Pts R' l cs := fun j c hj => let ⟨v, hv, hr⟩ := h j c hj; ⟨v, hv, hi v c hr⟩
theorem Pts.of_le (h : ∀ i (h : i < cs.length) (h' : i < l.length), R (l[i]'h') (cs[i]'h)) (hl : cs.length ≤ l.length) : Pts R l cs := by
 intro j c hj
 obtain ⟨hlt, rfl⟩ := List.getElem?_eq_some_iff.mp hj
 exact ⟨l[j]'(by omega), List.getElem?_eq_getElem (by omega), h j hlt (by omega)⟩
theorem Pts.get (h : Pts R l cs) : ∀ i (h : i < cs.length) (h' : i < l.length), R (l[i]'h') (cs[i]'h) := by
 intro i hi hi'
 obtain ⟨v, hv, hr⟩ := h i _ (List.getElem?_eq_getElem hi)
 rw [List.getElem?_eq_getElem hi'] at hv
 exact Option.some.inj hv ▸ hr
theorem Pts.arr {arr : Array Value} (h : ∀ j (h : j < cs.length), R (arr.getD j undef) (cs[j]'h)) (hl : cs.length ≤ arr.size) : Pts R arr.toList cs := by
 refine Pts.of_le (fun i hi hi' => ?_) (by simpa using hl)
 have := h i hi
 rw [Array.getD_eq_getD_getElem?, Array.getElem?_eq_getElem (by simpa using hi')] at this
 simpa using this
theorem Pts.arrO {arr : Array Value} {o : Nat} (h : ∀ j (h : j < cs.length), R (arr.getD (o + j) undef) (cs[j]'h)) (hl : o + cs.length ≤ arr.size) : Pts R (arr.toList.drop o) cs := by
 refine Pts.of_le (fun i hi hi' => ?_) (by simp; omega)
 have := h i hi
 have h2 : o + i < arr.size := by omega
 rw [Array.getD_eq_getD_getElem?, Array.getElem?_eq_getElem h2] at this
 simpa using this
theorem Pts.toArrO {arr : Array Value} {o : Nat} (h : Pts R (arr.toList.drop o) cs) : ∀ j (h : j < cs.length), R (arr.getD (o + j) undef) (cs[j]'h) := by
 intro j hj
 obtain ⟨v, hv, hr⟩ := h j _ (List.getElem?_eq_getElem hj)
 rw [List.getElem?_drop] at hv
 have : arr[o + j]? = some v := by simpa using hv
 rw [Array.getD_eq_getD_getElem?, this]; exact hr
theorem Pts.toArr {arr : Array Value} (h : Pts R arr.toList cs) : ∀ j (h : j < cs.length), R (arr.getD j undef) (cs[j]'h) := by
 intro j hj
 obtain ⟨v, hv, hr⟩ := h j _ (List.getElem?_eq_getElem hj)
 have : arr[j]? = some v := by simpa using hv
 rw [Array.getD_eq_getD_getElem?, this]; exact hr
end

def splice {α : Type} (cs : List α) (o : Nat) (ds : List α) : List α := cs.take o ++ ds ++ cs.drop (o + ds.length)

theorem Pts.splice {R : Value → C → Prop} {l vs : List Value} {cs ds : List C} (h : Pts R l cs) (k : Pts R vs ds) (hv : vs.length = ds.length) (o : Nat) (ho : o + ds.length ≤ cs.length) :
  Pts R (l.take o ++ vs ++ l.drop (o + vs.length)) (Abs.splice cs o ds) := by
 have hl := h.len
 unfold Abs.splice
 rw [hv]
 refine Pts.append (Pts.append (h.take o) k ?_) (h.drop _) ?_
 ·simp only [List.length_take]; omega
 ·simp only [List.length_append, List.length_take]; omega

def D.cells : D → List C
 | .one c => [c]
 | .agg cs => cs
 | .tup _ => []

/-- plain data as a cell: what is no scalar is not told as fresh. -/
def mkC : P → C
 | .v x => .p true (.v x)
 | .sl n cs => .p false (.sl n cs)
 | .fsl m n cs => .p false (.fsl m n cs)
 | .fptr m p => .p false (.fptr m p)

def normC : C → C
 | .p _ p => mkC p
 | c => c

theorem CRel.norm {w : World} {S : Nat → Prop} {base : Nat} {g : G} {x : Value} {c : C} (h : CRel w S base g x c) : CRel w S base g x (normC c) := by
 cases h with
 | @p f x p h =>
  cases p with
  | v y => cases h with | v _ h1 => exact .p (.v _ h1)
  | sl n cs => exact .p (h.weak fun b hb => ⟨hb.1, fun h => by cases h⟩)
  | fsl m n cs => exact .p (h.weak fun b hb => ⟨hb.1, fun h => by cases h⟩)
  | fptr m p => exact .p (h.weak fun b hb => ⟨hb.1, fun h => by cases h⟩)
 | own hg hn hN => exact .own hg hn hN
 | own0 a hg => exact .own0 a hg
 | ref hg ho => exact .ref hg ho
 | er hg => exact .er hg
 | cut hg hn hN ho => exact .cut hg hn hN ho
 | opt1 hg ho => exact .opt1 hg ho
 | opt0 => exact .opt0
 | peek b o ps us hb hc hr => exact .peek b o ps us hb hc hr
 | mp hg => exact .mp hg
 | clo vs hs h => exact .clo vs hs h
 | top x => exact .top x

theorem Pts.norm {w : World} {S : Nat → Prop} {base : Nat} {g : G} {l : List Value} {cs : List C} (h : Pts (CRel w S base g) l cs) : Pts (CRel w S base g) l (cs.map normC) := by
 intro j c hj
 rw [List.getElem?_map] at hj
 cases hc : cs[j]? with
 | none => rw [hc] at hj; cases hj
 | some c0 =>
  rw [hc] at hj
  cases hj
  obtain ⟨v, hv, hr⟩ := h j c0 hc
  exact ⟨v, hv, hr.norm⟩

def noTop : List C → Bool
 | [] => true
 | c :: cs => !c.isTop && noTop cs

theorem noTop_iff {cs : List C} : noTop cs = true ↔ ∀ c ∈ cs, c.isTop = false := by
 induction cs with
 | nil => simp [noTop]
 | cons c cs ih => simp [noTop, ih]

theorem noTop_map (fr : Bool) (ps : List P) : noTop (ps.map (C.p fr)) = true := by
 rw [noTop_iff]; intro c hc; simp at hc; obtain ⟨_, _, rfl⟩ := hc; rfl

theorem noTop_append {cs ds : List C} : noTop (cs ++ ds) = (noTop cs && noTop ds) := by
 induction cs with
 | nil => simp [noTop]
 | cons c cs ih => simp [noTop, ih, Bool.and_assoc]

section
variable {pr : Program} {x : Ctx} {K : Exit → St → Prop} {st : St} {a : Act} {w : World} {S : Nat → Prop} {g : G}

theorem oneCell_cells {v : Value} (h : v.oneCell' = true) : v.cells = [v].toArray := by cases v <;> first | rfl | cases h

/-- a value's cells. -/
theorem DRel.cells {v : Value} {d : D} (h : DRel w S x.base g v d) (hd : d.cells ≠ []) (ht : noTop d.cells = true) :
  ∃ vs : List Value, v.cells = vs.toArray ∧ vs.length = d.cells.length ∧ Pts (CRel w S x.base g) vs d.cells ∧ ∀ v ∈ vs, v.oneCell' = true := by
 cases h with
 | t h =>
  cases h with
  | one h =>
   have h1 := h.oneCell (by simpa [D.cells, noTop] using ht)
   exact ⟨[v], oneCell_cells h1, rfl, fun j c hj => by cases j <;> simp [D.cells] at hj; subst hj; exact ⟨v, rfl, h⟩, fun u hu => by simp at hu; subst hu; exact h1⟩
  | agg vs hs h =>
   refine ⟨vs, rfl, hs, Pts.of_le h (by simp only [D.cells]; omega), fun u hu => ?_⟩
   obtain ⟨i, hi, rfl⟩ := List.mem_iff_getElem.mp hu
   exact (h i (by omega) hi).oneCell (noTop_iff.mp ht _ (List.getElem_mem _))
 | tup vs hs h => exact absurd rfl hd

/-- what stands at an address. -/
def St.at (st : St) : D → Option (List C)
 | .one (.ref t off) =>
  match st.H[t]? with
  | some (some (.cells _ cs)) => some (cs.drop off)
  | _ => none
 | .one (.er t off) =>
  match st.H[t]? with
  | some (some (.cells _ cs)) => some (cs.drop off)
  | _ => none
 | .one (.peek fr ps) => some (ps.map (C.p fr))
 | _ => none

theorem add_addr (b o j : Nat) : (⟨b, o, none⟩ : Addr).add j = ⟨b, o + j, none⟩ := by unfold Addr.add; split <;> simp_all

theorem cell_row {b : Nat} {N : RI} {arr : Array Value} {e : TypeId} (hb : w.heap[b]? = some (.cells arr e)) (i : Nat) : w.cell? ⟨b, i, none⟩ = arr.toList[i]? := by
 simp [World.cell?, hb]

theorem Sim.at (hs : Sim x st a w S g) {v : Value} {d : D} {cs : List C} (hv : DRel w S x.base g v d) (h : st.at d = some cs) :
  ∃ b o, v = .pointer (some ⟨b, o, none⟩) ∧ ∃ vs : List Value, vs.length = cs.length ∧ Pts (CRel w S x.base g) vs cs ∧ ∀ j u, vs[j]? = some u → w.cell? ⟨b, o + j, none⟩ = some u := by
 match d, h with
 | .one (.ref t off), h =>
  cases hv with
  | t hv =>
   cases hv with
   | one hv =>
    cases hv with
    | @ref _ b N _ hg ho =>
     simp only [St.at] at h
     split at h
     ·rename_i fr cs0 hl
      obtain ⟨_, arr, e, hb, ha, hle, hc⟩ := hs.row hl hg
      have hp := Pts.arrO hc (by omega)
      have := Option.some.inj h
      subst this
      refine ⟨b, off, rfl, ((arr.toList.drop N.o).drop off).take (cs0.length - off), ?_, ?_, ?_⟩
      ·simp; omega
      ·have := (hp.drop off).take (cs0.length - off)
       rwa [List.take_of_length_le (l := cs0.drop off) (by simp)] at this
      ·intro j u hj
       rw [List.getElem?_take] at hj
       split at hj
       ·rw [List.getElem?_drop, List.getElem?_drop] at hj
        rw [cell_row (N := N) hb, show off + j = N.o + (off + j) by omega]; exact hj
       ·cases hj
     ·cases h
 | .one (.er t off), h =>
  cases hv with
  | t hv =>
   cases hv with
   | one hv =>
    cases hv with
    | @er _ b N _ hg =>
     simp only [St.at] at h
     split at h
     ·rename_i fr cs0 hl
      obtain ⟨_, arr, e, hb, ha, hle, hc⟩ := hs.row hl hg
      have hp := Pts.arrO hc (by omega)
      have := Option.some.inj h
      subst this
      refine ⟨b, N.o + off, rfl, ((arr.toList.drop N.o).drop off).take (cs0.length - off), ?_, ?_, ?_⟩
      ·simp; omega
      ·have := (hp.drop off).take (cs0.length - off)
       rwa [List.take_of_length_le (l := cs0.drop off) (by simp)] at this
      ·intro j u hj
       rw [List.getElem?_take] at hj
       split at hj
       ·rw [List.getElem?_drop, List.getElem?_drop] at hj
        rw [cell_row (N := N) hb, show N.o + off + j = N.o + (off + j) by omega]; exact hj
       ·cases hj
     ·cases h
 | .one (.peek fr ps), h =>
  cases hv with
  | t hv =>
   cases hv with
   | one hv =>
    cases hv with
    | peek b o ps us hb hc hr =>
     simp only [St.at] at h
     have := Option.some.inj h
     subst this
     refine ⟨b, o, rfl, (List.range ps.length).map us, by simp, ?_, ?_⟩
     ·intro j c hj
      simp at hj
      obtain ⟨p, hp, rfl⟩ := hj
      obtain ⟨hlt, rfl⟩ := List.getElem?_eq_some_iff.mp hp
      exact ⟨us j, by simp [hlt], .p (hr j hlt)⟩
     ·intro j u hj
      have hlt : j < ps.length := by have := (List.getElem?_eq_some_iff.mp hj).1; simpa using this
      rw [List.getElem?_map, List.getElem?_range hlt] at hj
      exact Option.some.inj hj ▸ hc j hlt

theorem run_loadCells_pts {b o : Nat} {vs : List Value} (h : ∀ j u, vs[j]? = some u → w.cell? ⟨b, o + j, none⟩ = some u) {n : Nat} (hn : n ≤ vs.length) :
  (loadCells ⟨b, o, none⟩ n).run pr w = .ok (vs.take n).toArray w := by
 have hl : (vs.take n).length = n := by simp; omega
 have := run_loadCells_list (P := pr) w ⟨b, o, none⟩ (vs.take n) (fun j u hj => by
  rw [add_addr]
  rw [List.getElem?_take] at hj
  split at hj
  ·exact h j u hj
  ·cases hj)
 rwa [hl] at this

variable {ops : Array Oper} {rest : List Oper} {dst : Option Tmp} {ty : TypeId} {pos : String} {aft : Array Edge}

theorem s_load1 {t : TypeId} {y : Operand} {c : C} {cs : List C} (ha : aggOf pr t = some false) (hat : st.at (st.val y) = some (c :: cs)) {c' : C} (hc : normC c = c') (k : AWops pr x ops rest K (st.put dst (.one c'))) :
  AWops pr x ops (⟨dst, .load t y, ty, pos, aft, none⟩ :: rest) K st :=
 AWops.pure _ (fun a w S g hs => by
  subst hc
  obtain ⟨b, o, hv, vs, hl, hp, hc⟩ := hs.at (hs.val y) hat
  obtain ⟨u, hu, hr⟩ := hp 0 c rfl
  have h0 := hc 0 u hu
  refine ⟨u, ?_, .t (.one hr.norm)⟩
  simp only [Nat.add_zero] at h0
  simp [execOp, hv, Instr.loadAt, Instr.sureAddr, loadVar, run_agg ha, h0]) k

theorem s_loadN {t : TypeId} {y : Operand} {n : Nat} {cs ds : List C} (ha : aggOf pr t = some true) (hz : szOf pr t = some n) (hat : st.at (st.val y) = some cs) (hd : (cs.take n).map normC = ds) (hn : ds.length = n)
  (k : AWops pr x ops rest K (st.put dst (.agg ds))) : AWops pr x ops (⟨dst, .load t y, ty, pos, aft, none⟩ :: rest) K st :=
 AWops.pure _ (fun a w S g hs => by
  obtain ⟨b, o, hv, vs, hl, hp, hc⟩ := hs.at (hs.val y) hat
  have hle : n ≤ vs.length := by rw [hl]; rw [← hd] at hn; simp at hn; omega
  refine ⟨.agg (vs.take n).toArray, ?_, .t (.agg _ ?_ ?_)⟩
  ·simp [execOp, hv, Instr.loadAt, Instr.sureAddr, loadVar, run_agg ha, run_size hz, run_loadCells_pts hc hle]
  ·simp [hn]; omega
  ·subst hd; exact (hp.take n).norm.get) k

theorem s_store {t : TypeId} {p z : Operand} {o off : Nat} {fr : Bool} {cs ds cs' : List C} (hp : st.val p = .one (.ref o off)) (hl : st.H[o]? = some (some (.cells fr cs)))
  (hd : (st.val z).cells = ds) (hne : ds ≠ []) (hnt : noTop ds = true) (hz : szOf pr t = some ds.length) (hoff : off + ds.length ≤ cs.length) (hcs : splice cs off ds = cs')
  (k : AWops pr x ops rest K (st.heap (st.H.set o (some (.cells fr cs'))))) : AWops pr x ops (⟨none, .store t p z, ty, pos, aft, none⟩ :: rest) K st :=
 AWops.of_skip rfl (fun a w S g hs => by
  subst hd hcs
  obtain ⟨vs, hv, hlen, hpt, h1⟩ := (hs.val z).cells hne hnt
  have hp' := hp ▸ hs.val p
  generalize hq : a.eval p = q at hp'
  cases hp' with
  | t hp' =>
   cases hp' with
   | one hp' =>
    cases hp' with
    | @ref _ b N _ hg ho =>
     obtain ⟨_, arr, e, hb, ha, hle, hc⟩ := hs.row hl hg
     have hst := run_storeCells_at pr b off e vs 0 arr w hb (by omega) h1
     simp only [Nat.add_zero] at hst
     have hoo : N.o + off = off := by omega
     rw [← hoo] at hst
     have hpts := Pts.splice (Pts.arrO hc (by omega)) hpt hlen off hoff
     refine ⟨_, _, S, g, ?_, hs.writeRow hl hg (arr.toList.take (N.o + off) ++ vs ++ arr.toList.drop (N.o + off + vs.length)).toArray ?_ ?_ ?_, k⟩
     ·rw [hoo] at hst ⊢; simp [execOp, hq, Instr.storeAt, Instr.sureAddr, storeVar, hv, run_size hz, hlen, hst]
     ·simp; omega
     ·unfold splice; simp; omega
     ·refine Pts.toArrO ?_
      have e2 : (arr.toList.take (N.o + off) ++ vs ++ arr.toList.drop (N.o + off + vs.length)).drop N.o = (arr.toList.drop N.o).take off ++ vs ++ (arr.toList.drop N.o).drop (off + vs.length) := by
       rw [List.append_assoc, List.drop_append_of_le_length (by simp; omega), List.drop_drop, ← List.append_assoc, ← Nat.add_assoc]
       congr 2
       rw [List.take_drop]
      show Pts _ ((_ : List Value).toArray.toList.drop N.o) _
      rw [List.toList_toArray, e2]; exact hpts)

theorem s_storeE {t : TypeId} {p z : Operand} {o off : Nat} {fr : Bool} {cs ds cs' : List C} (hp : st.val p = .one (.er o off)) (hl : st.H[o]? = some (some (.cells fr cs)))
  (hd : (st.val z).cells = ds) (hne : ds ≠ []) (hnt : noTop ds = true) (hz : szOf pr t = some ds.length) (hoff : off + ds.length ≤ cs.length) (hcs : splice cs off ds = cs')
  (k : AWops pr x ops rest K (st.heap (st.H.set o (some (.cells fr cs'))))) : AWops pr x ops (⟨none, .store t p z, ty, pos, aft, none⟩ :: rest) K st :=
 AWops.of_skip rfl (fun a w S g hs => by
  subst hd hcs
  obtain ⟨vs, hv, hlen, hpt, h1⟩ := (hs.val z).cells hne hnt
  have hp' := hp ▸ hs.val p
  generalize hq : a.eval p = q at hp'
  cases hp' with
  | t hp' =>
   cases hp' with
   | one hp' =>
    cases hp' with
    | @er _ b N _ hg =>
     obtain ⟨_, arr, e, hb, ha, hle, hc⟩ := hs.row hl hg
     have hst := run_storeCells_at pr b (N.o + off) e vs 0 arr w hb (by omega) h1
     simp only [Nat.add_zero] at hst
     have hpts := Pts.splice (Pts.arrO hc (by omega)) hpt hlen off hoff
     refine ⟨_, _, S, g, ?_, hs.writeRow hl hg (arr.toList.take (N.o + off) ++ vs ++ arr.toList.drop (N.o + off + vs.length)).toArray ?_ ?_ ?_, k⟩
     ·simp [execOp, hq, Instr.storeAt, Instr.sureAddr, storeVar, hv, run_size hz, hlen, hst]
     ·simp; omega
     ·unfold splice; simp; omega
     ·refine Pts.toArrO ?_
      have e2 : (arr.toList.take (N.o + off) ++ vs ++ arr.toList.drop (N.o + off + vs.length)).drop N.o = (arr.toList.drop N.o).take off ++ vs ++ (arr.toList.drop N.o).drop (off + vs.length) := by
       rw [List.append_assoc, List.drop_append_of_le_length (by simp; omega), List.drop_drop, ← List.append_assoc, ← Nat.add_assoc]
       congr 2
       rw [List.take_drop]
      show Pts _ ((_ : List Value).toArray.toList.drop N.o) _
      rw [List.toList_toArray, e2]; exact hpts)

theorem s_nilCheck {y : Operand} {d : D} (hy : st.val y = d) (hd : (∃ t o, d = .one (.ref t o)) ∨ (∃ f ps, d = .one (.peek f ps)) ∨ (∃ f cs, d = .one (.clo f cs))) (k : AWops pr x ops rest K (st.put dst d)) :
  AWops pr x ops (⟨dst, .nilCheck y, ty, pos, aft, none⟩ :: rest) K st :=
 AWops.pure d (fun a w S g hs => by
  have h := hy ▸ hs.val y
  refine ⟨a.eval y, ?_, h⟩
  generalize hq : a.eval y = q at h
  rcases hd with ⟨t, o, rfl⟩ | ⟨f, ps, rfl⟩ | ⟨f, cs, rfl⟩
  all_goals (cases h with | t h => cases h with | one h => cases h <;> simp [execOp, hq])) k

theorem s_nilCheckE {y : Operand} {t o : Nat} (hy : st.val y = .one (.er t o)) (k : AWops pr x ops rest K (st.put dst (.one (.er t o)))) :
  AWops pr x ops (⟨dst, .nilCheck y, ty, pos, aft, none⟩ :: rest) K st :=
 AWops.pure _ (fun a w S g hs => by
  have h := hy ▸ hs.val y
  refine ⟨a.eval y, ?_, h⟩
  generalize hq : a.eval y = q at h
  cases h with | t h => cases h with | one h => cases h; simp [execOp, hq]) k

/-- a field's address. -/
theorem s_fieldRef {s : TypeId} {y : Operand} {t off f o n : Nat} {b : Bool} (hf : fieldOf pr s f = some (o, n, b)) (hn : n ≠ 0) (hy : st.val y = .one (.ref t off))
  (k : AWops pr x ops rest K (st.put dst (.one (.ref t (off + o))))) : AWops pr x ops (⟨dst, .fieldAddr s y f, ty, pos, aft, none⟩ :: rest) K st :=
 AWops.pure _ (fun a w S g hs => by
  have h := hy ▸ hs.val y
  generalize hq : a.eval y = q at h
  cases h with
  | t h =>
   cases h with
   | one h =>
    cases h with
    | @ref _ bl N _ hg ho =>
     refine ⟨.pointer (some ⟨bl, off + o, none⟩), ?_, .t (.one (.ref hg ho))⟩
     unfold fieldOf at hf
     split at hf
     ·rename_i fs hu
      cases hfk : fs[f]? with
      | none => rw [hfk] at hf; cases hf
      | some fl =>
       rw [hfk] at hf
       simp only [Option.bind_some] at hf
       cases hsz : szOf pr fl.type with
       | none => rw [hsz] at hf; cases hf
       | some n' =>
        rw [hsz] at hf
        simp only [Option.bind_some] at hf
        cases hag : aggOf pr fl.type with
        | none => rw [hag] at hf; cases hf
        | some b' =>
         rw [hag] at hf
         simp at hf
         obtain ⟨rfl, rfl, rfl⟩ := hf
         simp [execOp, hq, Instr.fieldAt, run_underlying hu, hfk, Instr.sureAddr, fieldPlace, run_size hsz, hn, add_addr]
     ·cases hf) k

/-- a field's address. -/
theorem s_fieldEr {s : TypeId} {y : Operand} {t off f o n : Nat} {b : Bool} (hf : fieldOf pr s f = some (o, n, b)) (hn : n ≠ 0) (hy : st.val y = .one (.er t off))
  (k : AWops pr x ops rest K (st.put dst (.one (.er t (off + o))))) : AWops pr x ops (⟨dst, .fieldAddr s y f, ty, pos, aft, none⟩ :: rest) K st :=
 AWops.pure _ (fun a w S g hs => by
  have h := hy ▸ hs.val y
  generalize hq : a.eval y = q at h
  cases h with
  | t h =>
   cases h with
   | one h =>
    cases h with
    | @er _ bl N _ hg =>
     refine ⟨.pointer (some ⟨bl, N.o + (off + o), none⟩), ?_, .t (.one (.er hg))⟩
     unfold fieldOf at hf
     split at hf
     ·rename_i fs hu
      cases hfk : fs[f]? with
      | none => rw [hfk] at hf; cases hf
      | some fl =>
       rw [hfk] at hf
       simp only [Option.bind_some] at hf
       cases hsz : szOf pr fl.type with
       | none => rw [hsz] at hf; cases hf
       | some n' =>
        rw [hsz] at hf
        simp only [Option.bind_some] at hf
        cases hag : aggOf pr fl.type with
        | none => rw [hag] at hf; cases hf
        | some b' =>
         rw [hag] at hf
         simp at hf
         obtain ⟨rfl, rfl, rfl⟩ := hf
         simp [execOp, hq, Instr.fieldAt, run_underlying hu, hfk, Instr.sureAddr, fieldPlace, run_size hsz, hn, add_addr]
     ·cases hf) k

theorem s_fieldPeek {s : TypeId} {y : Operand} {f o n : Nat} {b fr : Bool} {ps qs : List P} (hf : fieldOf pr s f = some (o, n, b)) (hn : n ≠ 0) (hy : st.val y = .one (.peek fr ps)) (hq : ps.drop o = qs)
  (k : AWops pr x ops rest K (st.put dst (.one (.peek fr qs)))) : AWops pr x ops (⟨dst, .fieldAddr s y f, ty, pos, aft, none⟩ :: rest) K st :=
 AWops.pure _ (fun a w S g hs => by
  subst hq
  have h := hy ▸ hs.val y
  generalize hq : a.eval y = q at h
  cases h with
  | t h =>
   cases h with
   | one h =>
    cases h with
    | peek bl off ps us hb hc hr =>
     refine ⟨.pointer (some ⟨bl, off + o, none⟩), ?_, .t (.one (.peek bl (off + o) _ (fun j => us (o + j)) hb ?_ ?_))⟩
     ·unfold fieldOf at hf
      split at hf
      ·rename_i fs hu
       cases hfk : fs[f]? with
       | none => rw [hfk] at hf; cases hf
       | some fl =>
        rw [hfk] at hf
        simp only [Option.bind_some] at hf
        cases hsz : szOf pr fl.type with
        | none => rw [hsz] at hf; cases hf
        | some n' =>
         rw [hsz] at hf
         simp only [Option.bind_some] at hf
         cases hag : aggOf pr fl.type with
         | none => rw [hag] at hf; cases hf
         | some b' =>
          rw [hag] at hf
          simp at hf
          obtain ⟨rfl, rfl, rfl⟩ := hf
          simp [execOp, hq, Instr.fieldAt, run_underlying hu, hfk, Instr.sureAddr, fieldPlace, run_size hsz, hn, add_addr]
      ·cases hf
     ·intro j hj
      simp at hj
      rw [show off + o + j = off + (o + j) by omega]
      exact hc _ (by omega)
     ·intro j hj
      simp at hj
      have := hr (o + j) (by omega)
      simpa using this) k
end
end Go.Abs
