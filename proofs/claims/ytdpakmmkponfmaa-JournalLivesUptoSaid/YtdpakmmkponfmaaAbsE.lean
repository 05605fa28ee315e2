import Derived.Test.YtdpakmmkponfmaaAbsD
set_option linter.unusedVariables false
set_option linter.unusedSimpArgs false
namespace Go.Abs

section
variable {pr : Program} {x : Ctx} {K : Exit → St → Prop} {st : St} {a : Act} {w : World} {S : Nat → Prop} {g : G}
variable {ops : Array Oper} {rest : List Oper} {dst : Option Tmp} {ty : TypeId} {pos : String} {aft : Array Edge}

/-! ### slices: an element's address -/
theorem s_indexOwn {t e : TypeId} {y z : Operand} {o off n sz : Nat} {kd : IntKind} {i : Int} {f1 : Bool} {d : D} (ht : pr.underlying t = some (.slice e)) (hsz : szOf pr e = some sz)
  (hy : st.val y = .one (.own o off n sz)) (hz : st.val z = .one (.p f1 (.v (.int kd i)))) (h0 : 0 ≤ i) (h1 : i < n) (hd : d = .one (.er o (off + i.toNat * sz)))
  (k : AWops pr x ops rest K (st.put dst d)) : AWops pr x ops (⟨dst, .indexAddr t y z, ty, pos, aft, none⟩ :: rest) K st :=
 AWops.pure _ (fun a w S g hs => by
  subst hd
  have h := hy ▸ hs.val y
  have hi := (hz ▸ hs.val z).of_v
  generalize hq : a.eval y = q at h
  cases h with
  | t h =>
   cases h with
   | one h =>
    cases h with
    | @own _ b N _ _ cap _ hg hn hN =>
     refine ⟨.pointer (some ⟨b, N.o + (off + i.toNat * sz), none⟩), ?_, .t (.one (.er hg))⟩
     simp [execOp, hq, hi, Instr.indexAt, asIntOf, run_underlying ht, h0, h1, run_size hsz, add_addr, Nat.add_assoc]
    | own0 ad hg => exact absurd h1 (by simp; exact h0)) k

theorem s_indexImm {t e : TypeId} {y z : Operand} {n sz : Nat} {kd : IntKind} {i : Int} {f1 fr : Bool} {cs ps : List P} (ht : pr.underlying t = some (.slice e)) (hsz : szOf pr e = some sz)
  (hy : st.val y = .one (.p fr (.sl n cs))) (hz : st.val z = .one (.p f1 (.v (.int kd i)))) (h0 : 0 ≤ i) (h1 : i < n) (hp : (cs.drop (i.toNat * sz)).take sz = ps)
  (k : AWops pr x ops rest K (st.put dst (.one (.peek fr ps)))) : AWops pr x ops (⟨dst, .indexAddr t y z, ty, pos, aft, none⟩ :: rest) K st :=
 AWops.pure _ (fun a w S g hs => by
  subst hp
  have h := hy ▸ hs.val y
  have hi := (hz ▸ hs.val z).of_v
  generalize hq : a.eval y = q at h
  cases h with
  | t h =>
   cases h with
   | one h =>
    cases h with
    | p h =>
     cases h with
     | nil ad cap => exact absurd h1 (by simp; exact h0)
     | sl b o n cap cs us hb hn hc hr =>
      refine ⟨.pointer (some ⟨b, o + i.toNat * sz, none⟩), ?_, .t (.one (.peek b (o + i.toNat * sz) _ (fun j => us (i.toNat * sz + j)) hb ?_ ?_))⟩
      ·simp [execOp, hq, hi, Instr.indexAt, asIntOf, run_underlying ht, h0, h1, run_size hsz, add_addr]
      ·intro j hj
       simp at hj
       rw [show o + i.toNat * sz + j = o + (i.toNat * sz + j) by omega]
       exact hc _ (by omega)
      ·intro j hj
       simp at hj
       have := hr (i.toNat * sz + j) (by omega)
       simpa using this) k

/-- an array in a block. -/
theorem s_indexArr {t e : TypeId} {y z : Operand} {o off n sz : Nat} {kd : IntKind} {i : Int} {f1 : Bool} {d : D} (ht : pr.underlying t = some (.array n e)) (hsz : szOf pr e = some sz)
  (hy : st.val y = .one (.ref o off)) (hz : st.val z = .one (.p f1 (.v (.int kd i)))) (h0 : 0 ≤ i) (h1 : i < n) (hd : d = .one (.ref o (off + i.toNat * sz)))
  (k : AWops pr x ops rest K (st.put dst d)) : AWops pr x ops (⟨dst, .indexAddr t y z, ty, pos, aft, none⟩ :: rest) K st :=
 AWops.pure _ (fun a w S g hs => by
  subst hd
  have h := hy ▸ hs.val y
  have hi := (hz ▸ hs.val z).of_v
  generalize hq : a.eval y = q at h
  cases h with
  | t h =>
   cases h with
   | one h =>
    cases h with
    | @ref _ b N _ hg ho =>
     refine ⟨.pointer (some ⟨b, off + i.toNat * sz, none⟩), ?_, .t (.one (.ref hg ho))⟩
     simp [execOp, hq, hi, Instr.indexAt, asIntOf, run_underlying ht, h0, h1, run_size hsz, add_addr, Instr.sureAddr, Nat.add_assoc]) k

/-- a byte of a text. -/
theorem s_indexStr {t : TypeId} {y z : Operand} {s : ByteArray} {kd : IntKind} {i : Int} {f1 f2 : Bool} {c : UInt8} (ht : pr.underlying t = some .string)
  (hy : st.val y = .one (.p f1 (.v (.string s)))) (hz : st.val z = .one (.p f2 (.v (.int kd i)))) (h0 : 0 ≤ i) (hc : s[i.toNat]? = some c)
  (k : AWops pr x ops rest K (st.put dst (sc (.int .u8 c.toNat)))) : AWops pr x ops (⟨dst, .index t y z, ty, pos, aft, none⟩ :: rest) K st :=
 AWops.pure _ (fun a w S g hs => by
  have e1 := (hy ▸ hs.val y).of_v
  have hi := (hz ▸ hs.val z).of_v
  refine ⟨.int .u8 c.toNat, ?_, .sc _ rfl⟩
  simp [execOp, e1, hi, Instr.index, asIntOf, run_underlying ht, h0, hc]) k

/-- an element of an array by value. -/
theorem s_indexAgg1 {t e : TypeId} {y z : Operand} {n : Nat} {kd : IntKind} {i : Int} {f2 : Bool} {cs : List C} {c : C} (ht : pr.underlying t = some (.array n e)) (hsz : szOf pr e = some 1) (ha : aggOf pr e = some false)
  (hy : st.val y = .agg cs) (hz : st.val z = .one (.p f2 (.v (.int kd i)))) (h0 : 0 ≤ i) (h1 : i < n) (hc : cs[i.toNat]? = some c)
  (k : AWops pr x ops rest K (st.put dst (.one c))) : AWops pr x ops (⟨dst, .index t y z, ty, pos, aft, none⟩ :: rest) K st :=
 AWops.pure _ (fun a w S g hs => by
  have h := hy ▸ hs.val y
  have hi := (hz ▸ hs.val z).of_v
  generalize hq : a.eval y = q at h
  cases h with
  | t h =>
   cases h with
   | agg vs hs' h =>
    obtain ⟨hlt, rfl⟩ := List.getElem?_eq_some_iff.mp hc
    have hlt' : i.toNat < vs.length := by omega
    refine ⟨vs[i.toNat], ?_, .t (.one (h _ hlt hlt'))⟩
    simp [execOp, hq, hi, Instr.index, asIntOf, run_underlying ht, h0, h1, run_size hsz, part, run_agg ha, hlt']) k

/-- a field of a struct by value. -/
theorem s_field1 {s : TypeId} {y : Operand} {f o n : Nat} {cs : List C} {c : C} (hf : fieldOf pr s f = some (o, n, false)) (hy : st.val y = .agg cs) (hc : cs[o]? = some c)
  (k : AWops pr x ops rest K (st.put dst (.one c))) : AWops pr x ops (⟨dst, .field s y f, ty, pos, aft, none⟩ :: rest) K st :=
 AWops.pure _ (fun a w S g hs => by
  have h := hy ▸ hs.val y
  generalize hq : a.eval y = q at h
  cases h with
  | t h =>
   cases h with
   | agg vs hs' h =>
    obtain ⟨hlt, rfl⟩ := List.getElem?_eq_some_iff.mp hc
    have hlt' : o < vs.length := by omega
    refine ⟨vs[o], ?_, .t (.one (h _ hlt hlt'))⟩
    unfold fieldOf at hf
    split at hf
    ·rename_i fs hu
     cases hfk : fs[f]? with
     | none => rw [hfk] at hf; cases hf
     | some fl =>
      rw [hfk] at hf
      simp only [Option.bind_some] at hf
      cases hsz : szOf pr fl.type with
      | none => rw [hsz] at hf; cases hf
      | some n' =>
       rw [hsz] at hf
       simp only [Option.bind_some] at hf
       cases hag : aggOf pr fl.type with
       | none => rw [hag] at hf; cases hf
       | some b' =>
        rw [hag] at hf
        simp at hf
        obtain ⟨rfl, rfl, rfl⟩ := hf
        simp [execOp, hq, Instr.field, run_underlying hu, hfk, asAgg, part, run_agg hag, hlt']
    ·cases hf) k

theorem s_fieldN {s : TypeId} {y : Operand} {f o n : Nat} {cs ds : List C} (hf : fieldOf pr s f = some (o, n, true)) (hy : st.val y = .agg cs) (hd : (cs.drop o).take n = ds) (hn : ds.length = n)
  (k : AWops pr x ops rest K (st.put dst (.agg ds))) : AWops pr x ops (⟨dst, .field s y f, ty, pos, aft, none⟩ :: rest) K st :=
 AWops.pure _ (fun a w S g hs => by
  subst hd
  have h := hy ▸ hs.val y
  generalize hq : a.eval y = q at h
  cases h with
  | t h =>
   cases h with
   | agg vs hs' h =>
    refine ⟨.agg ((vs.drop o).take n).toArray, ?_, .t (.agg _ (by simp [hs']) (Pts.get (((Pts.of_le h (by omega)).drop o).take n)))⟩
    unfold fieldOf at hf
    split at hf
    ·rename_i fs hu
     cases hfk : fs[f]? with
     | none => rw [hfk] at hf; cases hf
     | some fl =>
      rw [hfk] at hf
      simp only [Option.bind_some] at hf
      cases hsz : szOf pr fl.type with
      | none => rw [hsz] at hf; cases hf
      | some n' =>
       rw [hsz] at hf
       simp only [Option.bind_some] at hf
       cases hag : aggOf pr fl.type with
       | none => rw [hag] at hf; cases hf
       | some b' =>
        rw [hag] at hf
        simp at hf
        obtain ⟨rfl, rfl, rfl⟩ := hf
        simp [execOp, hq, Instr.field, run_underlying hu, hfk, asAgg, part, run_agg hag, run_size hsz]
    ·cases hf) k

/-! ### new memory -/
def zcells (v : Value) : List C := v.cells.toList.map fun u => C.p true (.v u)

theorem zrel {v : Value} (h : ∀ u ∈ v.cells.toList, u.oneCell' = true) : Pts (CRel w S x.base g) v.cells.toList (zcells v) := by
 intro j c hj
 simp [zcells] at hj
 obtain ⟨u, hu, rfl⟩ := hj
 have : v.cells.toList[j]? = some u := by simpa using hu
 exact ⟨u, this, .p (.v u (h u (List.mem_of_getElem? this)))⟩

theorem s_alloc {e : TypeId} {z : Value} {cs : List C} (hz : zeroOf pr e = some z) (h1 : z.cells.toList.all (·.oneCell') = true) (hc : zcells z = cs)
  (k : AWops pr x ops rest K ((st.heap (st.H ++ [some (.cells true cs)])).put dst (.one (.ref st.H.length 0)))) : AWops pr x ops (⟨dst, .alloc e, ty, pos, aft, none⟩ :: rest) K st :=
 AWops.of_run rfl (fun a w S g hs => by
  subst hc
  have hp := zrel (w := w) (S := S) (x := x) (g := g) (v := z) (fun u hu => List.all_eq_true.mp h1 u hu)
  have hs' := hs.newCells z.cells e (by simpa using hp.len) hp.toArr
  refine ⟨_, _, _, S, _, ?_, hs'.put dst (.t (.one (.ref gnew_at rfl))), k⟩
  simp [execOp, Instr.alloc, run_zero hz, newVar, newRow]) 

theorem s_box {e : TypeId} {y : Operand} {cs : List C} (hy : (st.val y).cells = cs) (hne : cs ≠ []) (hnt : noTop cs = true)
  (k : AWops pr x ops rest K ((st.heap (st.H ++ [some (.cells true cs)])).put dst (.one (.ref st.H.length 0)))) : AWops pr x ops (⟨dst, .box e y, ty, pos, aft, none⟩ :: rest) K st :=
 AWops.of_run rfl (fun a w S g hs => by
  subst hy
  obtain ⟨vs, hv, hlen, hpt, h1⟩ := (hs.val y).cells hne hnt
  have hs' := hs.newCells vs.toArray e (by simpa using hpt.len) (Pts.toArr (by simpa using hpt))
  refine ⟨_, _, _, S, _, ?_, hs'.put dst (.t (.one (.ref gnew_at rfl))), k⟩
  simp [execOp, Instr.box, newVar, newRow, hv])

/-- the parts of a literal, laid over its zero cells. -/
def fillC (place : Nat → Option (Nat × Nat)) (cells : List C) : List (Nat × D) → Option (List C)
 | [] => some cells
 | (i, d) :: rest =>
  match place i with
  | none => none
  | some (off, size) => if d.cells.length = size ∧ off + size ≤ cells.length ∧ d.cells ≠ [] ∧ noTop d.cells = true then fillC place (splice cells off d.cells) rest else none

theorem foldl_set (vs : List Value) (off : Nat) : ∀ (k : Nat) (cs : Array Value), off + k + vs.length ≤ cs.size →
  ((vs.zipIdx k).foldl (fun cs (x : Value × Nat) => cs.setIfInBounds (off + x.2) x.1) cs).toList = cs.toList.take (off + k) ++ vs ++ cs.toList.drop (off + k + vs.length) := by
 induction vs with
 | nil => intro k cs h; simp
 | cons v vs ih =>
  intro k cs h
  simp only [List.zipIdx_cons, List.foldl_cons, List.length_cons] at h ⊢
  rw [ih (k + 1) _ (by simp; omega)]
  simp only [Array.toList_setIfInBounds]
  rw [show off + (k + 1) = off + k + 1 by omega]
  have hlt : off + k < cs.toList.length := by simp; omega
  rw [List.take_set, List.take_succ_eq_append_getElem hlt, List.drop_set_of_lt (by omega)]
  rw [List.set_append_right _ _ (by simp; omega)]
  simp
  rw [show off + k - min (off + k) cs.size = 0 by omega]
  simp
  congr 1
  omega

theorem fill_rel {place : Nat → Option (Nat × Nat)} : ∀ {parts : List (Nat × Value)} {ps : List (Nat × D)} {cells : Array Value} {cs cs' : List C},
  parts.length = ps.length → (∀ i (h : i < parts.length) (h' : i < ps.length), (parts[i]'h).1 = (ps[i]'h').1 ∧ DRel w S x.base g (parts[i]'h).2 (ps[i]'h').2) →
  Pts (CRel w S x.base g) cells.toList cs → cells.size = cs.length → fillC place cs ps = some cs' →
  ∃ r, Instr.fill place cells parts = some r ∧ r.size = cs'.length ∧ Pts (CRel w S x.base g) r.toList cs'
 | [], [], cells, cs, cs', _, _, hp, hl, hf => ⟨cells, rfl, by simp [fillC] at hf; rw [← hf]; exact hl, by simp [fillC] at hf; rw [← hf]; exact hp⟩
 | (i, v) :: parts, (i', d) :: ps, cells, cs, cs', hlen, hr, hp, hl, hf => by
  have h0 := hr 0 (by simp) (by simp)
  obtain ⟨rfl, hd⟩ : i = i' ∧ DRel w S x.base g v d := h0
  simp only [fillC] at hf
  cases hpl : place i with
  | none => rw [hpl] at hf; cases hf
  | some os =>
   obtain ⟨off, size⟩ := os
   rw [hpl] at hf
   simp only at hf
   split at hf
   ·rename_i hc
    obtain ⟨h1, h2, h3, h4⟩ := hc
    obtain ⟨vs, hv, hlv, hpt, h1v⟩ := hd.cells h3 h4
    have hsz : ¬ (v.cells.size ≠ size) := by rw [hv]; simp; omega
    have hfit : ¬ (off + v.cells.size > cells.size) := by rw [hv]; simp; omega
    have hfold := foldl_set vs off 0 cells (by omega)
    simp only [Nat.add_zero] at hfold
    have hp' := Pts.splice hp hpt (by omega) off (by omega)
    rw [← hfold] at hp'
    have ih := fill_rel (parts := parts) (ps := ps) (cs := splice cs off d.cells) (cs' := cs') (place := place)
     (cells := (v.cells.zipIdx.foldl (fun cs (c, j) => cs.setIfInBounds (off + j) c) cells)) (by simpa using hlen)
     (fun j hj hj' => hr (j + 1) (by simp; omega) (by simp; omega))
     (by rw [hv, ← Array.foldl_toList]; simpa using hp')
     (by
      have e : (v.cells.zipIdx.foldl (fun cs (c, j) => cs.setIfInBounds (off + j) c) cells).toList = cells.toList.take off ++ vs ++ cells.toList.drop (off + vs.length) := by
       rw [hv, ← Array.foldl_toList, ← hfold]; simp
      rw [← Array.length_toList, e, splice]; simp; omega) hf
    obtain ⟨r, hr1, hr2, hr3⟩ := ih
    refine ⟨r, ?_, hr2, hr3⟩
    simp only [Instr.fill, hpl]
    rw [if_neg (by simp; exact ⟨by rw [hv]; simp; omega, by rw [hv]; simp; omega⟩)]
    exact hr1
   ·cases hf

theorem parts_rel (hs : Sim x st a w S g) (parts : List (Nat × Operand)) : ∀ i (h : i < (parts.map fun p => (p.1, a.eval p.2)).length) (h' : i < (parts.map fun p => (p.1, st.val p.2)).length),
  ((parts.map fun p => (p.1, a.eval p.2))[i]'h).1 = ((parts.map fun p => (p.1, st.val p.2))[i]'h').1 ∧ DRel w S x.base g ((parts.map fun p => (p.1, a.eval p.2))[i]'h).2 ((parts.map fun p => (p.1, st.val p.2))[i]'h').2 := by
 intro i h h'
 simp only [List.getElem_map]
 exact ⟨trivial, hs.val _⟩

/-- where the parts of a literal lie. -/
def placeOf (pr : Program) (t : TypeId) (i : Nat) : Option (Nat × Nat) :=
 match pr.underlying t with
 | some (.struct fs) => (fs[i]?).bind fun f => (szOf pr f.type).map (f.offset, ·)
 | some (.array _ e) => (szOf pr e).map fun n => (i * n, n)
 | _ => none
end
end Go.Abs
