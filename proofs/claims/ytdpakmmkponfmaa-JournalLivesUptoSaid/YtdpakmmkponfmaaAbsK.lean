import Derived.Test.YtdpakmmkponfmaaAbsJ
set_option linter.unusedVariables false
set_option linter.unusedSimpArgs false
namespace Go.Abs

def structOk (pr : Program) (t : TypeId) : Bool :=
 match pr.underlying t with
 | some (.struct fs) => fs.toList.all fun f => (szOf pr f.type).isSome
 | _ => false

def strP (s : ByteArray) : List P := s.data.toList.map fun b => P.v (.int .u8 b.toNat)
def ofNums (ns : List Int) : ByteArray := ⟨(ns.map fun n => UInt8.ofNat n.toNat).toArray⟩

section
variable {pr : Program} {x : Ctx} {K : Exit → St → Prop} {st : St} {a : Act} {w : World} {S : Nat → Prop} {g : G}
variable {ops : Array Oper} {rest : List Oper} {dst : Option Tmp} {ty : TypeId} {pos : String} {aft : Array Edge}

theorem run_places : ∀ {fs : List Field}, fs.all (fun f => (szOf pr f.type).isSome) = true →
  (fs.mapM fun f => (do pure (f.offset, ← sizeOf f.type) : Sem (Nat × Nat))).run pr w = .ok (fs.map fun f => (f.offset, (szOf pr f.type).getD 0)) w
 | [], _ => by simp
 | f :: fs, h => by
  simp only [List.all_cons, Bool.and_eq_true] at h
  obtain ⟨n, hn⟩ := Option.isSome_iff_exists.mp h.1
  have ih := run_places h.2
  simp only [Sem.run_bind, Sem.run_map, bind_pure_comp] at ih
  simp [List.mapM_cons, run_size hn, hn, ih]

theorem s_build {t : TypeId} {z : Value} {parts : List (Nat × Operand)} {ps : List (Nat × D)} {cs : List C} (hz : zeroOf pr t = some z) (h1 : z.cells.toList.all (·.oneCell') = true) (hok : structOk pr t = true)
  (hps : parts.map (fun p => (p.1, st.val p.2)) = ps) (hf : fillC (placeOf pr t) (zcells z) ps = some cs) (k : AWops pr x ops rest K (st.put dst (.agg cs))) :
  AWops pr x ops (⟨dst, .build t parts.toArray, ty, pos, aft, none⟩ :: rest) K st :=
 AWops.pure _ (fun a w S g hs => by
  subst hps
  unfold structOk at hok
  cases hu : pr.underlying t with
  | none => rw [hu] at hok; cases hok
  | some d =>
   rw [hu] at hok
   cases d with
   | struct fs =>
    simp only at hok
    have hzr := zrel (w := w) (S := S) (x := x) (g := g) (v := z) (fun u hu => List.all_eq_true.mp h1 u hu)
    have hpl : ∀ i, ((fs.toList.map fun f => (f.offset, (szOf pr f.type).getD 0)).toArray)[i]? = placeOf pr t i := by
     intro i
     simp only [placeOf, hu, List.getElem?_toArray, List.getElem?_map, Array.getElem?_toList]
     cases hfi : fs[i]? with
     | none => rfl
     | some f =>
      have hm : f ∈ fs.toList := by simpa using List.mem_of_getElem? (by simpa using hfi : fs.toList[i]? = some f)
      obtain ⟨n, hn⟩ := Option.isSome_iff_exists.mp (List.all_eq_true.mp hok f hm)
      simp [hn]
    obtain ⟨r, hr1, hr2, hr3⟩ := fill_rel (w := w) (S := S) (x := x) (g := g) (place := placeOf pr t) (parts := parts.map fun p => (p.1, a.eval p.2)) (ps := parts.map fun p => (p.1, st.val p.2)) (cells := z.cells) (cs := zcells z) (cs' := cs)
     (by simp) (parts_rel hs parts) hzr (by simp [zcells]) hf
    refine ⟨.agg r, ?_, ?_⟩
    ·have hm := run_places (pr := pr) (w := w) (fs := fs.toList) hok
     have hm2 : (fs.mapM fun f => (do pure (f.offset, ← sizeOf f.type) : Sem (Nat × Nat))).run pr w = .ok (fs.toList.map fun f => (f.offset, (szOf pr f.type).getD 0)).toArray w := by
      have e : fs = fs.toList.toArray := by simp
      conv => lhs; rw [e]
      rw [List.mapM_toArray]
      simp only [Sem.run_map]
      rw [hm]; rfl
     simp only [execOp, Instr.build, Sem.run_bind, run_zero hz, Result.andThen_ok, run_underlying hu]
     rw [hm2]
     simp only [Result.andThen_ok]
     rw [show ((fs.toList.map fun f => (f.offset, (szOf pr f.type).getD 0)).toArray[·]?) = placeOf pr t from funext hpl]
     rw [show (Array.map (fun (x : Nat × Operand) => (x.1, a.eval x.2)) parts.toArray).toList = parts.map fun p => (p.1, a.eval p.2) by simp]
     rw [hr1]
     rfl
    ·have : r = r.toList.toArray := by simp
     rw [this]
     exact .t (.agg _ (by simpa using hr2) hr3.get)
   | _ => cases hok) k

theorem s_buildArr {t e : TypeId} {z : Value} {n sz : Nat} {parts : List (Nat × Operand)} {ps : List (Nat × D)} {cs : List C} (ht : pr.underlying t = some (.array n e)) (hsz : szOf pr e = some sz) (hz : zeroOf pr t = some z)
  (h1 : z.cells.toList.all (·.oneCell') = true)
  (hps : parts.map (fun p => (p.1, st.val p.2)) = ps) (hf : fillC (fun i => some (i * sz, sz)) (zcells z) ps = some cs) (k : AWops pr x ops rest K (st.put dst (.agg cs))) :
  AWops pr x ops (⟨dst, .build t parts.toArray, ty, pos, aft, none⟩ :: rest) K st :=
 AWops.pure _ (fun a w S g hs => by
  subst hps
  have hzr := zrel (w := w) (S := S) (x := x) (g := g) (v := z) (fun u hu => List.all_eq_true.mp h1 u hu)
  obtain ⟨r, hr1, hr2, hr3⟩ := fill_rel (w := w) (S := S) (x := x) (g := g) (place := fun i => some (i * sz, sz)) (parts := parts.map fun p => (p.1, a.eval p.2)) (ps := parts.map fun p => (p.1, st.val p.2)) (cells := z.cells) (cs := zcells z) (cs' := cs)
   (by simp) (parts_rel hs parts) hzr (by simp [zcells]) hf
  refine ⟨.agg r, ?_, ?_⟩
  ·simp only [execOp, Instr.build, Sem.run_bind, run_zero hz, Result.andThen_ok, run_underlying ht, run_size hsz]
   rw [show (Array.map (fun (x : Nat × Operand) => (x.1, a.eval x.2)) parts.toArray).toList = parts.map fun p => (p.1, a.eval p.2) by simp]
   rw [hr1]
   rfl
  ·have : r = r.toList.toArray := by simp
   rw [this]
   exact .t (.agg _ (by simpa using hr2) hr3.get)) k

/-- zero cells of a row. -/
def zrow (z : Value) (n sz : Nat) : List C := (List.range (n * sz)).map fun i => C.p true (.v (z.cells.getD (i % sz) undef))

theorem s_buildSlice {t e : TypeId} {z : Value} {n sz : Nat} {parts : List (Nat × Operand)} {ps : List (Nat × D)} {cs : List C} (ht : pr.underlying t = some (.slice e)) (hsz : szOf pr e = some sz) (hz : zeroOf pr e = some z)
  (hzs : z.cells.size = sz) (h1 : z.cells.toList.all (·.oneCell') = true) (hsz0 : 0 < sz) (hbig : n * sz ≤ 16777216)
  (hps : parts.map (fun p => (p.1, st.val p.2)) = ps) (hf : fillC (fun i => some (i * sz, sz)) (zrow z n sz) ps = some cs)
  (k : AWops pr x ops rest K ((st.heap (st.H ++ [some (.cells true cs)])).put dst (.one (.own st.H.length 0 n sz)))) :
  AWops pr x ops (⟨dst, .buildSlice t n parts.toArray, ty, pos, aft, none⟩ :: rest) K st :=
 AWops.of_run rfl (fun a w S g hs => by
  subst hps
  have hg : ∀ i, i < n * sz → z.cells[i % sz]! = z.cells.getD (i % sz) undef ∧ (z.cells.getD (i % sz) undef).oneCell' = true := by
   intro i hi
   have hlt : i % sz < z.cells.size := by rw [hzs]; exact Nat.mod_lt _ hsz0
   refine ⟨by simp [hlt, Array.getD_eq_getD_getElem?], ?_⟩
   have : z.cells.getD (i % sz) undef = z.cells[i % sz] := by simp [hlt, Array.getD_eq_getD_getElem?]
   rw [this]
   exact List.all_eq_true.mp h1 _ (by simp)
  have hzr : Pts (CRel w S x.base g) ((Array.range (n * sz)).map (z.cells[· % z.cells.size]!)).toList (zrow z n sz) := by
   intro j c hj
   simp only [zrow, List.getElem?_map] at hj
   by_cases hjn : j < n * sz
   ·rw [List.getElem?_range hjn] at hj
    cases hj
    obtain ⟨e1, e2⟩ := hg j hjn
    refine ⟨z.cells.getD (j % sz) undef, ?_, .p (.v _ e2)⟩
    rw [hzs]
    simp [hjn]
    simpa using e1
   ·rw [List.getElem?_eq_none (by simpa using Nat.le_of_not_lt hjn)] at hj; cases hj
  obtain ⟨r, hr1, hr2, hr3⟩ := fill_rel (w := w) (S := S) (x := x) (g := g) (place := fun i => some (i * sz, sz)) (parts := parts.map fun p => (p.1, a.eval p.2)) (ps := parts.map fun p => (p.1, st.val p.2))
   (cells := (Array.range (n * sz)).map (z.cells[· % z.cells.size]!)) (cs := zrow z n sz) (cs' := cs)
   (by simp) (parts_rel hs parts) hzr (by simp [zrow]) hf
  have hcl : ∀ (ps : List (Nat × D)) (cs0 cs' : List C), fillC (fun i => some (i * sz, sz)) cs0 ps = some cs' → cs'.length = cs0.length := by
   intro ps
   induction ps with
   | nil => intro cs0 cs' h; simp [fillC] at h; rw [h]
   | cons p ps ih =>
    intro cs0 cs' h
    obtain ⟨i, d⟩ := p
    simp only [fillC] at h
    split at h
    ·rename_i hc
     rw [ih _ _ h, splice]
     simp; omega
    ·cases h
  have hN : r.size = n * sz := by rw [hr2, hcl _ _ _ hf]; simp [zrow]
  have hs' := hs.newCells r e (by simpa using hr3.len) hr3.toArr
  refine ⟨.slice (some ⟨w.heap.size, 0, none⟩) n n, _, _, S, _, ?_, hs'.put dst (.t (.one (.own00 gnew_at (Nat.le_refl _) (by rw [hN]; omega)))), k⟩
  have hparts : (Array.map (fun (x : Nat × Operand) => (x.1, a.eval x.2)) parts.toArray).toList = parts.map fun p => (p.1, a.eval p.2) := by simp
  simp only [execOp, Instr.buildSlice, Sem.run_bind, run_underlying ht, Result.andThen_ok, run_size hsz]
  rw [if_neg (by simp; omega)]
  by_cases h0 : n * sz = 0
  ·have hcells : (Array.range (n * sz)).map ((#[] : Array Value)[· % (#[] : Array Value).size]!) = (Array.range (n * sz)).map (z.cells[· % z.cells.size]!) := by simp [h0]
   rw [if_pos h0]
   simp only [Sem.run_bind, Sem.run_pure, Result.andThen_ok]
   rw [hcells, hparts, hr1]
   simp [newRow]
  ·rw [if_neg h0]
   simp only [Sem.run_bind, run_zero hz, Sem.run_pure, Result.andThen_ok]
   rw [hparts, hr1]
   simp [newRow])

/-! ### texts and bytes -/
/-- a new block that nobody writes. -/
theorem Sim.newImm (hs : Sim x st a w S g) (w' : World) (hsz : w'.heap.size = w.heap.size + 1) (hold : ∀ j, j < w.heap.size → w'.heap[j]? = w.heap[j]?) (h2 : w'.tape = w.tape) (h3 : w'.os = w.os) (h4 : w'.output = w.output) :
  Sim x st a w' (fun b => S b ∨ b = w.heap.size) g := by
 have hS : ∀ b, S b → (S b ∨ b = w.heap.size) ∧ w'.heap[b]? = w.heap[b]? := fun b hb => ⟨.inl hb, hold b (hs.ok.st b hb)⟩
 refine ⟨hs.size, hs.nodef, fun i => (hs.fr i).mono hS (fun _ _ h => h), ⟨?_, hs.ok.inj, ?_, ?_, hs.ok.dom, ?_, hs.ok.glob.mono hS⟩, ?_, hs.wr, ?_, hs.par, hs.kl⟩
 ·exact fun t o h => (hs.ok.obj t o h).mono hS (fun _ _ h => h) fun b N hb => hold b (hs.ok.lt t o b N h hb)
 ·rintro b (hb | rfl)
  ·have := hs.ok.st b hb; omega
  ·omega
 ·rintro b t o N (hb | rfl) hl hg
  ·exact hs.ok.dis b t o N hb hl hg
  ·have := hs.ok.lt t o _ N hl hg; omega
 ·intro t o b N hl hg; have := hs.ok.lt t o b N hl hg; omega
 ·rintro b (hb | rfl)
  ·exact hs.s0 b hb
  ·exact .inl hs.ext.size
 ·refine ⟨h2.trans hs.ext.tape, h3.trans hs.ext.os, h4.trans hs.ext.output, by have := hs.ext.size; omega, fun b hb hwr => ?_⟩
  rw [hold b (by have := hs.ext.size; omega)]; exact hs.ext.frame b hb hwr

theorem s_ofStr {src d e : TypeId} {y : Operand} {s : ByteArray} {f : Bool} (hsrc : pr.underlying src = some .string) (hd : pr.underlying d = some (.slice e)) (he : pr.underlying e = some (.int .u8))
  (hy : st.val y = .one (.p f (.v (.string s)))) (k : AWops pr x ops rest K (st.put dst (.one (.p false (.sl s.size (strP s)))))) :
  AWops pr x ops (⟨dst, .convert src d y, ty, pos, aft, none⟩ :: rest) K st :=
 AWops.of_run rfl (fun a w S g hs => by
  have e1 := (hy ▸ hs.val y).of_v
  have hr := Go.Lib.run_convert_string_bytes (P := pr) w src d e s hsrc hd he
  have h3 : (Go.Lib.bytesWorld w e s).tape = w.tape ∧ (Go.Lib.bytesWorld w e s).os = w.os ∧ (Go.Lib.bytesWorld w e s).output = w.output := by
   refine ⟨?_, ?_, ?_⟩ <;> (simp only [Go.Lib.bytesWorld, World.freeze]; rw [if_neg (by decide)]; rfl)
  have hs' := hs.newImm (Go.Lib.bytesWorld w e s) (Go.Lib.bytesWorld_size w e s) (Go.Lib.bytesWorld_at_old w e s) h3.1 h3.2.1 h3.2.2
  refine ⟨_, _, _, _, g, by simp [execOp, e1, hr], hs'.put dst (.t (.one (.p (.sl w.heap.size 0 s.size _ (strP s) (fun j => .int .u8 (s.data.toList.getD j 0).toNat) ⟨.inr rfl, fun h => by cases h⟩ (grownCap_ge w s.size 0 e) ?_ ?_)))), k⟩
  ·intro j hj
   have hj' : j < s.size := by simpa [strP] using hj
   rw [Nat.zero_add]
   exact Go.Lib.bytesWorld_cell w e s j hj'
  ·intro j hj
   have hj' : j < s.data.size := by simpa [strP] using hj
   have : (strP s)[j] = P.v (.int .u8 (s.data.toList.getD j 0).toNat) := by simp [strP, hj', List.getD_eq_getElem?_getD, Array.getElem?_eq_getElem hj']
   rw [this]
   exact .v _ rfl)

/-- the numbers of cells. -/
theorem nums_run {vs : List Value} {cs : List C} {ns : List Int} (hp : Pts (CRel w S x.base g) vs cs) (hl : vs.length = cs.length) (hn : cs.map plainOf = ns.map fun n => some (P.v (.int .u8 n))) :
  vs = ns.map fun n => Value.int .u8 n := by
 have hln : cs.length = ns.length := by simpa using congrArg List.length hn
 apply List.ext_getElem
 ·simp; omega
 ·intro i h1 h2
  have h3 := hp.get i (by omega) h1
  have h4 : (cs.map plainOf)[i]? = (ns.map fun n => some (P.v (.int .u8 n)))[i]? := by rw [hn]
  rw [List.getElem?_map, List.getElem?_map, List.getElem?_eq_getElem (by omega : i < cs.length), List.getElem?_eq_getElem (by omega : i < ns.length)] at h4
  simp only [Option.map_some, Option.some.injEq] at h4
  simp only [List.getElem_map]
  generalize cs[i] = c at h3 h4
  generalize vs[i] = v at h3 ⊢
  cases c with
  | p f p =>
   simp only [plainOf, Option.some.injEq] at h4
   subst h4
   cases h3 with | p h3 => cases h3; rfl
  | _ => simp [plainOf] at h4

theorem s_toStr {src d e : TypeId} {y : Operand} {n : Nat} {cs : List C} {ns : List Int} (hsrc : pr.underlying src = some (.slice e)) (he : pr.underlying e = some (.int .u8)) (hd : pr.underlying d = some .string)
  (hy : IsSrc st 1 (st.val y) n cs) (hys : ∀ f s, st.val y ≠ .one (.p f (.v (.string s)))) (hn : cs.map plainOf = ns.map fun n => some (P.v (.int .u8 n)))
  (k : AWops pr x ops rest K (st.put dst (sc (.string (ofNums ns))))) :
  AWops pr x ops (⟨dst, .convert src d y, ty, pos, aft, none⟩ :: rest) K st :=
 AWops.pure _ (fun a w S g hs => by
  obtain ⟨vs, hsr, hvl, hvp⟩ := hs.src (pr := pr) (hs.val y) hy (tx := src) (.inl ⟨e, hsrc⟩) (.inr ⟨e, hsrc⟩) (.inl ⟨e, hsrc⟩)
  have hvs := nums_run hvp hvl hn
  subst hvs
  refine ⟨.string (ofNums ns), ?_, .sc _ rfl⟩
  have hlen := hsr.len w
  have hcells := hsr.cells
  have hnl := hsr.newsLen
  simp only [Nat.mul_one] at hnl
  have hfold : ∀ (ns : List Int) (s : ByteArray), ns.foldl (fun r n => r.push (UInt8.ofNat n.toNat)) s = ⟨s.data ++ (ns.map fun n => UInt8.ofNat n.toNat).toArray⟩ := by
   intro ns
   induction ns with
   | nil => intro s; simp
   | cons m ns ih =>
    intro s
    simp only [List.foldl_cons, ih]
    apply congrArg ByteArray.mk
    apply Array.ext'
    simp [ByteArray.push]
  have hld : lenD (st.val y) = some n := by
   generalize st.val y = dd at hy hys
   cases hy with
   | nil => rfl
   | imm => rfl
   | own => rfl
   | str => exact absurd rfl (hys _ _)
  obtain ⟨ad, cap, hq, _, _⟩ := (hs.val y).slice hld hys
  rw [hq] at hcells
  cases ad with
  | none =>
   have hns : ns = [] := by
    simp [Builtin.firstCells] at hcells
    exact hcells
   subst hns
   simp [execOp, hq, convert, run_underlying hsrc, run_underlying hd, run_underlying he, Conv.bytesToString, ofNums]
   rfl
  | some ad =>
   have hc2 : (loadCells ad n).run pr w = .ok (ns.map fun n => Value.int .u8 n).toArray w := by simpa [Builtin.firstCells] using hcells
   have := run_bytesToString w ad n cap ns hc2
   rw [hfold] at this
   simp [execOp, hq, convert, run_underlying hsrc, run_underlying hd, run_underlying he, this, ofNums]) k
end
end Go.Abs
