import Derived.Test.YtknfjmongeddgaaDoorAbsM
import Derived.Test.YtknfjmongeddgaaDoorTie
import Derived.Test.YtknfjmongeddgaaDoorCards
import Derived.LaidMore
import Derived.Lay
import Derived.SevenTiedAt
import Derived.Stop.Joined
import Derived.Deep.DeepHandedRow
import Derived.Lib.LaidTab
set_option linter.unusedVariables false
set_option linter.unusedSimpArgs false
set_option maxRecDepth 100000
namespace Go.Abs
open Go Go.Proofs Go.Proofs.YtknfjmongeddgaaDoor Go.ChangeShapes Go.WideShapes Go.ChangeAt Go.RowKit

/-- a table of pairs of bytes, cell for cell. -/
theorem cells_of_pairs {H : Type} {enc : TypeId × Value → H} {P : Program} {w : World} {base : Nat} {sp : Nat → Bool} {held : Bool} {fuel : Nat} {t e b : TypeId} {n : Nat} {f0 f1 : Field} {cs : List Value} {zs : List (Int × Int)} {p : List MemPlace}
    (ht : P.underlying t = some (.array n e)) (he : P.underlying e = some (.struct #[f0, f1])) (hb : P.underlying b = some (.int .u8)) (h0 : f0.type = b) (h1 : f1.type = b) (o0 : f0.offset = 0) (o1 : f1.offset = 1)
    (hce : P.cellsOf e = 2) (hcb : P.cellsOf b = 1) (hct : P.cellsOf t = n * 2)
    (h : DataW.trod enc P w base sp held fuel t cs = some (.agg (zs.map fun z => .agg [.lit (.int .u8 z.1), .lit (.int .u8 z.2)]), p)) : cs = (zs.flatMap fun z => [z.1, z.2]).map fun z => Value.int .u8 z := by
  obtain ⟨xs, m, _, ex, hl, hxl, hel⟩ := DataW.trod_array ht h
  have e3 : (xs.map (·.1)) = zs.map fun z => (DataW.agg [.lit (.int .u8 z.1), .lit (.int .u8 z.2)] : DataW H) := (DataW.agg.inj (Prod.mk.inj ex).1).symm
  have hzl : zs.length = n := by have := congrArg List.length e3; simp at this; omega
  have flat : ∀ (zs : List (Int × Int)) (i : Nat), ((zs.flatMap fun z => [z.1, z.2]).map fun z => Value.int .u8 z)[2 * i]? = (zs[i]?).map (fun z => Value.int .u8 z.1) ∧ ((zs.flatMap fun z => [z.1, z.2]).map fun z => Value.int .u8 z)[2 * i + 1]? = (zs[i]?).map (fun z => Value.int .u8 z.2) := by
    intro zs
    induction zs with
    | nil => intro i; simp
    | cons z zs ih =>
      intro i
      cases i with
      | zero => simp
      | succ i =>
        have := ih i
        simp only [List.flatMap_cons, List.cons_append, List.nil_append, List.map_cons]
        rw [show 2 * (i + 1) = 2 * i + 1 + 1 by omega, show 2 * i + 1 + 1 + 1 = (2 * i + 1) + 1 + 1 by omega]
        simp only [List.getElem?_cons_succ]
        exact this
  have two : ∀ i, i < n → cs[2 * i]? = (zs[i]?).map (fun z => Value.int .u8 z.1) ∧ cs[2 * i + 1]? = (zs[i]?).map (fun z => Value.int .u8 z.2) := by
    intro i hi
    have hE := hel i hi
    rw [hce, List.getElem?_eq_getElem (by omega)] at hE
    obtain ⟨y0, y1, q, ey, _, k0, k1⟩ := trod_struct2 he hE
    rw [h0, o0, hcb] at k0
    rw [h1, o1, hcb] at k1
    obtain ⟨z0, c0, d0, _⟩ := DataW.trod_int hb k0
    obtain ⟨z1, c1, d1, _⟩ := DataW.trod_int hb k1
    have e4 : (xs.map (·.1))[i]? = (zs.map fun z => (DataW.agg [.lit (.int .u8 z.1), .lit (.int .u8 z.2)] : DataW H))[i]? := by rw [e3]
    rw [List.getElem?_map, List.getElem?_map, List.getElem?_eq_getElem (by omega : i < xs.length), List.getElem?_eq_getElem (by omega : i < zs.length), ey, d0, d1] at e4
    simp only [Option.map_some, Option.some.injEq, DataW.agg.injEq, List.cons.injEq, DataW.lit.injEq, Lit.int.injEq, true_and, and_true] at e4
    rw [List.getElem?_eq_getElem (by omega : i < zs.length)]
    have g0 : (((cs.drop (i * 2)).take 2).drop 0).take 1 = [.int .u8 z0] := c0
    have g1 : (((cs.drop (i * 2)).take 2).drop 1).take 1 = [.int .u8 z1] := c1
    have a0 : ((((cs.drop (i * 2)).take 2).drop 0).take 1)[0]? = some (.int .u8 z0) := by rw [g0]; rfl
    have a1 : ((((cs.drop (i * 2)).take 2).drop 1).take 1)[0]? = some (.int .u8 z1) := by rw [g1]; rfl
    simp only [List.getElem?_take, List.getElem?_drop] at a0 a1
    constructor
    · rw [show 2 * i = i * 2 by omega]
      rw [Option.map_some, ← e4.1]
      simpa using a0
    · rw [show 2 * i + 1 = i * 2 + 1 by omega]
      rw [Option.map_some, ← e4.2]
      simpa using a1
  apply List.ext_getElem?
  intro j
  by_cases hj : j < n * 2
  · have hi := two (j / 2) (by omega)
    have hf := flat zs (j / 2)
    rcases Nat.mod_two_eq_zero_or_one j with h2 | h2
    · rw [show j = 2 * (j / 2) by omega, hi.1, hf.1]
    · rw [show j = 2 * (j / 2) + 1 by omega, hi.2, hf.2]
  · have : ((zs.flatMap fun z => [z.1, z.2]).map fun z => Value.int .u8 z).length = n * 2 := by
      rw [List.length_map, ← hzl]
      clear e3 h hzl two flat ex
      induction zs with
      | nil => rfl
      | cons z zs ih => simp only [List.flatMap_cons, List.length_append, List.length_cons, List.length_nil, ih]; omega
    rw [List.getElem?_eq_none (by omega), List.getElem?_eq_none (by omega)]

theorem glob_tab {W : World} {name : String} {g : Nat} {zs : List Int} {cs : List Value} {ps : List P} (hg : Tryd.prog.globalNamed name = some g) (hvar : W.var? Tryd.prog name = some cs.toArray) (hc : cs = zs.map fun z => Value.int .u8 z) (hp : ps = zs.map fun z => P.v (.int .u8 z)) (h0 : 0 < zs.length) :
    g < W.heap.size ∧ ∀ j p, ps[j]? = some p → ∃ u, W.cell? ⟨g, j, none⟩ = some u ∧ PRel W (fun b => b < W.heap.size) u p := by
  have hcell := fun j => World.var?_cell hg hvar j
  constructor
  · have h := hcell 0
    rw [hc] at h
    have : ((zs.map fun z => Value.int .u8 z).toArray)[0]? = some (Value.int .u8 (zs.getD 0 0)) := by
      rw [List.getElem?_toArray, List.getElem?_map, List.getD, List.getElem?_eq_getElem h0]; rfl
    exact (cell_lt (h.trans this)).1
  · intro j p hj
    rw [hp, List.getElem?_map] at hj
    obtain ⟨z, hz, rfl⟩ := Option.map_eq_some_iff.mp hj
    refine ⟨.int .u8 z, ?_, .v _ rfl⟩
    rw [hcell j, hc, List.getElem?_toArray, List.getElem?_map, hz]; rfl

theorem gA : Tryd.prog.globalNamed "unicode/utf8.acceptRanges" = some 1 := by kernel_rfl
theorem gF : Tryd.prog.globalNamed "unicode/utf8.first" = some 0 := by kernel_rfl
theorem tA : (Tryd.prog.globals[1]?).map (·.type) = some 56 := by kernel_rfl
theorem tF : (Tryd.prog.globals[0]?).map (·.type) = some 53 := by kernel_rfl
theorem glob_ok {W : World} (h : laidMetH Tryd.prog [("unicode/utf8.acceptRanges", Rows.laid_unicode_utf8_acceptRanges), ("unicode/utf8.first", Rows.laid_unicode_utf8_first)] W) : GlobOK W (fun b => b < W.heap.size) := by
  rw [MakeChecks.laidMetH_plain _ _ _ (by kernel_rfl)] at h
  obtain ⟨ps, ⟨g1, t1, cs1, fuel1, p1, q1, hg1, ht1, hv1, hd1, ⟨g2, t2, cs2, fuel2, p2, q2, hg2, ht2, hv2, hd2, _, _⟩, _⟩, _, _⟩ := h
  obtain rfl := Option.some.inj (gA.symm.trans hg1)
  obtain rfl := Option.some.inj (tA.symm.trans ht1)
  obtain rfl := Option.some.inj (gF.symm.trans hg2)
  obtain rfl := Option.some.inj (tF.symm.trans ht2)
  have eA : (Rows.laid_unicode_utf8_acceptRanges : DataW Unit) = .agg (GX1.map fun z => .agg [.lit (.int .u8 z.1), .lit (.int .u8 z.2)]) := by kernel_rfl
  have eF : (Rows.laid_unicode_utf8_first : DataW Unit) = Lib.tabData .u8 GX0 := by kernel_rfl
  rw [eA] at hd1
  rw [eF] at hd2
  have c1 := cells_of_pairs Tryd.underlying56 Tryd.underlying55 Tryd.underlying5 rfl rfl rfl rfl (by kernel_rfl) (by kernel_rfl) (by kernel_rfl) hd1
  have c2 := Lib.cells_of_tab Tryd.underlying53 Tryd.underlying5 (by kernel_rfl) (by kernel_rfl) hd2
  intro b qs hb
  match b, hb with
  | 0, hb =>
    exact glob_tab (zs := GX0) gF (by simpa using hv2) c2 (by cases hb; kernel_rfl) (by decide)
  | 1, hb =>
    exact glob_tab (zs := GX1.flatMap fun z => [z.1, z.2]) gA (by simpa using hv1) c1 (by cases hb; kernel_rfl) (by decide)
end Go.Abs
