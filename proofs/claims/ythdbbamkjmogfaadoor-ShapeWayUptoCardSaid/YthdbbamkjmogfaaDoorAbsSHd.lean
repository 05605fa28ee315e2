import Derived.Test.YthdbbamkjmogfaaDoorAbsSHc
set_option linter.unusedVariables false
set_option linter.unusedSimpArgs false
set_option maxRecDepth 100000
set_option maxHeartbeats 4000000
namespace Go.Abs.GenS
open Go Go.Abs Go.Proofs Go.RowKit Go.Shelf
attribute [local go_sem] Oper.semAt_some
theorem i9 : (Tryd.prog.info? 9).map (fun i => (i.zero, i.size, i.bytes)) = some (some (.string ⟨#[]⟩), 1, 16) := by kernel_rfl
/-- what Base keeps between two rounds. -/
def baseI (w : World) (pre : List Piece) (W : World) : Prop :=
 (Boxed W w.heap.size 9 (.string ⟨#[]⟩) ∧ Boxed W (w.heap.size + 1) 4 (.bool false) ∧ (∃ v, Boxed W (w.heap.size + 1 + 1) 25 v ∧ W.ownsRow (w.heap.size + 4) 9 1 v pre.length (pre.map fun p => .string p.1) ∧ (v = .slice none 0 0 ↔ pre = [])) ∧ pre.all (fun p => p.2.2) = true ∧ w.heap.size + 4 ≤ W.heap.size) ∧ Below w.heap.size w W
def baseX (w : World) (c : Code) (pre : List Piece) (W : World) : Prop :=
 (c = .ret ∧ Boxed W w.heap.size 9 (.string ⟨#[]⟩) ∧ Boxed W (w.heap.size + 1) 4 (.bool false) ∧ pre.all (fun p => p.2.2) = false) ∧ Below w.heap.size w W
theorem baseI_own (w : World) (B : Nat) (hB : w.heap.size ≤ B) : OwnFrom B (baseI w) :=
 OwnFrom.and (Own.from (fun s X Y row hs hg hr => ⟨boxed_own _ _ _ () X Y row hs.1 hg hr, boxed_own _ _ _ () X Y row hs.2.1 hg hr,
  holdsRow_own (w.heap.size + 4) (w.heap.size + 1 + 1) 25 9 1 (fun pre : List Piece => pre.length) (fun pre => pre.map fun p => .string p.1) (fun pre v => (v = .slice none 0 0 ↔ pre = [])) s X Y row hs.2.2.1 hg hr, hs.2.2.2.1, Nat.le_trans hs.2.2.2.2 hg.size⟩) _) (ownFrom_below (Nat.le_refl _) hB)
theorem baseX_own (w : World) (B : Nat) (hB : w.heap.size ≤ B) (c : Code) : OwnFrom B (baseX w c) :=
 OwnFrom.and (Own.from (fun s X Y row hs hg hr => ⟨hs.1, boxed_own _ _ _ () X Y row hs.2.1 hg hr, boxed_own _ _ _ () X Y row hs.2.2.1 hg hr, hs.2.2.2⟩) _) (ownFrom_below (Nat.le_refl _) hB)
theorem boxed_set {W : World} {B B' : Nat} {t : TypeId} {v : Value} (h : Boxed W B t v) (v' : Value) (hne : B ≠ B') : Boxed (W.setCell ⟨B', 0, none⟩ v') B t v := (Below.heap_setCell W ⟨B', 0, none⟩ v' B hne).trans h
theorem boxed_put {W : World} {B l : Nat} {t : TypeId} {v : Value} (h : Boxed W B t v) (o : Obj) (hne : B ≠ l) : Boxed (W.putObj l o) B t v := (World.putObj_heap_other hne).trans h
theorem row_cells {W : World} {base : Nat} {e : TypeId} {n g cap : Nat} {xs : List Value} (h : W.ownsRow base e 1 (.slice (some ⟨g, 0, none⟩) n cap) n xs) (hn : n ≠ 0) : (∀ (j : Nat) u, xs[j]? = some u → W.cell? ⟨g, 0 + j, none⟩ = some u) ∧ n ≤ cap ∧ g < W.heap.size := by
 rcases h.2 with ⟨_, h0⟩ | ⟨g', cap', cur, he, _, hg, h1, h2, h3, h4⟩
 ·exact absurd h0 hn
 ·cases he
  refine ⟨fun j u hu => ?_, h1, (Array.getElem?_eq_some_iff.1 hg).1⟩
  rw [← h4, List.getElem?_take] at hu
  split at hu
  ·have : cur[j]? = some u := by simpa using hu
   simp [World.cell?, hg, this]
  ·cases hu
theorem lens_le (b : Nat) : ∀ xs : List (List UInt8), (∀ x ∈ xs, x.length ≤ b) → Lib.lens xs ≤ xs.length * b
 | [], _ => by simp [Lib.lens]
 | x :: xs, h => by
  have h1 := lens_le b xs fun y hy => h y (by simp [hy])
  have h2 := h x (by simp)
  simp only [Lib.lens, List.map_cons, List.sum_cons, List.length_cons] at h1 ⊢
  rw [Nat.add_mul]
  omega
theorem join_len (b : Nat) (xs : List (List UInt8)) (c : UInt8) (h : ∀ x ∈ xs, x.length ≤ b) : (Lib.join xs [c]).length ≤ xs.length * b + xs.length := by
 cases xs with
 | nil => simp [Lib.join_nil]
 | cons x r =>
  rw [Lib.join_length]
  have := lens_le b (x :: r) h
  simp only [List.length_cons, List.length_nil] at this ⊢
  omega
theorem sh_name (doc : ByteArray) (hd : doc.size ≤ 1048576) : ∀ p ∈ piecesS doc, p.1.size ≤ 1048576 := by
 intro p hp
 obtain ⟨s, hs, rfl⟩ := List.mem_map.mp hp
 exact Nat.le_trans (size_extract_le _ _ _) (Nat.le_trans (splS_size doc s hs) hd)
theorem base_calls (doc : ByteArray) (hd : doc.size ≤ 1048576) (w : World) : Calls Tryd.prog 11 #[.string doc] w fun e w' => e = .returned (.tuple #[.string (sh_base doc).1, .bool (sh_base doc).2]) ∧ Below w.heap.size w w' := by
 refine (callsIn_wide (n := 9)).1 ?_
 refine callsIn_of_wp_marks Tryd.func11 rfl trivial ?_ rfl
 simp only [Tryd.ntmps11, List.size_toArray, List.length_cons, List.length_nil, Nat.reduceAdd, Nat.reduceSub, Array.replicate_succ, Array.replicate_zero, List.push_toArray, List.append_toArray, List.nil_append, List.cons_append]
 gi_wp2_with (refine ⟨trivial, ?_⟩; gi_at_call 27; refine (callsIn_wide.2 (pieces_calls doc _)).mono ?_; rintro e w' ⟨rfl, rfl⟩)
 obtain ⟨W0, hW0⟩ : ∃ W0, (((w.alloc (.cells #[.string ⟨#[]⟩] 9)).alloc (.cells #[.bool false] 4)).alloc (.cells #[.slice none 0 0] 25)).alloc (.cells #[.string doc] 9) = W0 := ⟨_, rfl⟩
 rw [hW0]
 have hsz : W0.heap.size = w.heap.size + 4 := by rw [← hW0]; simp
 have hb0 : Below w.heap.size w W0 := by
  rw [← hW0]
  exact ((((Below.refl _ w).alloc (Nat.le_refl _) _).alloc (by simp) _).alloc (by simp; omega) _).alloc (by simp; omega) _
 have c0 : Boxed W0 w.heap.size 9 (.string ⟨#[]⟩) := by rw [← hW0]; exact (((Boxed.new w 9 _).alloc _).alloc _).alloc _
 have c1 : Boxed W0 (w.heap.size + 1) 4 (.bool false) := by
  rw [← hW0]; have := Boxed.new (w.alloc (.cells #[.string ⟨#[]⟩] 9)) 4 (.bool false); rw [World.size_alloc] at this; exact (this.alloc _).alloc _
 have c2 : Boxed W0 (w.heap.size + 1 + 1) 25 (.slice none 0 0) := by
  rw [← hW0]; have := Boxed.new ((w.alloc (.cells #[.string ⟨#[]⟩] 9)).alloc (.cells #[.bool false] 4)) 25 (.slice none 0 0); rw [World.size_alloc, World.size_alloc] at this; exact this.alloc _
 have c3 : Boxed W0 (w.heap.size + 1 + 1 + 1) 9 (.string doc) := by
  rw [← hW0]; have := Boxed.new (((w.alloc (.cells #[.string ⟨#[]⟩] 9)).alloc (.cells #[.bool false] 4)).alloc (.cells #[.slice none 0 0] 25)) 9 (.string doc); rw [World.size_alloc, World.size_alloc, World.size_alloc] at this; exact this
 obtain ⟨i0, hi, hz0, hz1, hz2⟩ := info_parts i9
 have hpl : (piecesS doc).length ≤ 1048577 := by rw [piecesS, List.length_map]; have := splS_len doc; omega
 clear hW0
 refine wpIn_rangeFunc_ownH rfl (by decide) (gf := 36) (lb := #[.pointer (some ⟨w.heap.size + 1 + 1 + 1, 0, none⟩)]) rfl trivial (enters_of Tryd.func36 (by kernel_rfl) rfl)
  (it_stops _ (by decide) (w.heap.size + 1 + 1 + 1) (w.heap.size + 1 + 1) doc hd W0 (by omega) (by omega) (ownB_box c2) c3.cell) KeepB.trans
  (fun W l o o' hl h hc _ => KeepB.putObj o' h hc (by omega)) (Below.refl _ _) (fun _ => rfl)
  (baseI w) (baseX w) ?hI ?hIx ⟨⟨c0, c1, ⟨_, c2, World.ownsRow_nil _ _ _ _, by simp⟩, rfl, by omega⟩, hb0⟩
  (fun x a' W => ∃ Bx, w.heap.size + 4 ≤ Bx ∧ W.heap[Bx]? = some (.cells #[.string x.1, .int .i64 x.2.1] 39 (0, 0)) ∧ a' = { tmps := #[.string doc, undef, .pointer (some ⟨w.heap.size, 0, none⟩), .pointer (some ⟨w.heap.size + 1, 0, none⟩), .pointer (some ⟨w.heap.size + 1 + 1, 0, none⟩), .pointer (some ⟨Bx, 0, none⟩), .bool x.2.2, .string doc, .func (.func 36) #[] #[.pointer (some ⟨w.heap.size + 1 + 1 + 1, 0, none⟩)], .agg #[.string x.1, .int .i64 x.2.1], .bool x.2.2, undef, undef, undef, undef, undef, undef, undef, undef, undef], defers := [] })
  ?hAx ?assign ?body ?done ?stop
 case hI => exact baseI_own w _ (by omega)
 case hIx => exact fun c => baseX_own w _ (by omega) c
 case hAx =>
  intro x a' s X Y row ⟨Bx, h1, h2, h3⟩ hg hr
  exact ⟨Bx, h1, block_own Bx _ rfl () X Y row h2 hg (fun r e => (hr r e).2), h3⟩
 case assign =>
  intro l pre x W K hi hK
  have hB : w.heap.size + 1 + 1 < W.heap.size := by have := hi.1.2.2.2.2; omega
  have hB4 := hi.1.2.2.2.2
  have hi' := (baseI_own w _ (Nat.le_refl _)).alloc (.cells #[.string x.1, .int .i64 x.2.1] 39) hi
  gi_wp2
  exact hK _ _ ((KeepsOthers.alloc _ _).from _) (KeepB.of_below ((Below.refl _ W).alloc (Nat.le_refl _) _) hB) hi' ⟨W.heap.size, hB4, World.alloc_heap_new W _, rfl⟩
 case body =>
  rintro l pre ⟨nm, nb, ok⟩ a' W hl ⟨r, hr⟩ ⟨⟨b0, b1, ⟨v, hv, hrow, hnil⟩, hall, hsz'⟩, hbl⟩ ⟨Bx, hBx, hbx, rfl⟩ hlt
  have hc0 := b0.cell
  have hf0 := b0.frozen
  have hc1 := b1.cell
  have hf1 := b1.frozen
  have hcv := hv.cell
  cases ok with
  | false =>
   gi_wp2
   exact ⟨((KeepsOthers.setCell _ _ _).trans (KeepsOthers.setCell _ _ _)).from _, ⟨rfl, boxed_set (b0.set _) _ (by omega), (boxed_set b1 _ (by omega)).set _, by simp [hall]⟩, (hbl.setCell (p := ⟨w.heap.size, 0, none⟩) (Nat.le_refl _) _).setCell (p := ⟨w.heap.size + 1, 0, none⟩) (by simp) _⟩
  | true =>
   have hbc : W.cell? ⟨Bx, 0, none⟩ = some (.string nm) := by simp [World.cell?, hbx]
   gi_wp2_with (gi_at_builtin; refine wpListIn_append_own _ rfl _ _ 25 rfl (baseB (w.heap.size + 1 + 1) W) 9 i0 (.string ⟨#[]⟩) 1 16 Tryd.underlying25 hi hz0 hz1 hz2 rfl (by decide) _ _ _ rfl ((owns_at hv hrow).alloc _) ⟨W.heap.size, 0, none⟩ 1 1 [.string nm] rfl rfl (cell_one_new _ _ _) (by simp [Value.oneCell']) (by unfold maxLen; omega) (by omega) (by have := (base_le hv hrow hsz').2; simp; omega) ?_; intro v' w1 hown' hgrow _; obtain ⟨g', cap', rfl⟩ := ownsRow_succ hown'; have hap := appended hv (by decide) hrow (by omega) hsz' (by omega) hown' hgrow; have hv1 : Boxed w1 (w.heap.size + 1 + 1) 25 v := (hv.alloc _).kept hgrow (hv.not_row (by decide) hrow); have hcw := hv1.cell; have hfw := hv1.frozen)
   exact ⟨hap.from_.from _, hap.keep, ⟨(hap.same _ (by omega) (by omega)).trans b0, (hap.same _ (by omega) (by omega)).trans b1, ⟨_, hap.box, by simpa using hap.row, by simp⟩, by simp [hall], Nat.le_trans hsz' hap.from_.size⟩, hbl.trans (hap.below.mono (by omega))⟩
 case done =>
  rintro D xs W hD rfl ⟨⟨b0, b1, ⟨v, hv, hrow, hnil⟩, hall, hsz'⟩, hbl⟩ hK
  have hne : (piecesS doc).length ≠ 0 := by
   intro h
   rw [piecesS, List.length_map] at h
   exact splS_ne doc (List.length_eq_zero_iff.mp h)
  obtain ⟨g, cap, rfl⟩ : ∃ g cap, v = .slice (some ⟨g, 0, none⟩) (piecesS doc).length cap := by
   rcases hrow.2 with ⟨_, h0⟩ | ⟨g, cap, _, rfl, _⟩
   ·exact absurd h0 hne
   ·exact ⟨g, cap, rfl⟩
  obtain ⟨hcells, hcap, hg⟩ := row_cells hrow hne
  have hjl : (Lib.join (((piecesS doc).map fun p => p.1).map (·.data.toList)) (⟨#[46]⟩ : ByteArray).data.toList).length ≤ 140737488355328 := by
   have := join_len 1048576 (((piecesS doc).map fun p => p.1).map (·.data.toList)) 46 (fun y hy => by
    simp only [List.map_map, List.mem_map] at hy
    obtain ⟨p, hp, rfl⟩ := hy
    have := sh_name doc hd p hp
    rwa [← us_len] at this)
   simp only [List.length_map] at this
   refine Nat.le_trans this ?_
   omega
  have hJ := Tryd.strings_Join g 0 cap ((piecesS doc).map fun p => p.1) ⟨#[46]⟩ W (fun j x hx => hcells j _ (by rw [List.getElem?_map] at hx ⊢; cases h : (piecesS doc)[j]? with
   | none => rw [h] at hx; cases hx
   | some p => rw [h] at hx; simp only [Option.map_some, Option.some.injEq] at hx ⊢; rw [hx])) hg (by rw [List.length_map]; omega) (by rw [List.length_map]; exact hcap) hjl
  rw [List.length_map] at hJ
  have hB : (⟨(Lib.join (((piecesS doc).map fun p => p.1).map (·.data.toList)) (⟨#[46]⟩ : ByteArray).data.toList).toArray⟩ : ByteArray) = (sh_base doc).1 := by
   have : sh_ok doc = true := hall
   rw [sh_base, if_pos this, List.map_map]
   rfl
  rw [hB] at hJ
  have hcv := hv.cell
  gi_wp2_with (refine ⟨trivial, ?_⟩; gi_at_call 28; refine (callsIn_wide.2 hJ).mono ?_; rintro e w2 ⟨rfl, hb2⟩; have d0 : Boxed w2 w.heap.size 9 (.string ⟨#[]⟩) := (hb2.block _ b0.lt).trans b0; have d1 : Boxed w2 (w.heap.size + 1) 4 (.bool false) := (hb2.block _ b1.lt).trans b1; have e0 := d0.cell; have e1 := d0.frozen; have e2 := d1.cell; have e3 := d1.frozen)
  have hKw : w2.heap[D]? = some (.deferred (some [])) := (hb2.block D (Array.getElem?_eq_some_iff.1 hK).1).trans hK
  have hK' := ((KeepsOthers.setCell w2 ⟨w.heap.size, 0, none⟩ (.string (sh_base doc).1)).trans (KeepsOthers.setCell _ ⟨w.heap.size + 1, 0, none⟩ (.bool true))).same D _ hKw rfl
  refine ⟨by simp, .inl ⟨_, _, rfl, run_takeDeferred hK', ?_⟩⟩
  have f0 := (boxed_put (boxed_set (d0.set (.string (sh_base doc).1)) (.bool true) (by omega : w.heap.size ≠ w.heap.size + 1)) (.deferred none) (by omega : w.heap.size ≠ D)).cell
  have f1 := (boxed_put ((boxed_set d1 (.string (sh_base doc).1) (by omega : w.heap.size + 1 ≠ w.heap.size)).set (.bool true)) (.deferred none) (by omega : w.heap.size + 1 ≠ D)).cell
  have hyes : (sh_base doc).2 = true := by
   have : sh_ok doc = true := hall
   rw [sh_base, if_pos this]
  refine ⟨.tuple #[.string (sh_base doc).1, .bool true], ?_, by rw [hyes], ?_⟩
  ·simp [results, Tryd.f11, go_sem, f0, f1]
  ·exact (((hbl.trans (hb2.mono (by omega))).setCell (p := ⟨w.heap.size, 0, none⟩) (Nat.le_refl _) _).setCell (p := ⟨w.heap.size + 1, 0, none⟩) (by simp) _).trans (belowK_b (w := w) (Nat.le_refl _) _ D _ _ (by omega) hK' rfl rfl)
 case stop =>
  rintro D c pre W hD hpre ⟨⟨rfl, b0, b1, hall⟩, hbl⟩ hK
  gi_wp2
  refine ⟨by simp, .inl ⟨_, _, rfl, run_takeDeferred hK, ?_⟩⟩
  have e0 := (boxed_put b0 (.deferred none) (by omega : w.heap.size ≠ D)).cell
  have e1 := (boxed_put b1 (.deferred none) (by omega : w.heap.size + 1 ≠ D)).cell
  have hno : sh_ok doc = false := by
   obtain ⟨q, hq⟩ := hpre
   rw [sh_ok, ← hq, List.all_append, hall]; rfl
  refine ⟨.tuple #[.string ⟨#[]⟩, .bool false], ?_, ?_, hbl.trans (belowK_b (w := w) (Nat.le_refl _) W D _ _ (by omega) hK rfl rfl)⟩
  ·simp [results, Tryd.f11, go_sem, e0, e1]
  ·rw [sh_base, if_neg (by rw [hno]; decide)]
end Go.Abs.GenS
