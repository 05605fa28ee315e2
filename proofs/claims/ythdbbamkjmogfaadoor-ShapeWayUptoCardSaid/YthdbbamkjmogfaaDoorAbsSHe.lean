import Derived.Test.YthdbbamkjmogfaaDoorAbsSHd
set_option linter.unusedVariables false
set_option linter.unusedSimpArgs false
set_option maxRecDepth 100000
set_option maxHeartbeats 4000000
namespace Go.Abs.GenS
open Go Go.Abs Go.Proofs Go.RowKit Go.Shelf
attribute [local go_sem] Oper.semAt_some
theorem i39 : (Tryd.prog.info? 39).map (fun i => (i.zero, i.size, i.bytes)) = some (some (.agg #[.string ⟨#[]⟩, .int .i64 0]), 2, 24) := by kernel_rfl
/-- a part's cells. -/
abbrev pcells (p : Piece) : List Value := [.string p.1, .int .i64 p.2.1]
theorem cells_new (W : World) (cs : List Value) (t : TypeId) (j : Nat) (u : Value) (h : cs[j]? = some u) : (W.alloc (.cells cs.toArray t)).cell? (Addr.add ⟨W.heap.size, 0, none⟩ j) = some u := by
 have := World.alloc_heap_new W (.cells cs.toArray t)
 by_cases hj : j = 0
 ·subst hj
  simp only [Addr.add, World.cell?, if_true]
  rw [this]
  simpa using h
 ·simp only [Addr.add, World.cell?, hj, if_false]
  rw [this]
  simpa using h
/-- what list keeps between two rounds. -/
def listI (w : World) (pre : List Piece) (W : World) : Prop :=
 (Boxed W w.heap.size 34 (.slice none 0 0) ∧ Boxed W (w.heap.size + 1) 4 (.bool false) ∧ (∃ v, Boxed W (w.heap.size + 1 + 1) 34 v ∧ W.ownsRow (w.heap.size + 4) 39 2 v pre.length (pre.flatMap pcells) ∧ (v = .slice none 0 0 ↔ pre = [])) ∧ pre.all (fun p => p.2.2) = true ∧ w.heap.size + 4 ≤ W.heap.size) ∧ Below w.heap.size w W
def listX (w : World) (c : Code) (pre : List Piece) (W : World) : Prop :=
 (c = .ret ∧ Boxed W w.heap.size 34 (.slice none 0 0) ∧ Boxed W (w.heap.size + 1) 4 (.bool false) ∧ pre.all (fun p => p.2.2) = false) ∧ Below w.heap.size w W
theorem listI_own (w : World) (B : Nat) (hB : w.heap.size ≤ B) : OwnFrom B (listI w) :=
 OwnFrom.and (Own.from (fun s X Y row hs hg hr => ⟨boxed_own _ _ _ () X Y row hs.1 hg hr, boxed_own _ _ _ () X Y row hs.2.1 hg hr,
  holdsRow_own (w.heap.size + 4) (w.heap.size + 1 + 1) 34 39 2 (fun pre : List Piece => pre.length) (fun pre => pre.flatMap pcells) (fun pre v => (v = .slice none 0 0 ↔ pre = [])) s X Y row hs.2.2.1 hg hr, hs.2.2.2.1, Nat.le_trans hs.2.2.2.2 hg.size⟩) _) (ownFrom_below (Nat.le_refl _) hB)
theorem listX_own (w : World) (B : Nat) (hB : w.heap.size ≤ B) (c : Code) : OwnFrom B (listX w c) :=
 OwnFrom.and (Own.from (fun s X Y row hs hg hr => ⟨hs.1, boxed_own _ _ _ () X Y row hs.2.1 hg hr, boxed_own _ _ _ () X Y row hs.2.2.1 hg hr, hs.2.2.2⟩) _) (ownFrom_below (Nat.le_refl _) hB)
theorem list_calls (doc : ByteArray) (hd : doc.size ≤ 1048576) (w : World) : Calls Tryd.prog 17 #[.string doc] w fun e w' => ((sh_ok doc = true ∧ ∃ g cap, e = .returned (.tuple #[.slice (some ⟨g, 0, none⟩) (piecesS doc).length cap, .bool true]) ∧ w'.ownsRow w.heap.size 39 2 (.slice (some ⟨g, 0, none⟩) (piecesS doc).length cap) (piecesS doc).length ((piecesS doc).flatMap pcells)) ∨ (sh_ok doc = false ∧ e = .returned (.tuple #[.slice none 0 0, .bool false]))) ∧ Below w.heap.size w w' := by
 refine (callsIn_wide (n := 9)).1 ?_
 refine callsIn_of_wp_marks Tryd.func17 rfl trivial ?_ rfl
 simp only [Tryd.ntmps17, List.size_toArray, List.length_cons, List.length_nil, Nat.reduceAdd, Nat.reduceSub, Array.replicate_succ, Array.replicate_zero, List.push_toArray, List.append_toArray, List.nil_append, List.cons_append]
 gi_wp2_with (refine ⟨trivial, ?_⟩; gi_at_call 27; refine (callsIn_wide.2 (pieces_calls doc _)).mono ?_; rintro e w' ⟨rfl, rfl⟩)
 obtain ⟨W0, hW0⟩ : ∃ W0, (((w.alloc (.cells #[.slice none 0 0] 34)).alloc (.cells #[.bool false] 4)).alloc (.cells #[.slice none 0 0] 34)).alloc (.cells #[.string doc] 9) = W0 := ⟨_, rfl⟩
 rw [hW0]
 have hsz : W0.heap.size = w.heap.size + 4 := by rw [← hW0]; simp
 have hb0 : Below w.heap.size w W0 := by
  rw [← hW0]
  exact ((((Below.refl _ w).alloc (Nat.le_refl _) _).alloc (by simp) _).alloc (by simp; omega) _).alloc (by simp; omega) _
 have c0 : Boxed W0 w.heap.size 34 (.slice none 0 0) := by rw [← hW0]; exact (((Boxed.new w 34 _).alloc _).alloc _).alloc _
 have c1 : Boxed W0 (w.heap.size + 1) 4 (.bool false) := by
  rw [← hW0]; have := Boxed.new (w.alloc (.cells #[.slice none 0 0] 34)) 4 (.bool false); rw [World.size_alloc] at this; exact (this.alloc _).alloc _
 have c2 : Boxed W0 (w.heap.size + 1 + 1) 34 (.slice none 0 0) := by
  rw [← hW0]; have := Boxed.new ((w.alloc (.cells #[.slice none 0 0] 34)).alloc (.cells #[.bool false] 4)) 34 (.slice none 0 0); rw [World.size_alloc, World.size_alloc] at this; exact this.alloc _
 have c3 : Boxed W0 (w.heap.size + 1 + 1 + 1) 9 (.string doc) := by
  rw [← hW0]; have := Boxed.new (((w.alloc (.cells #[.slice none 0 0] 34)).alloc (.cells #[.bool false] 4)).alloc (.cells #[.slice none 0 0] 34)) 9 (.string doc); rw [World.size_alloc, World.size_alloc, World.size_alloc] at this; exact this
 obtain ⟨i0, hi, hz0, hz1, hz2⟩ := info_parts i39
 have hpl : (piecesS doc).length ≤ 1048577 := by rw [piecesS, List.length_map]; have := splS_len doc; omega
 clear hW0
 refine wpIn_rangeFunc_ownH rfl (by decide) (gf := 36) (lb := #[.pointer (some ⟨w.heap.size + 1 + 1 + 1, 0, none⟩)]) rfl trivial (enters_of Tryd.func36 (by kernel_rfl) rfl)
  (it_stops _ (by decide) (w.heap.size + 1 + 1 + 1) (w.heap.size + 1 + 1) doc hd W0 (by omega) (by omega) (ownB_box c2) c3.cell) KeepB.trans
  (fun W l o o' hl h hc _ => KeepB.putObj o' h hc (by omega)) (Below.refl _ _) (fun _ => rfl)
  (listI w) (listX w) ?hI ?hIx ⟨⟨c0, c1, ⟨_, c2, World.ownsRow_nil _ _ _ _, by simp⟩, rfl, by omega⟩, hb0⟩
  (fun x a' W => ∃ Bx, w.heap.size + 4 ≤ Bx ∧ W.heap[Bx]? = some (.cells #[.string x.1, .int .i64 x.2.1] 39 (0, 0)) ∧ a' = { tmps := #[.string doc, undef, .pointer (some ⟨w.heap.size, 0, none⟩), .pointer (some ⟨w.heap.size + 1, 0, none⟩), .pointer (some ⟨w.heap.size + 1 + 1, 0, none⟩), .pointer (some ⟨Bx, 0, none⟩), .bool x.2.2, .string doc, .func (.func 36) #[] #[.pointer (some ⟨w.heap.size + 1 + 1 + 1, 0, none⟩)], .agg #[.string x.1, .int .i64 x.2.1], .bool x.2.2, undef, undef, undef, undef, undef, undef, undef], defers := [] })
  ?hAx ?assign ?body ?done ?stop
 case hI => exact listI_own w _ (by omega)
 case hIx => exact fun c => listX_own w _ (by omega) c
 case hAx =>
  intro x a' s X Y row ⟨Bx, h1, h2, h3⟩ hg hr
  exact ⟨Bx, h1, block_own Bx _ rfl () X Y row h2 hg (fun r e => (hr r e).2), h3⟩
 case assign =>
  intro l pre x W K hi hK
  have hB : w.heap.size + 1 + 1 < W.heap.size := by have := hi.1.2.2.2.2; omega
  have hB4 := hi.1.2.2.2.2
  have hi' := (listI_own w _ (Nat.le_refl _)).alloc (.cells #[.string x.1, .int .i64 x.2.1] 39) hi
  gi_wp2
  exact hK _ _ ((KeepsOthers.alloc _ _).from _) (KeepB.of_below ((Below.refl _ W).alloc (Nat.le_refl _) _) hB) hi' ⟨W.heap.size, hB4, World.alloc_heap_new W _, rfl⟩
 case body =>
  rintro l pre ⟨nm, nb, ok⟩ a' W hl ⟨r, hr⟩ ⟨⟨b0, b1, ⟨v, hv, hrow, hnil⟩, hall, hsz'⟩, hbl⟩ ⟨Bx, hBx, hbx, rfl⟩ hlt
  have hc0 := b0.cell
  have hf0 := b0.frozen
  have hc1 := b1.cell
  have hf1 := b1.frozen
  have hcv := hv.cell
  cases ok with
  | false =>
   gi_wp2
   exact ⟨((KeepsOthers.setCell _ _ _).trans (KeepsOthers.setCell _ _ _)).from _, ⟨rfl, boxed_set (b0.set _) _ (by omega), (boxed_set b1 _ (by omega)).set _, by simp [hall]⟩, (hbl.setCell (p := ⟨w.heap.size, 0, none⟩) (Nat.le_refl _) _).setCell (p := ⟨w.heap.size + 1, 0, none⟩) (by simp) _⟩
  | true =>
   have hbc : W.cell? ⟨Bx, 0, none⟩ = some (.string nm) := by simp [World.cell?, hbx]
   have hbd : W.cell? ⟨Bx, 1, none⟩ = some (.int .i64 nb) := by simp [World.cell?, hbx]
   gi_wp2_with (gi_at_builtin; refine wpListIn_append_own _ rfl _ _ 34 rfl (baseB (w.heap.size + 1 + 1) W) 39 i0 (.agg #[.string ⟨#[]⟩, .int .i64 0]) 2 24 Tryd.underlying34 hi hz0 hz1 hz2 rfl (by decide) _ _ _ rfl ((owns_at hv hrow).alloc _) ⟨W.heap.size, 0, none⟩ 1 1 [.string nm, .int .i64 nb] rfl rfl (cells_new _ _ _) (by simp [Value.oneCell']) (by unfold maxLen; omega) (by omega) (by have := (base_le hv hrow hsz').2; simp; omega) ?_; intro v' w1 hown' hgrow _; obtain ⟨g', cap', rfl⟩ := ownsRow_succ hown'; have hap := appended hv (by decide) hrow (by omega) hsz' (by omega) hown' hgrow; have hv1 : Boxed w1 (w.heap.size + 1 + 1) 34 v := (hv.alloc _).kept hgrow (hv.not_row (by decide) hrow); have hcw := hv1.cell; have hfw := hv1.frozen)
   exact ⟨hap.from_.from _, hap.keep, ⟨(hap.same _ (by omega) (by omega)).trans b0, (hap.same _ (by omega) (by omega)).trans b1, ⟨_, hap.box, by simpa using hap.row, by simp⟩, by simp [hall], Nat.le_trans hsz' hap.from_.size⟩, hbl.trans (hap.below.mono (by omega))⟩
 case done =>
  rintro D xs W hD rfl ⟨⟨b0, b1, ⟨v, hv, hrow, hnil⟩, hall, hsz'⟩, hbl⟩ hK
  have hne : (piecesS doc).length ≠ 0 := by
   intro h
   rw [piecesS, List.length_map] at h
   exact splS_ne doc (List.length_eq_zero_iff.mp h)
  obtain ⟨g, cap, rfl⟩ : ∃ g cap, v = .slice (some ⟨g, 0, none⟩) (piecesS doc).length cap := by
   rcases hrow.2 with ⟨_, h0⟩ | ⟨g, cap, _, rfl, _⟩
   ·exact absurd h0 hne
   ·exact ⟨g, cap, rfl⟩
  have hcv := hv.cell
  have e0 := b0.cell
  have e1 := b0.frozen
  have e2 := b1.cell
  have e3 := b1.frozen
  gi_wp2
  have hK' := ((KeepsOthers.setCell W ⟨w.heap.size, 0, none⟩ (.slice (some ⟨g, 0, none⟩) (piecesS doc).length cap)).trans (KeepsOthers.setCell _ ⟨w.heap.size + 1, 0, none⟩ (.bool true))).same D _ hK rfl
  refine ⟨by simp, .inl ⟨_, _, rfl, run_takeDeferred hK', ?_⟩⟩
  have f0 := (boxed_put (boxed_set (b0.set (.slice (some ⟨g, 0, none⟩) (piecesS doc).length cap)) (.bool true) (by omega : w.heap.size ≠ w.heap.size + 1)) (.deferred none) (by omega : w.heap.size ≠ D)).cell
  have f1 := (boxed_put ((boxed_set b1 (.slice (some ⟨g, 0, none⟩) (piecesS doc).length cap) (by omega : w.heap.size + 1 ≠ w.heap.size)).set (.bool true)) (.deferred none) (by omega : w.heap.size + 1 ≠ D)).cell
  have hg4 := (hrow.lt g rfl).1
  have n0 : (Value.slice (some ⟨g, 0, none⟩) (piecesS doc).length cap).ownBlock ≠ some w.heap.size := fun e => by simp only [Value.ownBlock, Option.some.injEq] at e; omega
  have n1 : (Value.slice (some ⟨g, 0, none⟩) (piecesS doc).length cap).ownBlock ≠ some (w.heap.size + 1) := fun e => by simp only [Value.ownBlock, Option.some.injEq] at e; omega
  have r1 := (hrow.kept (grownBy_setCell' W w.heap.size (.slice (some ⟨g, 0, none⟩) (piecesS doc).length cap)) (.inr n0)).kept (grownBy_setCell' _ (w.heap.size + 1) (.bool true)) (.inr n1)
  have r2 := ownsRow_putObj r1 (.deferred none) hK' rfl
  refine ⟨.tuple #[.slice (some ⟨g, 0, none⟩) (piecesS doc).length cap, .bool true], ?_, .inl ⟨hall, g, cap, rfl, owns_base r2 fun g' e => by simp only [Value.ownBlock, Option.some.injEq] at e; omega⟩, ?_⟩
  ·simp [results, Tryd.f17, go_sem, f0, f1]
  ·exact ((hbl.setCell (p := ⟨w.heap.size, 0, none⟩) (Nat.le_refl _) _).setCell (p := ⟨w.heap.size + 1, 0, none⟩) (by simp) _).trans (belowK_b (w := w) (Nat.le_refl _) _ D _ _ (by omega) hK' rfl rfl)
 case stop =>
  rintro D c pre W hD hpre ⟨⟨rfl, b0, b1, hall⟩, hbl⟩ hK
  gi_wp2
  refine ⟨by simp, .inl ⟨_, _, rfl, run_takeDeferred hK, ?_⟩⟩
  have e0 := (boxed_put b0 (.deferred none) (by omega : w.heap.size ≠ D)).cell
  have e1 := (boxed_put b1 (.deferred none) (by omega : w.heap.size + 1 ≠ D)).cell
  have hno : sh_ok doc = false := by
   obtain ⟨q, hq⟩ := hpre
   rw [sh_ok, ← hq, List.all_append, hall]; rfl
  refine ⟨.tuple #[.slice none 0 0, .bool false], ?_, .inr ⟨hno, rfl⟩, hbl.trans (belowK_b (w := w) (Nat.le_refl _) W D _ _ (by omega) hK rfl rfl)⟩
  simp [results, Tryd.f17, go_sem, e0, e1]
end Go.Abs.GenS
