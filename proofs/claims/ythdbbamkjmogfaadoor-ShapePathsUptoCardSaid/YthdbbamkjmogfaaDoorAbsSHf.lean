import Derived.Test.YthdbbamkjmogfaaDoorAbsSHe
set_option linter.unusedVariables false
set_option linter.unusedSimpArgs false
set_option maxRecDepth 100000
set_option maxHeartbeats 4000000
namespace Go.Abs.GenS
open Go Go.Abs Go.Proofs Go.RowKit Go.Shelf
attribute [local go_sem] Oper.semAt_some
/-- what Last keeps between two rounds. -/
def lastI (w : World) (pre : List Piece) (W : World) : Prop :=
 (Boxed W w.heap.size 9 (.string ⟨#[]⟩) ∧ Boxed W (w.heap.size + 1) 3 (.int .i64 0) ∧ W.heap[w.heap.size + 1 + 1]? = some (.cells #[.string (lastP pre (⟨#[]⟩, 0)).1, .int .i64 (lastP pre (⟨#[]⟩, 0)).2] 39 (0, 0)) ∧ pre.all (fun p => p.2.2) = true ∧ w.heap.size + 4 ≤ W.heap.size) ∧ Below w.heap.size w W
def lastX (w : World) (c : Code) (pre : List Piece) (W : World) : Prop :=
 (c = .ret ∧ Boxed W w.heap.size 9 (.string ⟨#[]⟩) ∧ Boxed W (w.heap.size + 1) 3 (.int .i64 0) ∧ pre.all (fun p => p.2.2) = false) ∧ Below w.heap.size w W
theorem lastI_own (w : World) (B : Nat) (hB : w.heap.size ≤ B) : OwnFrom B (lastI w) :=
 OwnFrom.and (Own.from (fun s X Y row hs hg hr => ⟨boxed_own _ _ _ () X Y row hs.1 hg hr, boxed_own _ _ _ () X Y row hs.2.1 hg hr, block_own _ _ rfl () X Y row hs.2.2.1 hg hr, hs.2.2.2.1, Nat.le_trans hs.2.2.2.2 hg.size⟩) _) (ownFrom_below (Nat.le_refl _) hB)
theorem lastX_own (w : World) (B : Nat) (hB : w.heap.size ≤ B) (c : Code) : OwnFrom B (lastX w c) :=
 OwnFrom.and (Own.from (fun s X Y row hs hg hr => ⟨hs.1, boxed_own _ _ _ () X Y row hs.2.1 hg hr, boxed_own _ _ _ () X Y row hs.2.2.1 hg hr, hs.2.2.2⟩) _) (ownFrom_below (Nat.le_refl _) hB)
theorem lastP_snoc (pre : List Piece) (x : Piece) : ∀ z, lastP (pre ++ [x]) z = (x.1, x.2.1) := by
 induction pre with
 | nil => intro z; rfl
 | cons p ps ih => intro z; exact ih _
theorem set2 {W : World} {M : Nat} {t : TypeId} {a b : Value} (x y : Value) (h : W.heap[M]? = some (.cells #[a, b] t (0, 0))) : ((W.setCell ⟨M, 0, none⟩ x).setCell ⟨M, 1, none⟩ y).heap[M]? = some (.cells #[x, y] t (0, 0)) := by
 obtain ⟨hlt, hk⟩ := Array.getElem?_eq_some_iff.1 h
 have h1 : (W.setCell ⟨M, 0, none⟩ x).heap[M]? = some (.cells #[x, b] t (0, 0)) := by
  show (W.heap.modify M _)[M]? = _
  rw [Array.getElem?_eq_getElem (by rw [Array.size_modify]; exact hlt), Array.getElem_modify_self, hk]
  rfl
 obtain ⟨hlt1, hk1⟩ := Array.getElem?_eq_some_iff.1 h1
 show ((W.setCell ⟨M, 0, none⟩ x).heap.modify M _)[M]? = _
 rw [Array.getElem?_eq_getElem (by rw [Array.size_modify]; exact hlt1), Array.getElem_modify_self, hk1]
 rfl
theorem set2_same {W : World} {M : Nat} (x y : Value) (k : Nat) (hk : k ≠ M) : ((W.setCell ⟨M, 0, none⟩ x).setCell ⟨M, 1, none⟩ y).heap[k]? = W.heap[k]? :=
 (Below.heap_setCell _ ⟨M, 1, none⟩ y k hk).trans (Below.heap_setCell W ⟨M, 0, none⟩ x k hk)
theorem set2_keep {W : World} {M : Nat} {t : TypeId} {a b : ByteArray} {n m : Int} (h : W.heap[M]? = some (.cells #[.string a, .int .i64 n] t (0, 0))) : KeepB M W ((W.setCell ⟨M, 0, none⟩ (.string b)).setCell ⟨M, 1, none⟩ (.int .i64 m)) := by
 refine ⟨((KeepsOthers.setCell W _ _).trans (KeepsOthers.setCell _ _ _)).size, fun k o hk _ hM _ => (set2_same _ _ k hM).trans hk, .inl ?_⟩
 have h2 := set2 (.string b) (.int .i64 m) h
 simp [ownB, World.cell?, h, h2, Value.ownBlock]
theorem last12_calls (doc : ByteArray) (hd : doc.size ≤ 1048576) (w : World) : Calls Tryd.prog 12 #[.string doc] w fun e w' => e = .returned (.tuple #[.string (sh_last doc).1, .int .i64 (sh_last doc).2]) ∧ Below w.heap.size w w' := by
 refine (callsIn_wide (n := 9)).1 ?_
 refine callsIn_of_wp_marks Tryd.func12 rfl trivial ?_ rfl
 simp only [Tryd.ntmps12, List.size_toArray, List.length_cons, List.length_nil, Nat.reduceAdd, Nat.reduceSub, Array.replicate_succ, Array.replicate_zero, List.push_toArray, List.append_toArray, List.nil_append, List.cons_append]
 gi_wp2_with (refine ⟨trivial, ?_⟩; gi_at_call 27; refine (callsIn_wide.2 (pieces_calls doc _)).mono ?_; rintro e w' ⟨rfl, rfl⟩)
 obtain ⟨W0, hW0⟩ : ∃ W0, (((w.alloc (.cells #[.string ⟨#[]⟩] 9)).alloc (.cells #[.int .i64 0] 3)).alloc (.cells #[.string ⟨#[]⟩, .int .i64 0] 39)).alloc (.cells #[.string doc] 9) = W0 := ⟨_, rfl⟩
 rw [hW0]
 have hsz : W0.heap.size = w.heap.size + 4 := by rw [← hW0]; simp
 have hb0 : Below w.heap.size w W0 := by
  rw [← hW0]
  exact ((((Below.refl _ w).alloc (Nat.le_refl _) _).alloc (by simp) _).alloc (by simp; omega) _).alloc (by simp; omega) _
 have c0 : Boxed W0 w.heap.size 9 (.string ⟨#[]⟩) := by rw [← hW0]; exact (((Boxed.new w 9 _).alloc _).alloc _).alloc _
 have c1 : Boxed W0 (w.heap.size + 1) 3 (.int .i64 0) := by
  rw [← hW0]; have := Boxed.new (w.alloc (.cells #[.string ⟨#[]⟩] 9)) 3 (.int .i64 0); rw [World.size_alloc] at this; exact (this.alloc _).alloc _
 have c2 : W0.heap[w.heap.size + 1 + 1]? = some (.cells #[.string ⟨#[]⟩, .int .i64 0] 39 (0, 0)) := by
  rw [← hW0]; have := World.alloc_heap_new ((w.alloc (.cells #[.string ⟨#[]⟩] 9)).alloc (.cells #[.int .i64 0] 3)) (.cells #[.string ⟨#[]⟩, .int .i64 0] 39); rw [World.size_alloc, World.size_alloc] at this; exact (Below.heap_alloc _ _ _ (by simp)).trans this
 have c3 : Boxed W0 (w.heap.size + 1 + 1 + 1) 9 (.string doc) := by
  rw [← hW0]; have := Boxed.new (((w.alloc (.cells #[.string ⟨#[]⟩] 9)).alloc (.cells #[.int .i64 0] 3)).alloc (.cells #[.string ⟨#[]⟩, .int .i64 0] 39)) 9 (.string doc); rw [World.size_alloc, World.size_alloc, World.size_alloc] at this; exact this
 have hpl : (piecesS doc).length ≤ 1048577 := by rw [piecesS, List.length_map]; have := splS_len doc; omega
 clear hW0
 refine wpIn_rangeFunc_ownH rfl (by decide) (gf := 36) (lb := #[.pointer (some ⟨w.heap.size + 1 + 1 + 1, 0, none⟩)]) rfl trivial (enters_of Tryd.func36 (by kernel_rfl) rfl)
  (it_stops _ (by decide) (w.heap.size + 1 + 1 + 1) (w.heap.size + 1 + 1) doc hd W0 (by omega) (by omega) (by simp [ownB, World.cell?, c2, Value.ownBlock]) c3.cell) KeepB.trans
  (fun W l o o' hl h hc _ => KeepB.putObj o' h hc (by omega)) (Below.refl _ _) (fun _ => rfl)
  (lastI w) (lastX w) ?hI ?hIx ⟨⟨c0, c1, c2, rfl, by omega⟩, hb0⟩
  (fun x a' W => ∃ Bx, w.heap.size + 4 ≤ Bx ∧ W.heap[Bx]? = some (.cells #[.string x.1, .int .i64 x.2.1] 39 (0, 0)) ∧ a' = { tmps := #[.string doc, undef, .pointer (some ⟨w.heap.size, 0, none⟩), .pointer (some ⟨w.heap.size + 1, 0, none⟩), .pointer (some ⟨w.heap.size + 1 + 1, 0, none⟩), .pointer (some ⟨Bx, 0, none⟩), .bool x.2.2, .string doc, .func (.func 36) #[] #[.pointer (some ⟨w.heap.size + 1 + 1 + 1, 0, none⟩)], .agg #[.string x.1, .int .i64 x.2.1], .bool x.2.2, undef, undef, undef, undef, undef, undef, undef], defers := [] })
  ?hAx ?assign ?body ?done ?stop
 case hI => exact lastI_own w _ (by omega)
 case hIx => exact fun c => lastX_own w _ (by omega) c
 case hAx =>
  intro x a' s X Y row ⟨Bx, h1, h2, h3⟩ hg hr
  exact ⟨Bx, h1, block_own Bx _ rfl () X Y row h2 hg (fun r e => (hr r e).2), h3⟩
 case assign =>
  intro l pre x W K hi hK
  have hB : w.heap.size + 1 + 1 < W.heap.size := by have := hi.1.2.2.2.2; omega
  have hB4 := hi.1.2.2.2.2
  have hi' := (lastI_own w _ (Nat.le_refl _)).alloc (.cells #[.string x.1, .int .i64 x.2.1] 39) hi
  gi_wp2
  exact hK _ _ ((KeepsOthers.alloc _ _).from _) (KeepB.of_below ((Below.refl _ W).alloc (Nat.le_refl _) _) hB) hi' ⟨W.heap.size, hB4, World.alloc_heap_new W _, rfl⟩
 case body =>
  rintro l pre ⟨nm, nb, ok⟩ a' W hl ⟨r, hr⟩ ⟨⟨b0, b1, hv, hall, hsz'⟩, hbl⟩ ⟨Bx, hBx, hbx, rfl⟩ hlt
  have hc0 := b0.cell
  have hf0 := b0.frozen
  have hc1 := b1.cell
  have hf1 := b1.frozen
  cases ok with
  | false =>
   gi_wp2
   exact ⟨((KeepsOthers.setCell _ _ _).trans (KeepsOthers.setCell _ _ _)).from _, ⟨rfl, boxed_set (b0.set _) _ (by omega), (boxed_set b1 _ (by omega)).set _, by simp [hall]⟩, (hbl.setCell (p := ⟨w.heap.size, 0, none⟩) (Nat.le_refl _) _).setCell (p := ⟨w.heap.size + 1, 0, none⟩) (by simp) _⟩
  | true =>
   have hbc : W.cell? ⟨Bx, 0, none⟩ = some (.string nm) := by simp [World.cell?, hbx]
   have hbd : W.cell? ⟨Bx, 1, none⟩ = some (.int .i64 nb) := by simp [World.cell?, hbx]
   have hv0 : W.cell? ⟨w.heap.size + 1 + 1, 0, none⟩ = some (.string (lastP pre (⟨#[]⟩, 0)).1) := by simp [World.cell?, hv]
   have hv1 : W.cell? ⟨w.heap.size + 1 + 1, 1, none⟩ = some (.int .i64 (lastP pre (⟨#[]⟩, 0)).2) := by simp [World.cell?, hv]
   have hv2 : W.frozen? ⟨w.heap.size + 1 + 1, 0, none⟩ = false := by simp [World.frozen?, hv]
   have hv3 : W.frozen? ⟨w.heap.size + 1 + 1, 1, none⟩ = false := by simp [World.frozen?, hv]
   gi_wp2
   exact ⟨((KeepsOthers.setCell _ _ _).trans (KeepsOthers.setCell _ _ _)).from _, set2_keep hv, ⟨(set2_same _ _ _ (by omega)).trans b0, (set2_same _ _ _ (by omega)).trans b1, by rw [lastP_snoc]; exact set2 _ _ hv, by simp [hall], Nat.le_trans hsz' ((KeepsOthers.setCell W _ _).trans (KeepsOthers.setCell _ _ _)).size⟩,
    (hbl.setCell (p := ⟨w.heap.size + 1 + 1, 0, none⟩) (by simp; omega) _).setCell (p := ⟨w.heap.size + 1 + 1, 1, none⟩) (by simp; omega) _⟩
 case done =>
  rintro D xs W hD rfl ⟨⟨b0, b1, hv, hall, hsz'⟩, hbl⟩ hK
  have e0 := b0.cell
  have e1 := b0.frozen
  have e2 := b1.cell
  have e3 := b1.frozen
  have hv0 : W.cell? ⟨w.heap.size + 1 + 1, 0, none⟩ = some (.string (lastP (piecesS doc) (⟨#[]⟩, 0)).1) := by simp [World.cell?, hv]
  have hv1 : W.cell? ⟨w.heap.size + 1 + 1, 1, none⟩ = some (.int .i64 (lastP (piecesS doc) (⟨#[]⟩, 0)).2) := by simp [World.cell?, hv]
  have hmx : Tryd.prog.follows .mixedOrders = true := by kernel_rfl
  gi_wp2
  first | gi_region_with_o fail | skip
  all_goals gi_wp2
  all_goals (
   obtain ⟨z, hz⟩ : ∃ z, lastP (piecesS doc) ((⟨#[]⟩ : ByteArray), 0) = z := ⟨_, rfl⟩
   rw [hz]
   have hK' := (((KeepsOthers.setCell W ⟨w.heap.size, 0, none⟩ (.string z.1)).trans (KeepsOthers.setCell _ ⟨w.heap.size + 1, 0, none⟩ (.int .i64 z.2))).trans (KeepsOthers.drew _)).same D _ hK rfl
   refine ⟨by simp, .inl ⟨_, _, rfl, run_takeDeferred hK', ?_⟩⟩
   have f0 : Boxed ((W.setCell ⟨w.heap.size, 0, none⟩ (.string z.1)).setCell ⟨w.heap.size + 1, 0, none⟩ (.int .i64 z.2)).drew w.heap.size 9 (.string z.1) := boxed_set (b0.set (.string z.1)) (.int .i64 z.2) (by omega : w.heap.size ≠ w.heap.size + 1)
   have f1 : Boxed ((W.setCell ⟨w.heap.size, 0, none⟩ (.string z.1)).setCell ⟨w.heap.size + 1, 0, none⟩ (.int .i64 z.2)).drew (w.heap.size + 1) 3 (.int .i64 z.2) := (boxed_set b1 (.string z.1) (by omega : w.heap.size + 1 ≠ w.heap.size)).set (.int .i64 z.2)
   have g0 := (boxed_put f0 (.deferred none) (by omega : w.heap.size ≠ D)).cell
   have g1 := (boxed_put f1 (.deferred none) (by omega : w.heap.size + 1 ≠ D)).cell
   have hyes : sh_last doc = z := by
    have : sh_ok doc = true := hall
    rw [sh_last, if_pos this, hz]
   refine ⟨.tuple #[.string z.1, .int .i64 z.2], ?_, by rw [hyes], ?_⟩
   ·simp [results, Tryd.f12, go_sem, g0, g1]
   ·exact (((hbl.setCell (p := ⟨w.heap.size, 0, none⟩) (Nat.le_refl _) _).setCell (p := ⟨w.heap.size + 1, 0, none⟩) (by simp) _).drew).trans (belowK_b (w := w) (Nat.le_refl _) _ D _ _ (by omega) hK' rfl rfl))
 case stop =>
  rintro D c pre W hD hpre ⟨⟨rfl, b0, b1, hall⟩, hbl⟩ hK
  gi_wp2
  refine ⟨by simp, .inl ⟨_, _, rfl, run_takeDeferred hK, ?_⟩⟩
  have e0 := (boxed_put b0 (.deferred none) (by omega : w.heap.size ≠ D)).cell
  have e1 := (boxed_put b1 (.deferred none) (by omega : w.heap.size + 1 ≠ D)).cell
  have hno : sh_ok doc = false := by
   obtain ⟨q, hq⟩ := hpre
   rw [sh_ok, ← hq, List.all_append, hall]; rfl
  refine ⟨.tuple #[.string ⟨#[]⟩, .int .i64 0], ?_, ?_, hbl.trans (belowK_b (w := w) (Nat.le_refl _) W D _ _ (by omega) hK rfl rfl)⟩
  ·simp [results, Tryd.f12, go_sem, e0, e1]
  ·rw [sh_last, if_neg (by rw [hno]; decide)]
end Go.Abs.GenS
