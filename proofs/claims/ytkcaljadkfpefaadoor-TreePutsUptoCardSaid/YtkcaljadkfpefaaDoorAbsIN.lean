import Derived.Test.YtkcaljadkfpefaaDoorAbsSG
import Derived.Test.YtkcaljadkfpefaaDoorProg
import Derived.Shelf.RegionOpenPlain
import Derived.WalkKit
import Derived.Lib.Walk
import Derived.Lib.SliceRun
import Derived.Lib.AppendZerosOnto
import Derived.Lib.Overlaps
import Derived.Laws.Externs
import Derived.Laws.IdiomCopy
import Derived.Laws.NewBlocks
import Derived.Shelf.Spec.SlicesInsertGrow
set_option linter.unusedVariables false
set_option linter.unusedSimpArgs false
set_option maxRecDepth 100000
set_option maxHeartbeats 4000000
namespace Go.Abs.Ins
open Go Go.Abs Go.Proofs Go.Shelf Go.RowKit Go.Lib
theorem run_copyN {P : Program} (w : World) (dT sT ty elem : TypeId) (sz b o dLen dCap : Nat) (a : Addr) (sLen sCap : Nat) (cs : List Value)
  (hu : P.underlying dT = some (.slice elem)) (hs : (P.info? elem).map (·.size) = some sz) (hn : cs.length = sz * Nat.min sLen dLen)
  (hsrc : ∀ j v, cs[j]? = some v → w.cell? (a.add j) = some v) (hc : ∀ j, j < cs.length → (w.cell? ⟨b, o + j, none⟩).isSome = true) (hf : ∀ j, j < cs.length → w.frozen? ⟨b, o + j, none⟩ = false) (h1 : ∀ v ∈ cs, v.oneCell' = true) :
  (Builtin.copy_ #[dT, sT] ty #[.slice (some ⟨b, o, none⟩) dLen dCap, .slice (some a) sLen sCap]).run P w = .ok (goInt (Nat.min sLen dLen : Nat)) (w.setCells b o cs) := by
 have hl := run_loadCells_list (P := P) w a cs hsrc
 have hst := run_storeCells_cells (P := P) b o cs 0 w (by simpa using hc) (by simpa using hf) h1
 cases hq : P.info? elem with
 | none => simp [hq] at hs
 | some i =>
  have hi : i.size = sz := by simpa [hq] using hs
  have hn' : cs.length = Nat.min sLen dLen * sz := by rw [hn, Nat.mul_comm]
  simp [Builtin.copy_, run_underlying hu, Builtin.lenOf, Builtin.firstCells, sizeOf, typeInfo, hq, hi, ← hn, ← hn', hl, hst]

theorem ins_shift (b n c i vb vc : Nat) (cs vs : List Value) (w : World) (hi : i < n) (hroom : n + 1 ≤ c) (hn63 : n ≤ 2000000000000) (hvb : vb ≠ b)
  (hcl : cs.length = n * 6) (hvl : vs.length = 6)
  (hcs : ∀ j v, cs[j]? = some v → w.cell? ⟨b, j, none⟩ = some v) (hsp : ∀ j, j < (n + 1) * 6 → (w.cell? ⟨b, j, none⟩).isSome = true) (hfz : ∀ j, j < (n + 1) * 6 → w.frozen? ⟨b, j, none⟩ = false)
  (hvs : ∀ j v, vs[j]? = some v → w.cell? ⟨vb, j, none⟩ = some v) (h1c : ∀ v ∈ cs, v.oneCell' = true) (h1v : ∀ v ∈ vs, v.oneCell' = true)
  (tA tB : TypeId) (kA kB : Nat) (hsa : w.shape? vb = some (tA, kA)) (hsb : w.shape? b = some (tB, kB)) (hkB : kB ≠ 0) (hfa : w.frozen? ⟨vb, 0, none⟩ = false) (hfe : w.frozen? ⟨vb, kA, none⟩ = false) :
  Calls Tryd.prog 20 #[.slice (some ⟨b, 0, none⟩) n c, .int .i64 i, .slice (some ⟨vb, 0, none⟩) 1 vc] w fun e w' =>
   e = .returned (.slice (some ⟨b, 0, none⟩) (n + 1) c) ∧ w' = (w.drew.setCells b ((i + 1) * 6) (cs.drop (i * 6))).setCells b (i * 6) vs := by
 have t22 := Tryd.underlying22
 have t3 := Tryd.underlying3
 have t4 := Tryd.underlying4
 have u22 := run_underlying Tryd.underlying22
 have u3 := run_underlying Tryd.underlying3
 have u4 := run_underlying Tryd.underlying4
 have mixed : Tryd.prog.follows .mixedOrders = true := by kernel_rfl
 have z28 : ∀ w, (Go.sizeOf 28).run Tryd.prog w = .ok 6 w := fun w => by
  obtain ⟨i0, hi0, h0, h1, h2⟩ := info_parts (by kernel_rfl : (Tryd.prog.info? 28).map (fun i => (i.zero, i.size, i.bytes)) = some (some (.agg #[(.string ⟨#[]⟩), (.string ⟨#[]⟩), (.int .i64 0), (.int .i64 0), (.slice none 0 0), (.int .i64 0)]), 6, 80))
  simp [Go.sizeOf, typeInfo, hi0, h1]
 have hsz : (Tryd.prog.info? 28).map (·.size) = some 6 := by kernel_rfl
 have hz2 : ¬ ((i : Int) = (n : Int)) := by omega
 have hov : ∀ lb cb, (callFunc 36 #[.slice (some ⟨vb, 0, none⟩) 1 vc, .slice (some ⟨b, (i + 1) * 6, none⟩) lb cb]).run Tryd.prog w = .ok (.value (.bool false)) w := fun lb cb => by
  rw [run_callFunc_extern Tryd.func36 (by kernel_rfl) (by kernel_rfl) (by kernel_rfl) (e := Extern.SlicesOverlaps.overlaps #[22, 22] #[4]) (by kernel_rfl),
   Lib.run_overlaps_apart w 22 4 28 Tryd.underlying22 6 z28 ⟨vb, 0, none⟩ ⟨b, (i + 1) * 6, none⟩ 1 vc lb cb hvb tA tB kA kB hsa hsb hkB hfa hfe]
  rfl
 have hw1 : IntKind.i64.wrap ((i : Int) + (1 : Int)) = (i : Int) + (1 : Int) := by rw [IntKind.wrap_i64]; omega
 have hw2 : IntKind.i64.wrap ((n : Int) + (1 : Int)) = (n : Int) + (1 : Int) := by rw [IntKind.wrap_i64]; omega
 have htn : ((i : Int) + (1 : Int)).toNat = i + 1 := by omega
 have htn2 : ((n : Int) + (1 : Int)).toNat = n + 1 := by omega
 have hnc : ¬ ((c : Int) < (n : Int) + (1 : Int)) := by omega
 have hb1 : (0 : Int) ≤ (i : Int) + (1 : Int) := by omega
 have hb3 : (i : Int) ≤ (n : Int) + (1 : Int) := by omega
 have hin : i ≤ n := by omega
 have hin1 : i ≤ n + 1 := by omega
 have hb4 : ¬ (c = i) := by omega
 have hb5 : ¬ (c = i + 1) := by omega
 have hdl : (cs.drop (i * 6)).length = (n - i) * 6 := by rw [List.length_drop, hcl]; omega
 have hcp1 : ∀ ty dc sc, (Builtin.copy_ #[22, 22] ty #[.slice (some ⟨b, (i + 1) * 6, none⟩) (n - i) dc, .slice (some ⟨b, i * 6, none⟩) (n + 1 - i) sc]).run Tryd.prog w.drew = .ok (goInt (n - i : Nat)) (w.drew.setCells b ((i + 1) * 6) (cs.drop (i * 6))) := fun ty dc sc => by
  have hmin : Nat.min (n + 1 - i) (n - i) = n - i := by simp only [Nat.min_def]; split <;> omega
  have := run_copyN (P := Tryd.prog) w.drew 22 22 ty 28 6 b ((i + 1) * 6) (n - i) dc ⟨b, i * 6, none⟩ (n + 1 - i) sc (cs.drop (i * 6)) Tryd.underlying22 hsz (by rw [hdl, hmin]; omega)
   (fun j v hj => by rw [Addr.add_lit]; exact hcs (i * 6 + j) v (by rwa [List.getElem?_drop] at hj))
   (fun j hj => hsp _ (by omega)) (fun j hj => hfz _ (by omega)) (fun v hv => h1c v (List.mem_of_mem_drop hv))
  rw [hmin] at this
  exact this
 obtain ⟨W1, hW1⟩ : ∃ W1, W1 = w.drew.setCells b ((i + 1) * 6) (cs.drop (i * 6)) := ⟨_, rfl⟩
 have hsp1 : ∀ k, k < (n + 1) * 6 → (W1.cell? ⟨b, k, none⟩).isSome = true := fun k hk => by
  rw [hW1]
  exact isSome_setCells b _ _ w.drew (fun j hj => hsp ((i + 1) * 6 + j) (by rw [hdl] at hj; omega)) _ (hsp k hk)
 have hcp2 : ∀ (W : World), (∀ x, W.cell? x = W1.cell? x) → (∀ x, W.frozen? x = W1.frozen? x) → ∀ ty dc, (Builtin.copy_ #[22, 22] ty #[.slice (some ⟨b, i * 6, none⟩) (n + 1 - i) dc, .slice (some ⟨vb, 0, none⟩) 1 vc]).run Tryd.prog W = .ok (goInt (1 : Nat)) (W.setCells b (i * 6) vs) := fun W hWc hWf ty dc => by
  have hmin : Nat.min 1 (n + 1 - i) = 1 := by simp only [Nat.min_def]; split <;> omega
  have := run_copyN (P := Tryd.prog) W 22 22 ty 28 6 b (i * 6) (n + 1 - i) dc ⟨vb, 0, none⟩ 1 vc vs Tryd.underlying22 hsz (by rw [hvl, hmin])
   (fun j v hj => by
    rw [Addr.add_lit, Nat.zero_add, hWc, hW1, World.cell?_setCells_out b _ _ _ _ (fun h _ => absurd h hvb)]
    exact hvs j v hj)
   (fun j hj => by rw [hWc]; exact hsp1 _ (by omega)) (fun j hj => by rw [hWf, hW1, World.frozen?_setCells]; exact hfz _ (by omega)) h1v
  rw [hmin] at this
  exact this
 rw [← hW1] at hcp1
 go_enter Tryd.func20, Tryd.ntmps20
 go_wp2_with (simp only [hov])
 go_region_law_o (refine step_copy_runI rfl _ _ 22 22 rfl _ _ (by simp [Act.eval, Act.put]) (by simp [Act.eval, Act.put]) (hcp1 _ _ _) ?_)
 go_wp2_with (at_builtin; refine wpList_copy_runI _ rfl _ _ 22 22 rfl _ _ rfl rfl (hcp2 _ (fun _ => rfl) (fun _ => rfl) _ _) ?_)
 go_ret
 first | exact ⟨rfl, rfl⟩ | exact ⟨rfl, by rw [hW1]⟩

theorem ins_grow (b n c i vb vc : Nat) (cs vs : List Value) (w : World) (hi : i < n) (hnc : n ≤ c) (hroom : c < n + 1) (hn : (n + 1) * 80 ≤ 140737488355328)
  (hcl : cs.length = n * 6) (hvl : vs.length = 6)
  (hcs : ∀ j v, cs[j]? = some v → w.cell? ⟨b, j, none⟩ = some v)
  (hvs : ∀ j v, vs[j]? = some v → w.cell? ⟨vb, j, none⟩ = some v) (h1c : ∀ v ∈ cs, v.oneCell' = true) (h1v : ∀ v ∈ vs, v.oneCell' = true) :
  Calls Tryd.prog 20 #[.slice (some ⟨b, 0, none⟩) n c, .int .i64 i, .slice (some ⟨vb, 0, none⟩) 1 vc] w fun e w' =>
   ∃ zs : Array Value, e = .returned (.slice (some ⟨w.heap.size, 0, none⟩) (n + 1) (grownCap w (n + 1) c 28)) ∧ zs.size = 6 ∧
    w' = (((w.alloc (.cells ((cs.take (i * 6)).toArray ++ Builtin.zeroCells zs (n + 1 - i) ++ Builtin.zeroCells zs (grownCap w (n + 1) c 28 - (n + 1))) 28)).drew.setCells w.heap.size (i * 6) vs).drew).setCells w.heap.size ((i + 1) * 6) (cs.drop (i * 6)) := by
 have t22 := Tryd.underlying22
 have t3 := Tryd.underlying3
 have t4 := Tryd.underlying4
 have u22 := run_underlying Tryd.underlying22
 have u3 := run_underlying Tryd.underlying3
 have u4 := run_underlying Tryd.underlying4
 have mixed : Tryd.prog.follows .mixedOrders = true := by kernel_rfl
 obtain ⟨i0, hi0, hz0, hzs, hzb⟩ := info_parts (by kernel_rfl : (Tryd.prog.info? 28).map (fun i => (i.zero, i.size, i.bytes)) = some (some (.agg #[(.string ⟨#[]⟩), (.string ⟨#[]⟩), (.int .i64 0), (.int .i64 0), (.slice none 0 0), (.int .i64 0)]), 6, 80))
 have z28 : ∀ w, (Go.sizeOf 28).run Tryd.prog w = .ok 6 w := fun w => by simp [Go.sizeOf, typeInfo, hi0, hzs]
 have hsz : (Tryd.prog.info? 28).map (·.size) = some 6 := by rw [hi0]; simp [hzs]
 have hz2 : ¬ ((i : Int) = (n : Int)) := by omega
 have hz3 : (c : Int) < (n : Int) + (1 : Int) := by omega
 have hbw : b < w.heap.size := block_lt_of_cell (hcs 0 _ (List.getElem?_eq_getElem (by omega)))
 have hvw : vb < w.heap.size := block_lt_of_cell (hvs 0 _ (List.getElem?_eq_getElem (by omega)))
 have hkk : (n : Int) + (1 : Int) - (i : Int) = ((n + 1 - i : Nat) : Int) := by omega
 have hik : i + (n + 1 - i) = n + 1 := by omega
 have hw2 : IntKind.i64.wrap ((n : Int) + (1 : Int)) = (n : Int) + (1 : Int) := by rw [IntKind.wrap_i64]; omega
 have hw3 : IntKind.i64.wrap ((n : Int) + (1 : Int) - (i : Int)) = (n : Int) + (1 : Int) - (i : Int) := by rw [IntKind.wrap_i64]; omega
 have hold : (Builtin.firstCells i0.size i (.slice (some ⟨b, 0, none⟩) i c)).run Tryd.prog w.drew = .ok (cs.take (i * 6)).toArray w.drew := by
  rw [hzs]
  exact run_firstCells_some w.drew 6 i ⟨b, 0, none⟩ i c (cs.take (i * 6)) (by rw [List.length_take]; omega) (fun j v hj => by
   rw [Addr.add_lit, Nat.zero_add]
   rw [List.getElem?_take] at hj
   split at hj
   ·exact hcs j v hj
   ·cases hj)
 obtain ⟨zs, hzse⟩ : ∃ zs : Array Value, zs = (Value.agg #[(.string ⟨#[]⟩), (.string ⟨#[]⟩), (.int .i64 0), (.int .i64 0), (.slice none 0 0), (.int .i64 0)]).cells := ⟨_, rfl⟩
 have hzss : zs.size = 6 := by rw [hzse]; rfl
 have hrz : ∀ ty, (Builtin.append_ #[22, 3] ty #[.slice (some ⟨b, 0, none⟩) i c, .int .i64 ((n : Int) + (1 : Int) - (i : Int))]).run Tryd.prog w =
   .ok (.slice (some ⟨w.heap.size, 0, none⟩) (n + 1) (grownCap w (n + 1) c 28)) (w.drew.alloc (.cells ((cs.take (i * 6)).toArray ++ Builtin.zeroCells zs (n + 1 - i) ++ Builtin.zeroCells zs (grownCap w (n + 1) c 28 - (n + 1))) 28)) := fun ty => by
  have h := Lib.run_append_grow_zeros w 22 3 ty 28 i0 _ .i64 .i64 Tryd.underlying22 Tryd.underlying3 hi0 hz0 (some ⟨b, 0, none⟩) i c (cs.take (i * 6)).toArray.toList (by simpa using hold) (n + 1 - i) (by omega) (by omega) (by omega) (by omega) (by rw [hzb]; omega) (by rw [hzb, hik]; exact growslice_fits (by omega) hn)
  rw [hik] at h
  rw [hkk, hzse]
  exact h
 obtain ⟨G, hG⟩ : ∃ G, G = grownCap w (n + 1) c 28 := ⟨_, rfl⟩
 obtain ⟨ROW, hROW⟩ : ∃ ROW : Array Value, ROW = (cs.take (i * 6)).toArray ++ Builtin.zeroCells zs (n + 1 - i) ++ Builtin.zeroCells zs (G - (n + 1)) := ⟨_, rfl⟩
 rw [← hG] at hrz ⊢
 rw [← hROW] at hrz
 have hRl : (n + 1) * 6 ≤ ROW.size := by
  rw [hROW]
  simp only [Array.size_append, size_zeroCells', List.size_toArray, List.length_take, hzss]
  omega
 have hG6 : ROW.size = G * 6 ∨ True := .inr trivial
 obtain ⟨W1, hW1⟩ : ∃ W1, W1 = w.drew.alloc (.cells ROW 28) := ⟨_, rfl⟩
 rw [← hW1] at hrz
 have hN : ∀ j, j < (n + 1) * 6 → (W1.cell? ⟨w.heap.size, j, none⟩).isSome = true := fun j hj => by
  rw [hW1, World.cell?_alloc_at (w := w.drew) ROW _ w.heap.size j rfl, Array.getElem?_eq_getElem (by omega)]; rfl
 have hNf : ∀ j, W1.frozen? ⟨w.heap.size, j, none⟩ = false := fun j => by rw [hW1]; exact World.frozen?_alloc_at (w := w.drew) ROW _ w.heap.size j rfl
 have hOb : ∀ j v, w.cell? ⟨b, j, none⟩ = some v → W1.cell? ⟨b, j, none⟩ = some v := fun j v h => by rw [hW1, World.cell?_alloc_past (w := w.drew) _ b j hbw]; exact h
 have hOv : ∀ j v, w.cell? ⟨vb, j, none⟩ = some v → W1.cell? ⟨vb, j, none⟩ = some v := fun j v h => by rw [hW1, World.cell?_alloc_past (w := w.drew) _ vb j hvw]; exact h
 have hcpA : ∀ (W : World), (∀ x, W.cell? x = W1.cell? x) → (∀ x, W.frozen? x = W1.frozen? x) → ∀ ty dc, (Builtin.copy_ #[22, 22] ty #[.slice (some ⟨w.heap.size, i * 6, none⟩) (n + 1 - i) dc, .slice (some ⟨vb, 0, none⟩) 1 vc]).run Tryd.prog W = .ok (goInt (1 : Nat)) (W.setCells w.heap.size (i * 6) vs) := fun W hWc hWf ty dc => by
  have hmin : Nat.min 1 (n + 1 - i) = 1 := by simp only [Nat.min_def]; split <;> omega
  have := run_copyN (P := Tryd.prog) W 22 22 ty 28 6 w.heap.size (i * 6) (n + 1 - i) dc ⟨vb, 0, none⟩ 1 vc vs Tryd.underlying22 hsz (by rw [hvl, hmin])
   (fun j v hj => by rw [Addr.add_lit, Nat.zero_add, hWc]; exact hOv _ v (hvs j v hj))
   (fun j hj => by rw [hWc]; exact hN _ (by omega)) (fun j hj => by rw [hWf]; exact hNf _) h1v
  rw [hmin] at this
  exact this
 have hGn : n + 1 ≤ G := by rw [hG]; exact grownCap_ge w _ _ _
 have hG63 : G ≤ 9223372036854775807 := by
  have := grownCap_le_maxLen w (n + 1) c 28 (by unfold maxLen; omega)
  rw [← hG] at this
  unfold maxLen at this
  omega
 have hGi : ¬ (G = i) := by omega
 have hGim : ¬ (G = i + 1) := by omega
 have hci : ¬ (c = i) := by omega
 have hbN : b ≠ w.heap.size := by omega
 have hdl : (cs.drop (i * 6)).length = (n - i) * 6 := by rw [List.length_drop, hcl]; omega
 have hcpB : ∀ (W : World), (∀ x, W.cell? x = (W1.setCells w.heap.size (i * 6) vs).cell? x) → (∀ x, W.frozen? x = (W1.setCells w.heap.size (i * 6) vs).frozen? x) → ∀ ty dc sc, (Builtin.copy_ #[22, 22] ty #[.slice (some ⟨w.heap.size, (i + 1) * 6, none⟩) (n - i) dc, .slice (some ⟨b, i * 6, none⟩) (n - i) sc]).run Tryd.prog W = .ok (goInt (n - i : Nat)) (W.setCells w.heap.size ((i + 1) * 6) (cs.drop (i * 6))) := fun W hWc hWf ty dc sc => by
  have hmin : Nat.min (n - i) (n - i) = n - i := Nat.min_self _
  have := run_copyN (P := Tryd.prog) W 22 22 ty 28 6 w.heap.size ((i + 1) * 6) (n - i) dc ⟨b, i * 6, none⟩ (n - i) sc (cs.drop (i * 6)) Tryd.underlying22 hsz (by rw [hdl, hmin]; omega)
   (fun j v hj => by
    rw [Addr.add_lit, hWc, World.cell?_setCells_out _ _ _ _ _ (fun h _ => absurd h hbN)]
    exact hOb _ v (hcs (i * 6 + j) v (by rwa [List.getElem?_drop] at hj)))
   (fun j hj => by rw [hWc]; exact isSome_setCells _ _ _ _ (fun t ht => hN (i * 6 + t) (by omega)) _ (hN _ (by rw [hdl] at hj; omega)))
   (fun j hj => by rw [hWf, World.frozen?_setCells]; exact hNf _) (fun v hv => h1c v (List.mem_of_mem_drop hv))
  rw [hmin] at this
  exact this
 subst hW1
 have hE1 : ∀ x, ((w.alloc (.cells ROW 28)).drew).cell? x = (w.drew.alloc (.cells ROW 28)).cell? x := fun x => rfl
 have hE2 : ∀ x, ((w.alloc (.cells ROW 28)).drew).frozen? x = (w.drew.alloc (.cells ROW 28)).frozen? x := fun x => rfl
 have hF1 : ∀ x, (((w.alloc (.cells ROW 28)).drew.setCells w.heap.size (i * 6) vs).drew).cell? x = ((w.drew.alloc (.cells ROW 28)).setCells w.heap.size (i * 6) vs).cell? x := fun x => rfl
 have hF2 : ∀ x, (((w.alloc (.cells ROW 28)).drew.setCells w.heap.size (i * 6) vs).drew).frozen? x = ((w.drew.alloc (.cells ROW 28)).setCells w.heap.size (i * 6) vs).frozen? x := fun x => rfl
 have hw1 : IntKind.i64.wrap ((i : Int) + (1 : Int)) = (i : Int) + (1 : Int) := by rw [IntKind.wrap_i64]; omega
 have hb1 : (0 : Int) ≤ (i : Int) + (1 : Int) := by omega
 have hin : i ≤ n := by omega
 have hin1 : i ≤ n + 1 := by omega
 have htn : ((i : Int) + (1 : Int)).toNat = i + 1 := by omega
 have hb3 : (i : Int) ≤ (n : Int) := by omega
 refine Calls.mono (R := fun e w' => e = .returned (.slice (some ⟨w.heap.size, 0, none⟩) (n + 1) G) ∧ w' = (((w.alloc (.cells ROW 28)).drew.setCells w.heap.size (i * 6) vs).drew).setCells w.heap.size ((i + 1) * 6) (cs.drop (i * 6))) ?_ fun e w' h => ⟨zs, h.1, hzss, by rw [h.2, hROW]⟩
 clear hkk hik hold hROW hG hRl hG6
 go_enter Tryd.func20, Tryd.ntmps20
 go_wp2_with (first
  | (at_builtin; refine Lib.wpList_append_run _ rfl _ _ _ _ rfl _ _ rfl rfl _ _ (hrz _) ?_)
  | (at_builtin; refine wpList_copy_runI _ rfl _ _ 22 22 rfl _ _ rfl rfl (hcpA _ hE1 hE2 _ _) ?_)
  | (at_builtin; refine wpList_copy_runI _ rfl _ _ 22 22 rfl _ _ rfl rfl (hcpB _ (fun _ => rfl) (fun _ => rfl) _ _ _) ?_))
 go_region_law_o (refine step_copy_runI rfl _ _ 22 22 rfl (.slice (some ⟨w.heap.size, (i + 1) * 6, none⟩) (n - i) (G - (i + 1))) (.slice (some ⟨b, i * 6, none⟩) (n - i) (c - i)) (by simp [Act.eval, Act.put]) (by simp [Act.eval, Act.put]) (hcpB _ hF1 hF2 3 (G - (i + 1)) (c - i)) ?_)
 go_wp2
 go_ret
 exact ⟨rfl, rfl⟩

theorem ins_end (s : Option Addr) (n c vb vc : Nat) (w : World) (hn : n ≤ 2000000000000) (hnc : n ≤ c) (hs0 : s = none → n = 0 ∧ c = 0) {r : Value} {w2 : World} (hr : (Builtin.append_ #[22, 22] 22 #[.slice s n c, .slice (some ⟨vb, 0, none⟩) 1 vc]).run Tryd.prog w = .ok r w2) :
  Calls Tryd.prog 20 #[.slice s n c, .int .i64 n, .slice (some ⟨vb, 0, none⟩) 1 vc] w fun e w' => e = .returned r ∧ w' = w2 := by
 have t22 := Tryd.underlying22
 have t3 := Tryd.underlying3
 have t4 := Tryd.underlying4
 have u22 := run_underlying Tryd.underlying22
 have u3 := run_underlying Tryd.underlying3
 have u4 := run_underlying Tryd.underlying4
 have z28 : ∀ w, (Go.sizeOf 28).run Tryd.prog w = .ok 6 w := fun w => by
  obtain ⟨i0, hi0, h0, h1, h2⟩ := info_parts (by kernel_rfl : (Tryd.prog.info? 28).map (fun i => (i.zero, i.size, i.bytes)) = some (some (.agg #[(.string ⟨#[]⟩), (.string ⟨#[]⟩), (.int .i64 0), (.int .i64 0), (.slice none 0 0), (.int .i64 0)]), 6, 80))
  simp [Go.sizeOf, typeInfo, hi0, h1]
 have mixed : Tryd.prog.follows .mixedOrders = true := by kernel_rfl
 cases s with
 | none =>
  obtain ⟨rfl, rfl⟩ := hs0 rfl
  go_enter Tryd.func20, Tryd.ntmps20
  go_wp2_with (at_builtin; refine Lib.wpList_append_run _ rfl _ _ _ _ rfl _ _ rfl rfl _ _ hr ?_)
  go_ret
  exact ⟨rfl, rfl⟩
 | some ad =>
  have hin : n ≤ n := Nat.le_refl _
  have hnn : ((n : Int) == (n : Int)) = true := by simp
  have hnn2 : (n : Int) = (n : Int) := rfl
  go_enter Tryd.func20, Tryd.ntmps20
  go_wp2_with (at_builtin; refine Lib.wpList_append_run _ rfl _ _ _ _ rfl _ _ rfl rfl _ _ hr ?_)
  all_goals
   go_ret
   exact ⟨rfl, rfl⟩

/-! ### from the run to the contract -/
theorem setCell_row {w : World} {b o : Nat} {arr : Array Value} {e : TypeId} (h : w.heap[b]? = some (.cells arr e)) (v : Value) : w.setCell ⟨b, o, none⟩ v = w.setRow b (arr.setIfInBounds o v) := by
 obtain ⟨hlt, hv⟩ := Array.getElem?_eq_some_iff.mp h
 have : (w.setCell ⟨b, o, none⟩ v).heap = (w.setRow b (arr.setIfInBounds o v)).heap := by
  apply Array.ext
  ·simp [World.setCell, World.setRow]
  ·intro j h1 h2
   simp only [World.setCell, World.setRow, Array.getElem_modify]
   by_cases hj : b = j
   ·subst hj; simp [hv]
   ·simp [hj]
 cases w
 simp only [World.setCell, World.setRow] at this ⊢
 rw [this]
theorem setRow_setRow (w : World) (b : Nat) (x y : Array Value) : (w.setRow b x).setRow b y = w.setRow b y := by
 have : ((w.setRow b x).setRow b y).heap = (w.setRow b y).heap := by
  apply Array.ext
  ·simp [World.setRow]
  ·intro j h1 h2
   simp only [World.setRow, Array.getElem_modify]
   by_cases hj : b = j
   ·subst hj
    simp only [if_pos rfl]
    cases w.heap[b]'(by simpa [World.setRow] using h2) <;> rfl
   ·simp [hj]
 cases w
 simp only [World.setRow] at this ⊢
 rw [this]
theorem setRow_new (w : World) (A B : Array Value) (e : TypeId) : ((w.alloc (.cells A e)).setRow w.heap.size B).heap = (w.alloc (.cells B e)).heap := by
 have hn : ∀ X : Array Value, (w.alloc (.cells X e)).heap[w.heap.size]? = some (.cells X e) := fun X => by
  show (w.heap.push (.cells X e))[w.heap.size]? = _
  simp
 apply Array.ext_getElem?
 intro j
 by_cases hj : j = w.heap.size
 ·subst hj
  rw [setRow_heap _ _ A B e (0, 0) (hn A), hn B]
 ·rw [setRow_other _ _ _ _ hj]
  show (w.heap.push _)[j]? = (w.heap.push _)[j]?
  rw [Array.getElem?_push, Array.getElem?_push, if_neg hj, if_neg hj]
def spl (arr : Array Value) (o : Nat) (vs : List Value) : Array Value := (arr.toList.take o ++ vs ++ arr.toList.drop (o + vs.length)).toArray
theorem setCells_row {b : Nat} {e : TypeId} : ∀ (vs : List Value) (o : Nat) (w : World) (arr : Array Value), w.heap[b]? = some (.cells arr e) → o + vs.length ≤ arr.size → w.setCells b o vs = w.setRow b (spl arr o vs)
 | [], o, w, arr, h, _ => by
  have hs : spl arr o [] = arr := by simp [spl, List.take_append_drop]
  rw [hs]
  obtain ⟨hlt, hv⟩ := Array.getElem?_eq_some_iff.mp h
  have : (w.setRow b arr).heap = w.heap := by
   apply Array.ext
   ·simp [World.setRow]
   ·intro j h1 h2
    simp only [World.setRow, Array.getElem_modify]
    by_cases hj : b = j
    ·subst hj; simp [hv]
    ·simp [hj]
  show w = w.setRow b arr
  cases w
  simp only [World.setRow] at this ⊢
  rw [this]
 | v :: vs, o, w, arr, h, hl => by
  simp only [List.length_cons] at hl
  rw [World.setCells, setCell_row h]
  have h' := setRow_heap w b arr (arr.setIfInBounds o v) e (0, 0) h
  rw [setCells_row vs (o + 1) _ _ h' (by simp; omega), setRow_setRow]
  congr 1
  apply Array.ext'
  simp only [spl, Array.toList_setIfInBounds]
  have hlen : (arr.toList.take o).length = o := by rw [List.length_take, Array.length_toList]; omega
  have hs : arr.toList.set o v = arr.toList.take o ++ v :: arr.toList.drop (o + 1) := by
   rw [List.set_eq_take_append_cons_drop, if_pos (by rw [Array.length_toList]; omega)]
  have h1 : (arr.toList.take o ++ v :: arr.toList.drop (o + 1)).take (o + 1) = arr.toList.take o ++ [v] := by
   rw [List.take_append, hlen, List.take_of_length_le (by omega), show o + 1 - o = 1 by omega]
   rfl
  have h2 : (arr.toList.take o ++ v :: arr.toList.drop (o + 1)).drop (o + 1 + vs.length) = arr.toList.drop (o + (vs.length + 1)) := by
   rw [List.drop_append, hlen, List.drop_eq_nil_of_le (by omega), show o + 1 + vs.length - o = vs.length + 1 by omega, List.nil_append, List.drop_succ_cons, List.drop_drop]
   congr 1
   omega
  rw [hs, h1, h2]
  simp
section
variable {α : Type} {f : α → List P}
theorem row_take (hf : ∀ x, (f x).length = 6) (xs : List α) (i : Nat) : (rowC f xs).take (i * 6) = rowC f (xs.take i) := by
 unfold rowC; rw [← List.map_take, flat_take hf]
theorem row_drop (hf : ∀ x, (f x).length = 6) (xs : List α) (i : Nat) : (rowC f xs).drop (i * 6) = rowC f (xs.drop i) := by
 unfold rowC; rw [← List.map_drop, flat_drop hf]
theorem ones {w : World} {S : Nat → Prop} {base : Nat} {g : G} {l : List Value} {cs : List C} (h : Pts (CRel w S base g) l cs) (hn : noTop cs = true) : ∀ v ∈ l.take cs.length, v.oneCell' = true := by
 intro v hv
 obtain ⟨j, hj, he⟩ := List.getElem_of_mem hv
 have hjl : j < cs.length := by rw [List.length_take] at hj; omega
 obtain ⟨u, hu, hr⟩ := h j cs[j] (List.getElem?_eq_getElem hjl)
 have hjj : j < l.length := by rw [List.length_take] at hj; omega
 rw [List.getElem_take] at he
 rw [List.getElem?_eq_getElem hjj, he] at hu
 cases hu
 exact hr.oneCell (noTop_iff.mp hn _ (List.getElem_mem hjl))
theorem pts_drew {w : World} {S : Nat → Prop} {base : Nat} {g : G} {l : List Value} {cs : List C} (h : Pts (CRel w S base g) l cs) : Pts (CRel w.drew S base g) l cs :=
 h.imp fun v c h => CRel.mono (w := w) (w' := w.drew) (S := S) (S' := S) (g := g) (g' := g) (fun b hb => ⟨hb, rfl⟩) (fun _ _ h => h) h
theorem spl_size (arr : Array Value) (o : Nat) (vs : List Value) (h : o + vs.length ≤ arr.size) : (spl arr o vs).size = arr.size := by simp [spl]; omega
/-- the shifted row. -/
theorem shift_list (l cs vs : List Value) (n i : Nat) (hi : i < n) (hc : cs.length = n * 6) (hv : vs.length = 6) (hl : (n + 1) * 6 ≤ l.length) (hp : l.take (i * 6) = cs.take (i * 6)) :
  ∃ rest, (spl (spl l.toArray ((i + 1) * 6) (cs.drop (i * 6))) (i * 6) vs).toList = cs.take (i * 6) ++ vs ++ cs.drop (i * 6) ++ rest := by
 have hd : (cs.drop (i * 6)).length = (n - i) * 6 := by rw [List.length_drop, hc]; omega
 refine ⟨l.drop ((i + 1) * 6 + (n - i) * 6), ?_⟩
 simp only [spl, List.toList_toArray, hd, hv]
 have e1 : (l.take ((i + 1) * 6) ++ cs.drop (i * 6) ++ l.drop ((i + 1) * 6 + (n - i) * 6)).take (i * 6) = cs.take (i * 6) := by
  rw [List.append_assoc, List.take_append_of_le_length (by rw [List.length_take]; omega), List.take_take, Nat.min_eq_left (by omega), hp]
 have e2 : (l.take ((i + 1) * 6) ++ cs.drop (i * 6) ++ l.drop ((i + 1) * 6 + (n - i) * 6)).drop (i * 6 + 6) = cs.drop (i * 6) ++ l.drop ((i + 1) * 6 + (n - i) * 6) := by
  have : (l.take ((i + 1) * 6)).length = i * 6 + 6 := by rw [List.length_take]; omega
  rw [List.append_assoc, ← this, List.drop_left]
 rw [e1, e2]
 simp
theorem grow_list (cs vs z1 z2 : List Value) (n i : Nat) (hi : i < n) (hc : cs.length = n * 6) (hv : vs.length = 6) (hz : z1.length = (n + 1 - i) * 6) :
  (spl (spl (cs.take (i * 6) ++ z1 ++ z2).toArray (i * 6) vs) ((i + 1) * 6) (cs.drop (i * 6))).toList = cs.take (i * 6) ++ (vs ++ cs.drop (i * 6)) ++ z2 := by
 have hd : (cs.drop (i * 6)).length = (n - i) * 6 := by rw [List.length_drop, hc]; omega
 have ht : (cs.take (i * 6)).length = i * 6 := by rw [List.length_take, hc]; omega
 simp only [spl, List.toList_toArray, hd, hv]
 have e0 : (cs.take (i * 6) ++ z1 ++ z2).take (i * 6) = cs.take (i * 6) := by
  rw [List.append_assoc, List.take_append_of_le_length (by omega), List.take_of_length_le (by omega)]
 rw [e0]
 have e1 : (cs.take (i * 6) ++ vs ++ (cs.take (i * 6) ++ z1 ++ z2).drop (i * 6 + 6)).take ((i + 1) * 6) = cs.take (i * 6) ++ vs := by
  have : (cs.take (i * 6) ++ vs).length = (i + 1) * 6 := by rw [List.length_append, ht, hv]; omega
  rw [← this, List.take_left]
 have e2 : (cs.take (i * 6) ++ vs ++ (cs.take (i * 6) ++ z1 ++ z2).drop (i * 6 + 6)).drop ((i + 1) * 6 + (n - i) * 6) = z2 := by
  have h1 : (cs.take (i * 6) ++ vs).length = i * 6 + 6 := by rw [List.length_append, ht, hv]
  rw [List.drop_append, List.drop_eq_nil_of_le (by rw [h1]; omega), List.nil_append, List.drop_drop, h1]
  have h2 : (cs.take (i * 6) ++ z1).length = i * 6 + 6 + ((i + 1) * 6 + (n - i) * 6 - (i * 6 + 6)) := by rw [List.length_append, ht, hz]; omega
  rw [← h2, List.drop_left]
 rw [e1, e2]
 simp
theorem i28 : infoQ Tryd.prog 28 = some (some (.agg #[(.string ⟨#[]⟩), (.string ⟨#[]⟩), (.int .i64 0), (.int .i64 0), (.slice none 0 0), (.int .i64 0)]), 6, 80) := by kernel_rfl
theorem meets_ins (hf : ∀ x, (f x).length = 6) {xs : List α} {y : α} {i : Nat} {b0 : Bool} (hi : i ≤ xs.length) (hn : (xs.length + 1) * 80 ≤ 140737488355328) :
  Meets Tryd.prog 20 [.one (.own 0 0 xs.length 6), .one (.p b0 (.v (.int .i64 (i : Int)))), .one (.own 1 0 1 6)] [some (.cells false (rowC f xs)), some (.cells false (rowC f [y]))]
   (.one (.own 2 0 (xs.length + 1) 6)) [none, some (.cells false (rowC f [y])), some (.cells false (rowC f (xs.take i ++ y :: xs.drop i)))] := by
 refine Meets.of_calls fun vs w S g hl hr hs => ?_
 match vs, hl with
 | [v0, vi, v1], _ =>
  have h0 : DRel w S w.heap.size g v0 (.one (.own 0 0 xs.length 6)) := hr 0 (by simp) (by simp)
  have h1 : DRel w S w.heap.size g vi (.one (.p b0 (.v (.int .i64 (i : Int))))) := hr 1 (by simp) (by simp)
  have h2 : DRel w S w.heap.size g v1 (.one (.own 1 0 1 6)) := hr 2 (by simp) (by simp)
  have hvi : vi = .int .i64 (i : Int) := h1.of_v
  subst hvi
  have hb0 : IsBase ⟨0, fun _ => .one .top, [some (.cells false (rowC f xs)), some (.cells false (rowC f [y]))]⟩ 6 (.one (.own 0 0 xs.length 6)) (some 0) false xs.length (rowC f xs) := .own rfl (row_len hf xs)
  have hb1 : IsBase ⟨0, fun _ => .one .top, [some (.cells false (rowC f xs)), some (.cells false (rowC f [y]))]⟩ 6 (.one (.own 1 0 1 6)) (some 1) false 1 (rowC f [y]) := .own rfl (row_len hf [y])
  have hs1 : IsSrc ⟨0, fun _ => .one .top, [some (.cells false (rowC f xs)), some (.cells false (rowC f [y]))]⟩ 6 (.one (.own 1 0 1 6)) 1 (rowC f [y]) := .own rfl (row_all hf [y]) (row_len hf [y]) (row_noTop [y])
  rcases DRel.base hs h2 hb1 with ⟨_, _, h, _⟩ | ⟨_, vb, Nv, vc, arv, ev, hk, rfl, hvc, hvN, hvlive, hvg, _, hvblk, hva, hvpt⟩
  ·omega
  cases hk
  have hrl := row_len hf xs
  have hyl : (rowC f [y]).length = 6 := row_len hf [y]
  by_cases hin : i = xs.length
  ·subst hin
   obtain ⟨r, w', S', g', hrun, hsim, hd⟩ := Sim.append (ty := 22) hs h0 h2 Tryd.underlying22 i28 rfl hb0 hs1 (.inl ⟨_, Tryd.underlying22⟩) hn (by omega)
   have hrow : rowC f xs ++ rowC f [y] = rowC f (xs.take xs.length ++ y :: xs.drop xs.length) := by rw [row_append, List.take_length, List.drop_length]
   rw [hrow] at hsim
   have fin : ∀ (s : Option Addr) (c : Nat), v0 = .slice s xs.length c → xs.length ≤ c → (s = none → xs.length = 0 ∧ c = 0) → Calls Tryd.prog 20 #[v0, .int .i64 (xs.length : Int), .slice (some ⟨vb, 0, none⟩) 1 vc] w fun e w' => ∃ v S' g', e = .returned v ∧ DRel w' S' w.heap.size g' v (.one (.own 2 0 (xs.length + 1) 6)) ∧
     Sim (ctxOf w S g [some (.cells false (rowC f xs)), some (.cells false (rowC f [y]))]) ⟨0, fun _ => .one .top, [none, some (.cells false (rowC f [y])), some (.cells false (rowC f (xs.take xs.length ++ y :: xs.drop xs.length)))]⟩ { tmps := #[], defers := [] } w' S' g' := by
    intro s c hv hc hs0
    subst hv
    refine (ins_end s xs.length c vb vc w (by omega) hc hs0 hrun).mono fun e w1 ⟨he, hw⟩ => ?_
    subst hw
    exact ⟨r, S', g', he, hd, hsim⟩
   rcases DRel.base hs h0 hb0 with ⟨ad, hv, hz, _⟩ | ⟨_, b, N, cap, arr, e0, hk, hv, hnc, _⟩
   ·exact fin ad 0 (by rw [hv, hz]) (by omega) (fun _ => ⟨hz, rfl⟩)
   ·exact fin _ cap hv hnc (fun h => by cases h)
  ·have hlt : i < xs.length := by omega
   rcases DRel.base hs h0 hb0 with ⟨ad, hv, hz, _⟩ | ⟨_, b, N, cap, arr, e0, hk, rfl, hnc, hcN, hlive, hg, _, hblk, ha, hpt⟩
   ·omega
   cases hk
   have hvb : vb ≠ b := fun h => by
    subst h
    have := hs.ok.inj 0 1 _ _ vb N Nv hlive hvlive hg hvg
    omega
   have hal : arr.toList.length = N := Array.length_toList.trans ha
   have hval : arv.toList.length = Nv := Array.length_toList.trans hva
   obtain ⟨cs, hcs⟩ : ∃ cs, cs = arr.toList.take (xs.length * 6) := ⟨_, rfl⟩
   obtain ⟨vs, hvs⟩ : ∃ vs, vs = arv.toList.take 6 := ⟨_, rfl⟩
   have hnN : xs.length * 6 ≤ N := Nat.le_trans (Nat.mul_le_mul_right 6 hnc) hcN
   have hcl : cs.length = xs.length * 6 := by rw [hcs, List.length_take, hal]; omega
   have hvl : vs.length = 6 := by rw [hvs, List.length_take, hval]; omega
   have f1 : ∀ j v, cs[j]? = some v → w.cell? ⟨b, j, none⟩ = some v := fun j v h => by
    rw [cell_row (N := N) hblk]
    rw [hcs, List.getElem?_take] at h
    split at h
    ·exact h
    ·cases h
   have f2 : ∀ j v, vs[j]? = some v → w.cell? ⟨vb, j, none⟩ = some v := fun j v h => by
    rw [cell_row (N := Nv) hvblk]
    rw [hvs, List.getElem?_take] at h
    split at h
    ·exact h
    ·cases h
   have o1 : ∀ v ∈ cs, v.oneCell' = true := by have := ones hpt (row_noTop xs); rw [hrl, ← hcs] at this; exact this
   have o2 : ∀ v ∈ vs, v.oneCell' = true := by have := ones hvpt (row_noTop [y]); rw [hyl, ← hvs] at this; exact this
   have pcs : Pts (CRel w S w.heap.size g) cs (rowC f xs) := by
    have := hpt.take (xs.length * 6)
    rwa [← hcs, List.take_of_length_le (by omega)] at this
   have pvs : Pts (CRel w S w.heap.size g) vs (rowC f [y]) := by
    have := hvpt.take 6
    rwa [← hvs, List.take_of_length_le (by omega)] at this
   have hrow : rowC f (xs.take i) ++ (rowC f [y] ++ rowC f (xs.drop i)) = rowC f (xs.take i ++ y :: xs.drop i) := by rw [row_append, row_append]; rfl
   have q1 : Pts (CRel w S w.heap.size g) (cs.take (i * 6)) (rowC f (xs.take i)) := by rw [← row_take hf]; exact pcs.take _
   have q2 : Pts (CRel w S w.heap.size g) (cs.drop (i * 6)) (rowC f (xs.drop i)) := by rw [← row_drop hf]; exact pcs.drop _
   have l1 : (cs.take (i * 6)).length = (rowC f (xs.take i)).length := by rw [row_len hf, List.length_take, List.length_take, hcl]; omega
   have l2 : (cs.drop (i * 6)).length = (rowC f (xs.drop i)).length := by rw [row_len hf, List.length_drop, List.length_drop, hcl]; omega
   have l3 : vs.length = (rowC f [y]).length := by rw [hvl, hyl]
   have q3 := Pts.append pvs q2 l3
   have l4 : (vs ++ cs.drop (i * 6)).length = (rowC f [y] ++ rowC f (xs.drop i)).length := by rw [List.length_append, List.length_append, l3, l2]
   by_cases hroom : xs.length + 1 ≤ cap
   ·have hroomN : (xs.length + 1) * 6 ≤ N := Nat.le_trans (Nat.mul_le_mul_right 6 hroom) hcN
    refine (ins_shift b xs.length cap i vb vc cs vs w hlt hroom (by omega) hvb hcl hvl f1
     (fun j hj => by rw [cell_row (N := N) hblk, List.getElem?_eq_getElem (by rw [hal]; omega)]; rfl) (fun j hj => by simp [World.frozen?, hblk]) f2 o1 o2
     ev e0 arv.size arr.size (by simp [World.shape?, hvblk]) (by simp [World.shape?, hblk]) (by omega) (by simp [World.frozen?, hvblk]) (by simp [World.frozen?, hvblk])).mono fun e w' ⟨he, hw⟩ => ?_
    have hbd : w.drew.heap[b]? = some (.cells arr e0) := hblk
    have hdl : (cs.drop (i * 6)).length = (xs.length - i) * 6 := by rw [List.length_drop, hcl]; omega
    have hsz1 : (spl arr ((i + 1) * 6) (cs.drop (i * 6))).size = arr.size := spl_size _ _ _ (by rw [hdl]; omega)
    rw [setCells_row _ _ _ _ hbd (by rw [hdl]; omega), setCells_row _ _ _ _ (setRow_heap w.drew b arr _ e0 (0, 0) hbd) (by rw [hvl, hsz1]; omega), setRow_setRow] at hw
    obtain ⟨rest, hrest⟩ := shift_list arr.toList cs vs xs.length i hlt hcl hvl (by rw [hal]; omega) (by rw [hcs, List.take_take, Nat.min_eq_left (by omega)])
    have hpts : Pts (CRel w.drew S w.heap.size g) (spl (spl arr ((i + 1) * 6) (cs.drop (i * 6))) (i * 6) vs).toList (rowC f (xs.take i ++ y :: xs.drop i)) := by
     have e : (spl (spl arr ((i + 1) * 6) (cs.drop (i * 6))) (i * 6) vs).toList = cs.take (i * 6) ++ (vs ++ cs.drop (i * 6)) ++ rest := by
      rw [show arr = arr.toList.toArray by simp]
      rw [hrest]; simp
     rw [e, ← hrow]
     exact pts_drew (Pts.appendr (Pts.append q1 q3 l1))
    have hsz2 : (spl (spl arr ((i + 1) * 6) (cs.drop (i * 6))) (i * 6) vs).size = N := by rw [spl_size _ _ _ (by rw [hvl, hsz1]; omega), hsz1, ha]
    have hs2 : Sim (ctxOf w S g [some (.cells false (rowC f xs)), some (.cells false (rowC f [y]))]) ⟨0, fun _ => .one .top, [some (.cells false (rowC f xs)), some (.cells false (rowC f [y]))]⟩ { tmps := #[], defers := [] } w.drew S g := hs.same rfl rfl rfl rfl
    have h3 := hs2.writeRow (cs' := rowC f (xs.take i ++ y :: xs.drop i)) hlive hg _ hsz2 (by have := hpts.len; rw [← hsz2]; simpa using this) (Pts.toArr hpts)
    have h4 := h3.move (t := 0) (b := b) (N := N) (fr := false) (cs := rowC f (xs.take i ++ y :: xs.drop i)) (by simp [Live, St.heap]) hg
    subst hw
    exact ⟨_, S, _, he, .t (.one (.own gnew_at hroom (by omega))), h4⟩
   ·refine (ins_grow b xs.length cap i vb vc cs vs w hlt hnc (by omega) hn hcl hvl f1 f2 o1 o2).mono fun e w' ⟨zs, he, hz, hw⟩ => ?_
    have hG : xs.length + 1 ≤ grownCap w (xs.length + 1) cap 28 := grownCap_ge w _ _ _
    obtain ⟨G, hGe⟩ : ∃ G, G = grownCap w (xs.length + 1) cap 28 := ⟨_, rfl⟩
    rw [← hGe] at hG he hw
    have hsim := hs.grow (olds := cs.take (i * 6)) (news := vs ++ cs.drop (i * 6)) q1 l1 q3 l4 zs (G - (xs.length + 1)) 28 false (some 0)
    rw [hrow] at hsim
    have hlen : (cs.take (i * 6) ++ (vs ++ cs.drop (i * 6))).length = (xs.length + 1) * 6 := by simp only [List.length_append, List.length_take, List.length_drop, hcl, hvl]; omega
    obtain ⟨ROW, hROW⟩ : ∃ ROW : Array Value, ROW = (cs.take (i * 6)).toArray ++ Builtin.zeroCells zs (xs.length + 1 - i) ++ Builtin.zeroCells zs (G - (xs.length + 1)) := ⟨_, rfl⟩
    rw [← hROW] at hw
    have hdl : (cs.drop (i * 6)).length = (xs.length - i) * 6 := by rw [List.length_drop, hcl]; omega
    have hz1 : (Builtin.zeroCells zs (xs.length + 1 - i)).toList.length = (xs.length + 1 - i) * 6 := by rw [Array.length_toList, size_zeroCells', hz]
    have hRs : (xs.length + 1) * 6 ≤ ROW.size := by
     rw [hROW]
     simp only [Array.size_append, size_zeroCells', List.size_toArray, List.length_take, hz]
     omega
    have hW0 : (w.alloc (.cells ROW 28)).drew.heap[w.heap.size]? = some (.cells ROW 28) := by
     show (w.heap.push (.cells ROW 28))[w.heap.size]? = _
     simp
    have hs1 : (spl ROW (i * 6) vs).size = ROW.size := spl_size _ _ _ (by rw [hvl]; omega)
    have hW1 : ((w.alloc (.cells ROW 28)).drew.setRow w.heap.size (spl ROW (i * 6) vs)).drew.heap[w.heap.size]? = some (.cells (spl ROW (i * 6) vs) 28) := setRow_heap _ _ _ _ 28 (0, 0) hW0
    rw [setCells_row _ _ _ _ hW0 (by rw [hvl]; omega), setCells_row _ _ _ _ hW1 (by rw [hdl, hs1]; omega)] at hw
    have hfin : spl (spl ROW (i * 6) vs) ((i + 1) * 6) (cs.drop (i * 6)) = (cs.take (i * 6) ++ (vs ++ cs.drop (i * 6))).toArray ++ Builtin.zeroCells zs (G - (xs.length + 1)) := by
     apply Array.ext'
     have := grow_list cs vs (Builtin.zeroCells zs (xs.length + 1 - i)).toList (Builtin.zeroCells zs (G - (xs.length + 1))).toList xs.length i hlt hcl hvl hz1
     rw [show ROW = (cs.take (i * 6) ++ (Builtin.zeroCells zs (xs.length + 1 - i)).toList ++ (Builtin.zeroCells zs (G - (xs.length + 1))).toList).toArray by rw [hROW]; apply Array.ext'; simp]
     rw [this]
     simp
    have hheap : w'.heap = (w.drew.alloc (.cells ((cs.take (i * 6) ++ (vs ++ cs.drop (i * 6))).toArray ++ Builtin.zeroCells zs (G - (xs.length + 1))) 28)).heap := by
     rw [hw, hfin]
     show (((w.alloc (.cells ROW 28)).setRow w.heap.size (spl ROW (i * 6) vs)).setRow w.heap.size _).heap = (w.alloc (.cells _ 28)).heap
     rw [setRow_setRow, setRow_new]
    refine ⟨_, S, _, he, .t (.one (.own gnew_at hG ?_)), hsim.same hheap ?_ ?_ ?_⟩
    ·rw [hlen, hz]; omega
    ·rw [hw]; rfl
    ·rw [hw]; rfl
    ·rw [hw]; rfl
theorem meets_ins' (hf : ∀ x, (f x).length = 6) {xs : List α} {y : α} {e : Int} {b0 : Bool} (h : decide (0 ≤ e ∧ e ≤ (xs.length : Int) ∧ xs.length ≤ 1000000000000) = true) :
  Meets Tryd.prog 20 [.one (.own 0 0 xs.length 6), .one (.p b0 (.v (.int .i64 e))), .one (.own 1 0 1 6)] [some (.cells false (rowC f xs)), some (.cells false (rowC f [y]))]
   (.one (.own 2 0 (xs.take e.toNat ++ (y :: xs.drop e.toNat)).length 6)) [none, some (.cells false (rowC f [y])), some (.cells false (rowC f (xs.take e.toNat ++ (y :: xs.drop e.toNat))))] := by
 rw [decide_eq_true_eq] at h
 obtain ⟨i, rfl⟩ := Int.eq_ofNat_of_zero_le h.1
 have hl : (xs.take (i : Int).toNat ++ (y :: xs.drop (i : Int).toNat)).length = xs.length + 1 := by simp only [List.length_append, List.length_take, List.length_cons, List.length_drop, Int.toNat_natCast]; omega
 rw [hl]
 exact meets_ins hf (by omega) (by omega)
end
end Go.Abs.Ins
