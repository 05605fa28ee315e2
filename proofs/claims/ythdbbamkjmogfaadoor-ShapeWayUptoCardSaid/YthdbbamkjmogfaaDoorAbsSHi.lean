import Derived.Test.YthdbbamkjmogfaaDoorAbsSHb
set_option linter.unusedVariables false
set_option linter.unusedSimpArgs false
set_option maxRecDepth 100000
set_option maxHeartbeats 4000000
namespace Go.Abs.GenS
open Go Go.Abs Go.Proofs Go.RowKit Go.Shelf
attribute [local go_sem] Oper.semAt_some
theorem it_in (n : Nat) (hn : 1 ≤ n) (l Bd B : Nat) (doc : ByteArray) (hd : doc.size ≤ 1048576) (J Jx : List Piece → World → Prop) (W : World) (hB : B < W.heap.size) (hown : ownB B W = none)
  (hJ : AbidesFrom W.heap.size J)
  (hY : ∀ pre x W1, J pre W1 → pre.length < (piecesS doc).length → YieldAt Fence.wide (n - 1) Tryd.prog l (encs x) W1 fun e W' =>
   (e = .returned (.bool true) ∧ J (pre ++ [x]) W' ∧ KeepB B W1 W') ∨ (e = .returned (.bool false) ∧ Jx (pre ++ [x]) W'))
  (hBd : W.cell? ⟨Bd, 0, none⟩ = some (.string doc)) (h0 : J [] W) :
  CallsIn Fence.wide n Tryd.prog 36 #[.func (.yield l) #[] #[], .pointer (some ⟨Bd, 0, none⟩)] W fun e W' => (∃ v, e = .returned v) ∧
   ((∃ ys, ys = piecesS doc ∧ J ys W') ∨ (∃ pre, pre <+: piecesS doc ∧ Jx pre W')) := by
 have hlen : (piecesS doc).length = (splS doc).length := by simp [piecesS]
 have hsl := splS_len doc
 have hmx : Tryd.prog.follows .mixedOrders = true := by kernel_rfl
 refine callsIn_of_wp Tryd.func36 rfl trivial ?_ rfl
 simp only [Tryd.ntmps36, List.size_toArray, List.length_cons, List.length_nil, Nat.reduceAdd, Nat.reduceSub, Array.replicate_succ, Array.replicate_zero, List.push_toArray, List.append_toArray, List.nil_append, List.cons_append]
 gi_wp2_with (refine ⟨trivial, ?_⟩; gi_at_call 37; refine (callsIn_wide.2 (split_calls doc hd _)).mono ?_; rintro e Ws ⟨b, o, cap, rfl, hb0, hb1', hcap, hcs, hbs⟩)
 gi_loopw [11] (fun i wr => ∃ k : Nat, k ≤ (splS doc).length ∧ i = .int .i64 k ∧ J ((piecesS doc).take k) wr ∧ KeepB B Ws wr)
  (fun i _ => (splS doc).length - (Go.RowKit.intOf i).toNat)
 case atStart => exact ⟨0, Nat.zero_le _, rfl, by simpa using abides_below hJ h0 hbs, KeepB.of_below (Below.refl _ _) (Nat.lt_of_lt_of_le hB hbs.size)⟩
 case round =>
  obtain ⟨k, hk, rfl, hJs, hkp⟩ := hrel
  have hownS : ownB B Ws = none := (ownB_of (hbs.block B hB)).trans hown
  by_cases hlt : k < (splS doc).length
  ·obtain ⟨s, hs⟩ : ∃ s, (splS doc)[k]? = some s := ⟨_, List.getElem?_eq_getElem hlt⟩
   have hss : s.size ≤ 1048576 := Nat.le_trans (splS_size doc s (List.mem_of_getElem? hs)) hd
   have hcell : wr.cell? ⟨b, o + k, none⟩ = some (.string s) := hkp.cell (by omega) hownS (hcs k s hs)
   obtain ⟨hr0, hr1⟩ := lastS_ge s 35
   have hat : (max 0 (lastS s 35)).toNat = atS s := by unfold atS; omega
   have ht : s.extract (min (max 0 (lastS s 35) + 1) (s.size : Int)).toNat s.size = tailS s := by
    unfold tailS
    rw [show (min (max 0 (lastS s 35) + 1) (s.size : Int)).toNat = min (atS s + 1) s.size by unfold atS; omega]
   have hnm : s.extract 0 (max 0 (lastS s 35)).toNat = nameS s := by rw [hat]; rfl
   have hts : (tailS s).size ≤ 1048576 := Nat.le_trans (size_extract_le _ _ _) hss
   have hns : (nameS s).size ≤ 1048576 := Nat.le_trans (size_extract_le _ _ _) hss
   have hok : okS s = (fitsS (nameS s) && (((numbS s).2 == 0) && decide ((numbS s).1 ≥ 1))) := rfl
   have hpc : pieceS s = (s.extract 0 (atS s), (numbS s).1, okS s) := rfl
   have hnb : numS (bytesI (tailS s)) = numbS s := rfl
   generalize hr : lastS s 35 = r at *
   generalize numbS s = nb at *
   obtain ⟨nv, ev⟩ := nb
   have htk : (piecesS doc).take (k + 1) = (piecesS doc).take k ++ [pieceS s] := by
    rw [List.take_add_one]
    congr 1
    simp [piecesS, hs]
   have hlt' : (k : Int) < ((splS doc).length : Int) := by omega
   gi_wp2_with (first
    | (refine ⟨trivial, ?_⟩; gi_at_call 30; refine (callsIn_wide.2 (last_calls s hss _)).mono ?_; rintro e w1 ⟨rfl, hb1⟩; try rw [hr]; have hBr : B < wr.heap.size := Nat.lt_of_lt_of_le (Nat.lt_of_lt_of_le hB hbs.size) hkp.size; have hB1 : B < w1.heap.size := Nat.lt_of_lt_of_le hBr hb1.size)
    | (refine ⟨trivial, ?_⟩; gi_at_call 38; refine (callsIn_wide.2 (number_calls _ hts _)).mono ?_; rintro e w2 ⟨rfl, hb2⟩; try rw [hnb]))
   have h4 : (fitsS (nameS s) = true ∧ ev = 0 ∧ okS s = decide (1 ≤ nv)) ∨ (okS s = false ∧ fitsS (nameS s) = false) ∨ (okS s = false ∧ fitsS (nameS s) = true ∧ ¬ ev = 0) := by
    rw [hok]
    cases fitsS (nameS s)
    ·exact .inr (.inl ⟨rfl, rfl⟩)
    ·by_cases h0 : ev = 0
     ·exact .inl ⟨rfl, h0, by simp [h0]⟩
     ·exact .inr (.inr ⟨by simp [h0], rfl, h0⟩)
   have HY : Hid (∀ wa w3 : World, wa = w2.drew → Below wa.heap.size wa w3 → ∃ fn tmps assign body, (Instr.yield l #[.agg #[.string (s.extract 0 (atS s)), .int .i64 nv], .bool (okS s)]).run Tryd.prog w3 = .ok (.round l fn tmps assign body) w3 ∧ RoundIn Fence.wide (n - 1) Tryd.prog l fn tmps assign body w3 fun e W' =>
     ∃ bb : Bool, e = .returned (.bool bb) ∧ Hid ((bb = true ∧ J ((piecesS doc).take (k + 1)) W' ∧ KeepB B Ws W') ∨ (bb = false ∧ Jx ((piecesS doc).take (k + 1)) W'))) := by
    intro wa w3 hwa hb3
    have hb2' : Below w1.heap.size w1 wa := by rw [hwa]; exact hb2.drew
    have hJ3 : J ((piecesS doc).take k) w3 := abides_below hJ (abides_below hJ (abides_below hJ hJs hb1) hb2') hb3
    have hK3 : KeepB B Ws w3 := ((hkp.trans (KeepB.of_below hb1 hBr)).trans (KeepB.of_below hb2' hB1)).trans (KeepB.of_below hb3 (Nat.lt_of_lt_of_le hB1 hb2'.size))
    obtain ⟨fn, tmps, assign, body, hy, hR⟩ := hY _ (pieceS s) w3 hJ3 (by rw [List.length_take]; omega)
    refine ⟨fn, tmps, assign, body, by rw [hpc] at hy; exact hy, hR.mono fun e W' hp => ?_⟩
    rw [htk]
    obtain ⟨bb, he, hp⟩ := one_bool hp
    refine ⟨bb, he, ?_⟩
    rcases hp with ⟨h1, h2, h3⟩ | ⟨h1, h2⟩
    ·exact .inl ⟨h1, h2, hK3.trans h3⟩
    ·exact .inr ⟨h1, h2⟩
   have HE : Hid (wrap64 ((k : Int) + 1) = ((k + 1 : Nat) : Int)) := by
    have := IntWalk.wrap64_in ((k : Int) + 1) ⟨by omega, by omega⟩
    show wrap64 _ = _
    rw [this]; rfl
   have HL : Hid (k < (splS doc).length) := hlt
   clear hok hY hJ hJs hkp hcs hbs hcell ht hnm htk hpc hnb hts hss hBr hB1 hb1 hb2 h0 hs hB hown hownS hb0 hb1' hcap hlt' hlen hsl hd hBd hlt
   rcases h4 with ⟨hk2, hk3, hk1⟩ | ⟨hk1, hk2⟩ | ⟨hk1, hk2, hk3⟩
   ·subst hk3
    rw [hk1] at HY
    first | gi_region_with_o (first
     | (refine ⟨trivial, ?_⟩; gi_at_call 39; refine (callsIn_wide.2 (fits_calls _ hns _)).mono ?_; rintro e w3 ⟨rfl, hb3⟩; rw [hk2]; obtain ⟨fn, tmps, assign, body, hy, hR⟩ := HY.out _ w3 rfl hb3)
     | (refine hR.mono ?_; rintro e W3 ⟨bb, rfl, hpost⟩; clear hR hy)) | skip
    all_goals (
     rcases hpost.out with ⟨rfl, hJ3, hK3⟩ | ⟨rfl, hJ3⟩
     ·gi_wp2
      go_roundw
      case rel => exact ⟨k + 1, by have := HL.out; omega, by rw [HE.out], hJ3, hK3⟩
      case measure => have := HL.out; rw [HE.out]; simp [Go.RowKit.intOf]; omega
     ·gi_wp2
      refine bodyPost_ret (results_none rfl _ _ _) rfl ?_
      exact ⟨⟨_, rfl⟩, .inr ⟨_, List.take_prefix _ _, hJ3⟩⟩)
   ·rw [hk1] at HY
    first | gi_region_with_o (first
     | (refine ⟨trivial, ?_⟩; gi_at_call 39; refine (callsIn_wide.2 (fits_calls _ hns _)).mono ?_; rintro e w3 ⟨rfl, hb3⟩; rw [hk2]; obtain ⟨fn, tmps, assign, body, hy, hR⟩ := HY.out _ w3 rfl hb3)
     | (refine hR.mono ?_; rintro e W3 ⟨bb, rfl, hpost⟩; clear hR hy)) | skip
    all_goals (
     rcases hpost.out with ⟨rfl, hJ3, hK3⟩ | ⟨rfl, hJ3⟩
     ·gi_wp2
      go_roundw
      case rel => exact ⟨k + 1, by have := HL.out; omega, by rw [HE.out], hJ3, hK3⟩
      case measure => have := HL.out; rw [HE.out]; simp [Go.RowKit.intOf]; omega
     ·gi_wp2
      refine bodyPost_ret (results_none rfl _ _ _) rfl ?_
      exact ⟨⟨_, rfl⟩, .inr ⟨_, List.take_prefix _ _, hJ3⟩⟩)
   ·rw [hk1] at HY
    first | gi_region_with_o (first
     | (refine ⟨trivial, ?_⟩; gi_at_call 39; refine (callsIn_wide.2 (fits_calls _ hns _)).mono ?_; rintro e w3 ⟨rfl, hb3⟩; rw [hk2]; obtain ⟨fn, tmps, assign, body, hy, hR⟩ := HY.out _ w3 rfl hb3)
     | (refine hR.mono ?_; rintro e W3 ⟨bb, rfl, hpost⟩; clear hR hy)) | skip
    all_goals (
     rcases hpost.out with ⟨rfl, hJ3, hK3⟩ | ⟨rfl, hJ3⟩
     ·gi_wp2
      go_roundw
      case rel => exact ⟨k + 1, by have := HL.out; omega, by rw [HE.out], hJ3, hK3⟩
      case measure => have := HL.out; rw [HE.out]; simp [Go.RowKit.intOf]; omega
     ·gi_wp2
      refine bodyPost_ret (results_none rfl _ _ _) rfl ?_
      exact ⟨⟨_, rfl⟩, .inr ⟨_, List.take_prefix _ _, hJ3⟩⟩)
  ·obtain rfl : k = (splS doc).length := by omega
   gi_wp2
   go_end0
   exact ⟨⟨_, rfl⟩, .inl ⟨_, rfl, by rw [← hlen, List.take_length] at hJs; exact hJs⟩⟩
end Go.Abs.GenS
