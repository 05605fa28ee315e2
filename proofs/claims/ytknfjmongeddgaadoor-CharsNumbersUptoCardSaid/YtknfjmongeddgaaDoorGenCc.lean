import Derived.Test.YtknfjmongeddgaaDoorGenCb
set_option linter.unusedVariables false
set_option linter.unusedSimpArgs false
set_option maxRecDepth 100000
set_option maxHeartbeats 4000000
namespace Go.Abs.GenC
open Go.Abs Go.Proofs
def dossierlaw01_CharsDecode.f (k : Nat) (a0 : List Int) (a1 : Int) : Option Bool := (chars_Decode.f k a0).bind fun r1 => (dossierref01_Decode.f k a0).bind fun r2 => if (r1.1 == r2.1) = true then (if (r1.2 == r2.2) = true then ((chars_Encode.f k a1).bind fun r5 => (dossierref01_Encode.f k a1).bind fun r6 => (bytes_Equal.f k r5 r6).bind fun r7 => if r7 = true then ((chars_Wrong.f k a0).bind fun r9 => (dossierref01_Wrong.f k a0).bind fun r10 => if (r9 == r10) = true then ((dossierlaw01_awake.f k).bind fun r12 => some r12) else (some false)) else (some false)) else (some false)) else (some false)
theorem dossierlaw01_CharsDecode.meets (k : Nat) (a0 : List Int) (a1 : Int) (r : Bool) (h : dossierlaw01_CharsDecode.f k a0 a1 = some r) : Meets Tryd.prog 5 [(D.one (C.p false (.sl a0.length (a0.flatMap e_u8)))), (sc (.int .i64 a1))] [] (sc (.bool r)) [] := by
  unfold dossierlaw01_CharsDecode.f at h
  refine Meets.of_body (n := 44) Tryd.func5 rfl rfl (Nat.le_of_ble_eq_true rfl) fun x hx => ?_
  replace hx : x.k = 0 := hx
  show AW _ x _ _ ⟨44, fr0 [(D.one (C.p false (.sl a0.length (a0.flatMap e_u8)))), (sc (.int .i64 a1))], []⟩
  refine AW.seq ?_
  refine AW.region ?_
  refine s_assign (d := (sc (.bool false))) rfl ?_
  refine AWops.nil ?_
  refine AW.seq ?_
  refine AW.region ?_
  refine s_move (d := (D.one (C.p false (.sl a0.length (a0.flatMap e_u8))))) rfl ?_
  obtain ⟨r1, er1, h⟩ := Option.bind_eq_some_iff.mp h
  refine s_call2 (ρ := []) (br := false) (H2 := []) (d := (D.tup [(sc (.int .i64 r1.1)), (sc (.int .i64 r1.2))])) F.ca_20 rfl rfl (All2.cons (.one .imm) All2.nil) All2.nil (by decide) rfl (chars_Decode.meets _ a0 r1 er1) (.inl rfl) rfl rfl ?_
  refine s_move (d := (D.tup [(sc (.int .i64 r1.1)), (sc (.int .i64 r1.2))])) rfl ?_
  refine s_extract (d := (sc (.int .i64 r1.1))) rfl rfl ?_
  refine s_extract (d := (sc (.int .i64 r1.2))) rfl rfl ?_
  refine s_assign (d := (sc (.int .i64 r1.1))) rfl ?_
  refine s_assign (d := (sc (.int .i64 r1.2))) rfl ?_
  refine AWops.nil ?_
  refine AW.seq ?_
  refine AW.region ?_
  refine s_move (d := (D.one (C.p false (.sl a0.length (a0.flatMap e_u8))))) rfl ?_
  obtain ⟨r2, er2, h⟩ := Option.bind_eq_some_iff.mp h
  refine s_call2 (ρ := []) (br := false) (H2 := []) (d := (D.tup [(sc (.int .i64 r2.1)), (sc (.int .i64 r2.2))])) F.ca_21 rfl rfl (All2.cons (.one .imm) All2.nil) All2.nil (by decide) rfl (dossierref01_Decode.meets _ a0 r2 er2) (.inl rfl) rfl rfl ?_
  refine s_move (d := (D.tup [(sc (.int .i64 r2.1)), (sc (.int .i64 r2.2))])) rfl ?_
  refine s_extract (d := (sc (.int .i64 r2.1))) rfl rfl ?_
  refine s_extract (d := (sc (.int .i64 r2.2))) rfl rfl ?_
  refine s_assign (d := (sc (.int .i64 r2.1))) rfl ?_
  refine s_assign (d := (sc (.int .i64 r2.2))) rfl ?_
  refine AWops.nil ?_
  refine AW.seq ?_
  refine AW.region ?_
  refine s_move (d := (sc (.int .i64 r1.1))) rfl ?_
  refine s_move (d := (sc (.int .i64 r2.1))) rfl ?_
  refine s_binI (v := (.bool (r1.1 == r2.1))) rfl rfl rfl ?_
  refine s_move (d := (sc (.bool (r1.1 == r2.1)))) rfl ?_
  by_cases c3 : (r1.1 == r2.1) = true
  · replace h := (if_pos c3).symm.trans h
    refine AWops.guard_yes rfl (Nat.le_of_ble_eq_true rfl) rfl c3 ?_
    refine s_move (d := (sc (.int .i64 r1.2))) rfl ?_
    refine AWops.guard_yes rfl (Nat.le_of_ble_eq_true rfl) rfl c3 ?_
    refine s_move (d := (sc (.int .i64 r2.2))) rfl ?_
    refine AWops.guard_yes rfl (Nat.le_of_ble_eq_true rfl) rfl c3 ?_
    refine s_binI (v := (.bool (r1.2 == r2.2))) rfl rfl rfl ?_
    refine s_pick_yes (d := (sc (.bool (r1.2 == r2.2)))) rfl c3 rfl ?_
    refine s_move (d := (sc (.bool (r1.2 == r2.2)))) rfl ?_
    by_cases c4 : (r1.2 == r2.2) = true
    · replace h := (if_pos c4).symm.trans h
      refine AWops.guard_yes rfl (Nat.le_of_ble_eq_true rfl) rfl c4 ?_
      refine s_move (d := (sc (.int .i64 a1))) rfl ?_
      refine AWops.guard_yes rfl (Nat.le_of_ble_eq_true rfl) rfl c4 ?_
      obtain ⟨r5, er5, h⟩ := Option.bind_eq_some_iff.mp h
      refine s_call2 (ρ := []) (br := false) (H2 := [(some (AObj.cells true (rowC e_u8 r5)))]) (d := (D.one (C.own 0 0 r5.length 1))) F.ca_23 rfl rfl (All2.cons (.one .sc) All2.nil) All2.nil (by decide) rfl (chars_Encode.meets _ a1 r5 er5) (.inl rfl) (by first | rfl | (simp only [mergeH2, orF, Bool.false_or, Bool.or_false, Bool.true_or, Bool.or_true, mergeAt, mergeObj, renO, ren_row, List.drop_succ_cons, List.drop_zero, List.map_cons, List.map_nil, Option.map_some, Option.map_none, List.length_cons, List.length_nil, Nat.zero_add, List.append_assoc, List.cons_append, List.nil_append]; done) | (simp only [mergeH2, orF, Bool.false_or, Bool.or_false, Bool.true_or, Bool.or_true, mergeAt, mergeObj, renO, ren_row, List.drop_succ_cons, List.drop_zero, List.map_cons, List.map_nil, Option.map_some, Option.map_none, List.length_cons, List.length_nil, Nat.zero_add, List.append_assoc, List.cons_append, List.nil_append]; rfl)) rfl ?_
      refine AWops.guard_yes rfl (Nat.le_of_ble_eq_true rfl) rfl c4 ?_
      refine s_move (d := (sc (.int .i64 a1))) rfl ?_
      refine AWops.guard_yes rfl (Nat.le_of_ble_eq_true rfl) rfl c4 ?_
      obtain ⟨r6, er6, h⟩ := Option.bind_eq_some_iff.mp h
      refine s_call2 (ρ := []) (br := false) (H2 := [(some (AObj.cells true (rowC e_u8 r5))), (some (AObj.cells true (rowC e_u8 r6)))]) (d := (D.one (C.own 1 0 r6.length 1))) F.ca_24 rfl rfl (All2.cons (.one .sc) All2.nil) All2.nil (by decide) rfl (dossierref01_Encode.meets _ a1 r6 er6) (.inl rfl) (by first | rfl | (simp only [mergeH2, orF, Bool.false_or, Bool.or_false, Bool.true_or, Bool.or_true, mergeAt, mergeObj, renO, ren_row, List.drop_succ_cons, List.drop_zero, List.map_cons, List.map_nil, Option.map_some, Option.map_none, List.length_cons, List.length_nil, Nat.zero_add, List.append_assoc, List.cons_append, List.nil_append]; done) | (simp only [mergeH2, orF, Bool.false_or, Bool.or_false, Bool.true_or, Bool.or_true, mergeAt, mergeObj, renO, ren_row, List.drop_succ_cons, List.drop_zero, List.map_cons, List.map_nil, Option.map_some, Option.map_none, List.length_cons, List.length_nil, Nat.zero_add, List.append_assoc, List.cons_append, List.nil_append]; rfl)) rfl ?_
      refine AWops.guard_yes rfl (Nat.le_of_ble_eq_true rfl) rfl c4 ?_
      obtain ⟨r7, er7, h⟩ := Option.bind_eq_some_iff.mp h
      refine s_call2 (ρ := []) (br := true) (H2 := [(some (AObj.cells true (rowC e_u8 r5))), (some (AObj.cells true (rowC e_u8 r6)))]) (d := (sc (.bool r7))) F.ca_22 rfl rfl (All2.cons (.one (LendC.bor e_u8_len rfl rfl rfl)) (All2.cons (.one (LendC.bor e_u8_len rfl rfl rfl)) All2.nil)) All2.nil (by decide) rfl (bytes_Equal.meets _ r5 r6 r7 er7) (.inr ⟨rfl, rfl⟩) rfl rfl ?_
      refine s_pick_yes (d := (sc (.bool r7))) rfl c4 rfl ?_
      refine s_move (d := (sc (.bool r7))) rfl ?_
      by_cases c8 : r7 = true
      · replace h := (if_pos c8).symm.trans h
        refine AWops.guard_yes rfl (Nat.le_of_ble_eq_true rfl) rfl c8 ?_
        refine s_move (d := (D.one (C.p false (.sl a0.length (a0.flatMap e_u8))))) rfl ?_
        refine AWops.guard_yes rfl (Nat.le_of_ble_eq_true rfl) rfl c8 ?_
        obtain ⟨r9, er9, h⟩ := Option.bind_eq_some_iff.mp h
        refine s_call2 (ρ := []) (br := false) (H2 := [(some (AObj.cells true (rowC e_u8 r5))), (some (AObj.cells true (rowC e_u8 r6)))]) (d := (sc (.int .i64 r9))) F.ca_25 rfl rfl (All2.cons (.one .imm) All2.nil) All2.nil (by decide) rfl (chars_Wrong.meets _ a0 r9 er9) (.inl rfl) rfl rfl ?_
        refine AWops.guard_yes rfl (Nat.le_of_ble_eq_true rfl) rfl c8 ?_
        refine s_move (d := (D.one (C.p false (.sl a0.length (a0.flatMap e_u8))))) rfl ?_
        refine AWops.guard_yes rfl (Nat.le_of_ble_eq_true rfl) rfl c8 ?_
        obtain ⟨r10, er10, h⟩ := Option.bind_eq_some_iff.mp h
        refine s_call2 (ρ := []) (br := false) (H2 := [(some (AObj.cells true (rowC e_u8 r5))), (some (AObj.cells true (rowC e_u8 r6)))]) (d := (sc (.int .i64 r10))) F.ca_26 rfl rfl (All2.cons (.one .imm) All2.nil) All2.nil (by decide) rfl (dossierref01_Wrong.meets _ a0 r10 er10) (.inl rfl) rfl rfl ?_
        refine AWops.guard_yes rfl (Nat.le_of_ble_eq_true rfl) rfl c8 ?_
        refine s_binI (v := (.bool (r9 == r10))) rfl rfl rfl ?_
        refine s_pick_yes (d := (sc (.bool (r9 == r10)))) rfl c8 rfl ?_
        refine s_move (d := (sc (.bool (r9 == r10)))) rfl ?_
        by_cases c11 : (r9 == r10) = true
        · replace h := (if_pos c11).symm.trans h
          refine AWops.guard_yes rfl (Nat.le_of_ble_eq_true rfl) rfl c11 ?_
          obtain ⟨r12, er12, h⟩ := Option.bind_eq_some_iff.mp h
          refine s_call2 (ρ := []) (br := false) (H2 := [(some (AObj.cells true (rowC e_u8 r5))), (some (AObj.cells true (rowC e_u8 r6)))]) (d := (sc (.bool r12))) F.ca_15 rfl rfl All2.nil All2.nil (by decide) rfl (dossierlaw01_awake.meets _  r12 er12) (.inl rfl) rfl rfl ?_
          refine s_pick_yes (d := (sc (.bool r12))) rfl c11 rfl ?_
          refine s_assign (d := (sc (.bool r12))) rfl ?_
          refine AWops.nil ?_
          refine AW.ret ?_
          obtain rfl := Option.some.inj h
          exact ⟨_, rfl, (Weak.gen (kk := 0) [] [] rfl rfl (by decide) (by decide) rfl rfl rfl (le_upd (le_top _) (.t (.one .sc))) All2.nil)⟩
        · replace h := (if_neg c11).symm.trans h
          replace c11 := Bool.eq_false_iff.mpr c11
          refine AWops.guard_no rfl (Nat.le_of_ble_eq_true rfl) rfl c11 ?_
          refine s_pick_no (d := (sc (.bool false))) rfl c11 rfl ?_
          refine s_assign (d := (sc (.bool false))) rfl ?_
          refine AWops.nil ?_
          refine AW.ret ?_
          obtain rfl := Option.some.inj h
          exact ⟨_, rfl, (Weak.gen (kk := 0) [] [] rfl rfl (by decide) (by decide) rfl rfl rfl (le_upd (le_top _) (.t (.one .sc))) All2.nil)⟩
      · replace h := (if_neg c8).symm.trans h
        replace c8 := Bool.eq_false_iff.mpr c8
        refine AWops.guard_no rfl (Nat.le_of_ble_eq_true rfl) rfl c8 ?_
        refine AWops.guard_no rfl (Nat.le_of_ble_eq_true rfl) rfl c8 ?_
        refine AWops.guard_no rfl (Nat.le_of_ble_eq_true rfl) rfl c8 ?_
        refine AWops.guard_no rfl (Nat.le_of_ble_eq_true rfl) rfl c8 ?_
        refine AWops.guard_no rfl (Nat.le_of_ble_eq_true rfl) rfl c8 ?_
        refine s_pick_no (d := (sc (.bool false))) rfl c8 rfl ?_
        refine s_move (d := (sc (.bool false))) rfl ?_
        refine AWops.guard_no rfl (Nat.le_of_ble_eq_true rfl) rfl rfl ?_
        refine s_pick_no (d := (sc (.bool false))) rfl rfl rfl ?_
        refine s_assign (d := (sc (.bool false))) rfl ?_
        refine AWops.nil ?_
        refine AW.ret ?_
        obtain rfl := Option.some.inj h
        exact ⟨_, rfl, (Weak.gen (kk := 0) [] [] rfl rfl (by decide) (by decide) rfl rfl rfl (le_upd (le_top _) (.t (.one .sc))) All2.nil)⟩
    · replace h := (if_neg c4).symm.trans h
      replace c4 := Bool.eq_false_iff.mpr c4
      refine AWops.guard_no rfl (Nat.le_of_ble_eq_true rfl) rfl c4 ?_
      refine AWops.guard_no rfl (Nat.le_of_ble_eq_true rfl) rfl c4 ?_
      refine AWops.guard_no rfl (Nat.le_of_ble_eq_true rfl) rfl c4 ?_
      refine AWops.guard_no rfl (Nat.le_of_ble_eq_true rfl) rfl c4 ?_
      refine AWops.guard_no rfl (Nat.le_of_ble_eq_true rfl) rfl c4 ?_
      refine s_pick_no (d := (sc (.bool false))) rfl c4 rfl ?_
      refine s_move (d := (sc (.bool false))) rfl ?_
      refine AWops.guard_no rfl (Nat.le_of_ble_eq_true rfl) rfl rfl ?_
      refine AWops.guard_no rfl (Nat.le_of_ble_eq_true rfl) rfl rfl ?_
      refine AWops.guard_no rfl (Nat.le_of_ble_eq_true rfl) rfl rfl ?_
      refine AWops.guard_no rfl (Nat.le_of_ble_eq_true rfl) rfl rfl ?_
      refine AWops.guard_no rfl (Nat.le_of_ble_eq_true rfl) rfl rfl ?_
      refine s_pick_no (d := (sc (.bool false))) rfl rfl rfl ?_
      refine s_move (d := (sc (.bool false))) rfl ?_
      refine AWops.guard_no rfl (Nat.le_of_ble_eq_true rfl) rfl rfl ?_
      refine s_pick_no (d := (sc (.bool false))) rfl rfl rfl ?_
      refine s_assign (d := (sc (.bool false))) rfl ?_
      refine AWops.nil ?_
      refine AW.ret ?_
      obtain rfl := Option.some.inj h
      exact ⟨_, rfl, (Weak.gen (kk := 0) [] [] rfl rfl (by decide) (by decide) rfl rfl rfl (le_upd (le_top _) (.t (.one .sc))) All2.nil)⟩
  · replace h := (if_neg c3).symm.trans h
    replace c3 := Bool.eq_false_iff.mpr c3
    refine AWops.guard_no rfl (Nat.le_of_ble_eq_true rfl) rfl c3 ?_
    refine AWops.guard_no rfl (Nat.le_of_ble_eq_true rfl) rfl c3 ?_
    refine AWops.guard_no rfl (Nat.le_of_ble_eq_true rfl) rfl c3 ?_
    refine s_pick_no (d := (sc (.bool false))) rfl c3 rfl ?_
    refine s_move (d := (sc (.bool false))) rfl ?_
    refine AWops.guard_no rfl (Nat.le_of_ble_eq_true rfl) rfl rfl ?_
    refine AWops.guard_no rfl (Nat.le_of_ble_eq_true rfl) rfl rfl ?_
    refine AWops.guard_no rfl (Nat.le_of_ble_eq_true rfl) rfl rfl ?_
    refine AWops.guard_no rfl (Nat.le_of_ble_eq_true rfl) rfl rfl ?_
    refine AWops.guard_no rfl (Nat.le_of_ble_eq_true rfl) rfl rfl ?_
    refine s_pick_no (d := (sc (.bool false))) rfl rfl rfl ?_
    refine s_move (d := (sc (.bool false))) rfl ?_
    refine AWops.guard_no rfl (Nat.le_of_ble_eq_true rfl) rfl rfl ?_
    refine AWops.guard_no rfl (Nat.le_of_ble_eq_true rfl) rfl rfl ?_
    refine AWops.guard_no rfl (Nat.le_of_ble_eq_true rfl) rfl rfl ?_
    refine AWops.guard_no rfl (Nat.le_of_ble_eq_true rfl) rfl rfl ?_
    refine AWops.guard_no rfl (Nat.le_of_ble_eq_true rfl) rfl rfl ?_
    refine s_pick_no (d := (sc (.bool false))) rfl rfl rfl ?_
    refine s_move (d := (sc (.bool false))) rfl ?_
    refine AWops.guard_no rfl (Nat.le_of_ble_eq_true rfl) rfl rfl ?_
    refine s_pick_no (d := (sc (.bool false))) rfl rfl rfl ?_
    refine s_assign (d := (sc (.bool false))) rfl ?_
    refine AWops.nil ?_
    refine AW.ret ?_
    obtain rfl := Option.some.inj h
    exact ⟨_, rfl, (Weak.gen (kk := 0) [] [] rfl rfl (by decide) (by decide) rfl rfl rfl (le_upd (le_top _) (.t (.one .sc))) All2.nil)⟩
def dossierlaw01_CharsBack.f (k : Nat) (a0 : Int) (a1 : ByteArray) (a2 : Int) : Option Bool := (chars_Text.f k a0).bind fun r1 => (chars_Number.f k r1).bind fun r2 => if (r2.2 != 0) = true then (some false) else (if (r2.1 != a0) = true then (some false) else ((chars_Number.f k a1).bind fun r5 => if (r5.2 == 0) = true then ((chars_Text.f k r5.1).bind fun r7 => if (r7.toList == a1.toList) = true then ((chars_Encode.f k a2).bind fun r9 => if (decide ((r9.length : Int) > 0)) = true then (if (decide (r9.length + ([128] : List Int).length ≤ 140737488355328)) = true then ((chars_Decode.f k (r9 ++ ([128] : List Int))).bind fun r12 => if (r12.1 != a2) = true then (some false) else (if (r12.2 != (r9.length : Int)) = true then (some false) else ((dossierlaw01_awake.f k).bind fun r15 => some r15))) else none) else ((dossierlaw01_awake.f k).bind fun r16 => some r16)) else (some false)) else ((chars_Encode.f k a2).bind fun r17 => if (decide ((r17.length : Int) > 0)) = true then (if (decide (r17.length + ([128] : List Int).length ≤ 140737488355328)) = true then ((chars_Decode.f k (r17 ++ ([128] : List Int))).bind fun r20 => if (r20.1 != a2) = true then (some false) else (if (r20.2 != (r17.length : Int)) = true then (some false) else ((dossierlaw01_awake.f k).bind fun r23 => some r23))) else none) else ((dossierlaw01_awake.f k).bind fun r24 => some r24))))
theorem dossierlaw01_CharsBack.meets (k : Nat) (a0 : Int) (a1 : ByteArray) (a2 : Int) (r : Bool) (h : dossierlaw01_CharsBack.f k a0 a1 a2 = some r) : Meets Tryd.prog 6 [(sc (.int .i64 a0)), (sc (.string a1)), (sc (.int .i64 a2))] [] (sc (.bool r)) [] := by
  unfold dossierlaw01_CharsBack.f at h
  refine Meets.of_body (n := 62) Tryd.func6 rfl rfl (Nat.le_of_ble_eq_true rfl) fun x hx => ?_
  replace hx : x.k = 0 := hx
  show AW _ x _ _ ⟨62, fr0 [(sc (.int .i64 a0)), (sc (.string a1)), (sc (.int .i64 a2))], []⟩
  refine AW.seq ?_
  refine AW.region ?_
  refine s_assign (d := (sc (.bool false))) rfl ?_
  refine AWops.nil ?_
  refine AW.seq ?_
  refine AW.region ?_
  refine s_move (d := (sc (.int .i64 a0))) rfl ?_
  obtain ⟨r1, er1, h⟩ := Option.bind_eq_some_iff.mp h
  refine s_call2 (ρ := []) (br := false) (H2 := []) (d := (sc (.string r1))) F.ca_18 rfl rfl (All2.cons (.one .sc) All2.nil) All2.nil (by decide) rfl (chars_Text.meets _ a0 r1 er1) (.inl rfl) rfl rfl ?_
  obtain ⟨r2, er2, h⟩ := Option.bind_eq_some_iff.mp h
  refine s_call2 (ρ := []) (br := false) (H2 := []) (d := (D.tup [(sc (.int .i64 r2.1)), (sc (.int .i64 r2.2))])) F.ca_16 rfl rfl (All2.cons (.one .sc) All2.nil) All2.nil (by decide) rfl (chars_Number.meets _ r1 r2 er2) (.inl rfl) rfl rfl ?_
  refine s_move (d := (D.tup [(sc (.int .i64 r2.1)), (sc (.int .i64 r2.2))])) rfl ?_
  refine s_extract (d := (sc (.int .i64 r2.1))) rfl rfl ?_
  refine s_extract (d := (sc (.int .i64 r2.2))) rfl rfl ?_
  refine s_assign (d := (sc (.int .i64 r2.1))) rfl ?_
  refine s_assign (d := (sc (.int .i64 r2.2))) rfl ?_
  refine AWops.nil ?_
  refine AW.seq ?_
  refine AW.seq ?_
  refine AW.region ?_
  refine s_move (d := (sc (.int .i64 r2.2))) rfl ?_
  refine s_binI (v := (.bool (r2.2 != 0))) rfl rfl rfl ?_
  refine s_move (d := (sc (.bool (r2.2 != 0)))) rfl ?_
  by_cases c3 : (r2.2 != 0) = true
  · replace h := (if_pos c3).symm.trans h
    refine AWops.guard_no rfl (Nat.le_of_ble_eq_true rfl) rfl c3 ?_
    refine AWops.guard_no rfl (Nat.le_of_ble_eq_true rfl) rfl c3 ?_
    refine AWops.guard_no rfl (Nat.le_of_ble_eq_true rfl) rfl c3 ?_
    refine s_pick_yes (d := (sc (.bool true))) rfl c3 rfl ?_
    refine AWops.nil ?_
    refine AW.cond_yes rfl rfl ?_
    refine AW.seq ?_
    refine AW.region ?_
    refine s_assign (d := (sc (.bool false))) rfl ?_
    refine AWops.nil ?_
    refine AW.ret ?_
    obtain rfl := Option.some.inj h
    exact ⟨_, rfl, (Weak.gen (kk := 0) [] [] rfl rfl (by decide) (by decide) rfl rfl rfl (le_upd (le_top _) (.t (.one .sc))) All2.nil)⟩
  · replace h := (if_neg c3).symm.trans h
    replace c3 := Bool.eq_false_iff.mpr c3
    refine AWops.guard_yes rfl (Nat.le_of_ble_eq_true rfl) rfl c3 ?_
    refine s_move (d := (sc (.int .i64 r2.1))) rfl ?_
    refine AWops.guard_yes rfl (Nat.le_of_ble_eq_true rfl) rfl c3 ?_
    refine s_move (d := (sc (.int .i64 a0))) rfl ?_
    refine AWops.guard_yes rfl (Nat.le_of_ble_eq_true rfl) rfl c3 ?_
    refine s_binI (v := (.bool (r2.1 != a0))) rfl rfl rfl ?_
    refine s_pick_no (d := (sc (.bool (r2.1 != a0)))) rfl c3 rfl ?_
    refine AWops.nil ?_
    by_cases c4 : (r2.1 != a0) = true
    · replace h := (if_pos c4).symm.trans h
      refine AW.cond_yes rfl c4 ?_
      refine AW.seq ?_
      refine AW.region ?_
      refine s_assign (d := (sc (.bool false))) rfl ?_
      refine AWops.nil ?_
      refine AW.ret ?_
      obtain rfl := Option.some.inj h
      exact ⟨_, rfl, (Weak.gen (kk := 0) [] [] rfl rfl (by decide) (by decide) rfl rfl rfl (le_upd (le_top _) (.t (.one .sc))) All2.nil)⟩
    · replace h := (if_neg c4).symm.trans h
      replace c4 := Bool.eq_false_iff.mpr c4
      refine AW.cond_no rfl c4 ?_
      refine AW.skip ?_
      refine AW.seq ?_
      refine AW.seq ?_
      refine AW.region ?_
      refine s_move (d := (sc (.string a1))) rfl ?_
      obtain ⟨r5, er5, h⟩ := Option.bind_eq_some_iff.mp h
      refine s_call2 (ρ := []) (br := false) (H2 := []) (d := (D.tup [(sc (.int .i64 r5.1)), (sc (.int .i64 r5.2))])) F.ca_16 rfl rfl (All2.cons (.one .sc) All2.nil) All2.nil (by decide) rfl (chars_Number.meets _ a1 r5 er5) (.inl rfl) rfl rfl ?_
      refine s_move (d := (D.tup [(sc (.int .i64 r5.1)), (sc (.int .i64 r5.2))])) rfl ?_
      refine s_extract (d := (sc (.int .i64 r5.1))) rfl rfl ?_
      refine s_extract (d := (sc (.int .i64 r5.2))) rfl rfl ?_
      refine s_assign (d := (sc (.int .i64 r5.1))) rfl ?_
      refine s_assign (d := (sc (.int .i64 r5.2))) rfl ?_
      refine AWops.nil ?_
      refine AW.seq ?_
      refine AW.region ?_
      refine s_move (d := (sc (.int .i64 r5.2))) rfl ?_
      refine s_binI (v := (.bool (r5.2 == 0))) rfl rfl rfl ?_
      refine s_move (d := (sc (.bool (r5.2 == 0)))) rfl ?_
      by_cases c6 : (r5.2 == 0) = true
      · replace h := (if_pos c6).symm.trans h
        refine AWops.guard_yes rfl (Nat.le_of_ble_eq_true rfl) rfl c6 ?_
        refine s_move (d := (sc (.int .i64 r5.1))) rfl ?_
        refine AWops.guard_yes rfl (Nat.le_of_ble_eq_true rfl) rfl c6 ?_
        obtain ⟨r7, er7, h⟩ := Option.bind_eq_some_iff.mp h
        refine s_call2 (ρ := []) (br := false) (H2 := []) (d := (sc (.string r7))) F.ca_18 rfl rfl (All2.cons (.one .sc) All2.nil) All2.nil (by decide) rfl (chars_Text.meets _ r5.1 r7 er7) (.inl rfl) rfl rfl ?_
        refine AWops.guard_yes rfl (Nat.le_of_ble_eq_true rfl) rfl c6 ?_
        refine s_move (d := (sc (.string a1))) rfl ?_
        refine AWops.guard_yes rfl (Nat.le_of_ble_eq_true rfl) rfl c6 ?_
        refine s_binS (v := (.bool (!(r7.toList == a1.toList)))) rfl rfl rfl ?_
        refine s_pick_yes (d := (sc (.bool (!(r7.toList == a1.toList))))) rfl c6 rfl ?_
        refine AWops.nil ?_
        by_cases c8 : (r7.toList == a1.toList) = true
        · replace h := (if_pos c8).symm.trans h
          refine AW.cond_no rfl (by rw [c8] <;> rfl) ?_
          refine AW.skip ?_
          refine AW.seq ?_
          refine AW.seq ?_
          refine AW.region ?_
          refine s_move (d := (sc (.int .i64 a2))) rfl ?_
          obtain ⟨r9, er9, h⟩ := Option.bind_eq_some_iff.mp h
          refine s_call2 (ρ := []) (br := false) (H2 := [(some (AObj.cells true (rowC e_u8 r9)))]) (d := (D.one (C.own 0 0 r9.length 1))) F.ca_23 rfl rfl (All2.cons (.one .sc) All2.nil) All2.nil (by decide) rfl (chars_Encode.meets _ a2 r9 er9) (.inl rfl) (by first | rfl | (simp only [mergeH2, orF, Bool.false_or, Bool.or_false, Bool.true_or, Bool.or_true, mergeAt, mergeObj, renO, ren_row, List.drop_succ_cons, List.drop_zero, List.map_cons, List.map_nil, Option.map_some, Option.map_none, List.length_cons, List.length_nil, Nat.zero_add, List.append_assoc, List.cons_append, List.nil_append]; done) | (simp only [mergeH2, orF, Bool.false_or, Bool.or_false, Bool.true_or, Bool.or_true, mergeAt, mergeObj, renO, ren_row, List.drop_succ_cons, List.drop_zero, List.map_cons, List.map_nil, Option.map_some, Option.map_none, List.length_cons, List.length_nil, Nat.zero_add, List.append_assoc, List.cons_append, List.nil_append]; rfl)) rfl ?_
          refine s_assign (d := (D.one (C.own 0 0 r9.length 1))) rfl ?_
          refine AWops.nil ?_
          refine AW.seq ?_
          refine AW.region ?_
          refine s_move (d := (D.one (C.own 0 0 r9.length 1))) rfl ?_
          refine s_len (n := r9.length) F.u_31 rfl (.inr ⟨(fun _ _ h => by cases h), ⟨_, rfl⟩⟩) ?_
          refine s_binI (v := (.bool (decide ((r9.length : Int) > 0)))) rfl rfl rfl ?_
          refine AWops.nil ?_
          by_cases c10 : (decide ((r9.length : Int) > 0)) = true
          · replace h := (if_pos c10).symm.trans h
            refine AW.cond_yes rfl c10 ?_
            refine AW.seq ?_
            refine AW.region ?_
            refine s_move (d := (D.one (C.own 0 0 r9.length 1))) rfl ?_
            refine s_buildSlice (n := 1) (ps := [(0, (sc (.int .u8 128)))]) (cs := rowC e_u8 ([128] : List Int)) F.u_31 F.sz_5 F.z_5 rfl rfl (by decide) (by decide) rfl rfl ?_
            by_cases c11 : (decide (r9.length + ([128] : List Int).length ≤ 140737488355328)) = true
            · replace h := (if_pos c11).symm.trans h
              have dc11 := of_decide_eq_true c11
              refine t_append (xs := r9) (ys := ([128] : List Int)) (zs := r9 ++ ([128] : List Int)) (H' := [none, (some (AObj.cells true (rowC e_u8 ([128] : List Int)))), (some (AObj.cells true (rowC e_u8 (r9 ++ ([128] : List Int)))))]) F.u_31 F.in_5 rfl e_u8_len (.own rfl rfl) (.own rfl rfl) F.u_31 (by omega) (by omega) rfl rfl ?_
              obtain ⟨r12, er12, h⟩ := Option.bind_eq_some_iff.mp h
              refine s_call2 (ρ := []) (br := true) (H2 := [none, (some (AObj.cells true (rowC e_u8 ([128] : List Int)))), (some (AObj.cells true (rowC e_u8 (r9 ++ ([128] : List Int)))))]) (d := (D.tup [(sc (.int .i64 r12.1)), (sc (.int .i64 r12.2))])) F.ca_20 rfl rfl (All2.cons (.one (LendC.bor e_u8_len rfl rfl rfl)) All2.nil) All2.nil (by decide) rfl (chars_Decode.meets _ (r9 ++ ([128] : List Int)) r12 er12) (.inr ⟨rfl, rfl⟩) rfl rfl ?_
              refine s_move (d := (D.tup [(sc (.int .i64 r12.1)), (sc (.int .i64 r12.2))])) rfl ?_
              refine s_extract (d := (sc (.int .i64 r12.1))) rfl rfl ?_
              refine s_extract (d := (sc (.int .i64 r12.2))) rfl rfl ?_
              refine s_assign (d := (sc (.int .i64 r12.1))) rfl ?_
              refine s_assign (d := (sc (.int .i64 r12.2))) rfl ?_
              refine AWops.nil ?_
              refine AW.seq ?_
              refine AW.region ?_
              refine s_move (d := (sc (.int .i64 r12.1))) rfl ?_
              refine s_move (d := (sc (.int .i64 a2))) rfl ?_
              refine s_binI (v := (.bool (r12.1 != a2))) rfl rfl rfl ?_
              refine s_move (d := (sc (.bool (r12.1 != a2)))) rfl ?_
              by_cases c13 : (r12.1 != a2) = true
              · replace h := (if_pos c13).symm.trans h
                refine AWops.guard_no rfl (Nat.le_of_ble_eq_true rfl) rfl c13 ?_
                refine AWops.guard_no rfl (Nat.le_of_ble_eq_true rfl) rfl c13 ?_
                refine AWops.guard_no rfl (Nat.le_of_ble_eq_true rfl) rfl c13 ?_
                refine AWops.guard_no rfl (Nat.le_of_ble_eq_true rfl) rfl c13 ?_
                refine s_pick_yes (d := (sc (.bool true))) rfl c13 rfl ?_
                refine AWops.nil ?_
                refine AW.cond_yes rfl rfl ?_
                refine AW.seq ?_
                refine AW.region ?_
                refine s_assign (d := (sc (.bool false))) rfl ?_
                refine AWops.nil ?_
                refine AW.ret ?_
                obtain rfl := Option.some.inj h
                exact ⟨_, rfl, (Weak.gen (kk := 0) [] [] rfl rfl (by decide) (by decide) rfl rfl rfl (le_upd (le_top _) (.t (.one .sc))) All2.nil)⟩
              · replace h := (if_neg c13).symm.trans h
                replace c13 := Bool.eq_false_iff.mpr c13
                refine AWops.guard_yes rfl (Nat.le_of_ble_eq_true rfl) rfl c13 ?_
                refine s_move (d := (sc (.int .i64 r12.2))) rfl ?_
                refine AWops.guard_yes rfl (Nat.le_of_ble_eq_true rfl) rfl c13 ?_
                refine s_move (d := (D.one (C.own 0 0 r9.length 1))) rfl ?_
                refine AWops.guard_yes rfl (Nat.le_of_ble_eq_true rfl) rfl c13 ?_
                refine s_len (n := r9.length) F.u_31 rfl (.inr ⟨(fun _ _ h => by cases h), ⟨_, rfl⟩⟩) ?_
                refine AWops.guard_yes rfl (Nat.le_of_ble_eq_true rfl) rfl c13 ?_
                refine s_binI (v := (.bool (r12.2 != (r9.length : Int)))) rfl rfl rfl ?_
                refine s_pick_no (d := (sc (.bool (r12.2 != (r9.length : Int))))) rfl c13 rfl ?_
                refine AWops.nil ?_
                by_cases c14 : (r12.2 != (r9.length : Int)) = true
                · replace h := (if_pos c14).symm.trans h
                  refine AW.cond_yes rfl c14 ?_
                  refine AW.seq ?_
                  refine AW.region ?_
                  refine s_assign (d := (sc (.bool false))) rfl ?_
                  refine AWops.nil ?_
                  refine AW.ret ?_
                  obtain rfl := Option.some.inj h
                  exact ⟨_, rfl, (Weak.gen (kk := 0) [] [] rfl rfl (by decide) (by decide) rfl rfl rfl (le_upd (le_top _) (.t (.one .sc))) All2.nil)⟩
                · replace h := (if_neg c14).symm.trans h
                  replace c14 := Bool.eq_false_iff.mpr c14
                  refine AW.cond_no rfl c14 ?_
                  refine AW.skip ?_
                  refine AW.seq ?_
                  refine AW.region ?_
                  obtain ⟨r15, er15, h⟩ := Option.bind_eq_some_iff.mp h
                  refine s_call2 (ρ := []) (br := false) (H2 := [none, (some (AObj.cells true (rowC e_u8 ([128] : List Int)))), (some (AObj.cells true (rowC e_u8 (r9 ++ ([128] : List Int)))))]) (d := (sc (.bool r15))) F.ca_15 rfl rfl All2.nil All2.nil (by decide) rfl (dossierlaw01_awake.meets _  r15 er15) (.inl rfl) rfl rfl ?_
                  refine s_assign (d := (sc (.bool r15))) rfl ?_
                  refine AWops.nil ?_
                  refine AW.ret ?_
                  obtain rfl := Option.some.inj h
                  exact ⟨_, rfl, (Weak.gen (kk := 0) [] [] rfl rfl (by decide) (by decide) rfl rfl rfl (le_upd (le_top _) (.t (.one .sc))) All2.nil)⟩
            · replace h := (if_neg c11).symm.trans h
              cases h
          · replace h := (if_neg c10).symm.trans h
            replace c10 := Bool.eq_false_iff.mpr c10
            refine AW.cond_no rfl c10 ?_
            refine AW.skip ?_
            refine AW.seq ?_
            refine AW.region ?_
            obtain ⟨r16, er16, h⟩ := Option.bind_eq_some_iff.mp h
            refine s_call2 (ρ := []) (br := false) (H2 := [(some (AObj.cells true (rowC e_u8 r9)))]) (d := (sc (.bool r16))) F.ca_15 rfl rfl All2.nil All2.nil (by decide) rfl (dossierlaw01_awake.meets _  r16 er16) (.inl rfl) rfl rfl ?_
            refine s_assign (d := (sc (.bool r16))) rfl ?_
            refine AWops.nil ?_
            refine AW.ret ?_
            obtain rfl := Option.some.inj h
            exact ⟨_, rfl, (Weak.gen (kk := 0) [] [] rfl rfl (by decide) (by decide) rfl rfl rfl (le_upd (le_top _) (.t (.one .sc))) All2.nil)⟩
        · replace h := (if_neg c8).symm.trans h
          replace c8 := Bool.eq_false_iff.mpr c8
          refine AW.cond_yes rfl (by rw [c8] <;> rfl) ?_
          refine AW.seq ?_
          refine AW.region ?_
          refine s_assign (d := (sc (.bool false))) rfl ?_
          refine AWops.nil ?_
          refine AW.ret ?_
          obtain rfl := Option.some.inj h
          exact ⟨_, rfl, (Weak.gen (kk := 0) [] [] rfl rfl (by decide) (by decide) rfl rfl rfl (le_upd (le_top _) (.t (.one .sc))) All2.nil)⟩
      · replace h := (if_neg c6).symm.trans h
        replace c6 := Bool.eq_false_iff.mpr c6
        refine AWops.guard_no rfl (Nat.le_of_ble_eq_true rfl) rfl c6 ?_
        refine AWops.guard_no rfl (Nat.le_of_ble_eq_true rfl) rfl c6 ?_
        refine AWops.guard_no rfl (Nat.le_of_ble_eq_true rfl) rfl c6 ?_
        refine AWops.guard_no rfl (Nat.le_of_ble_eq_true rfl) rfl c6 ?_
        refine s_pick_no (d := (sc (.bool false))) rfl c6 rfl ?_
        refine AWops.nil ?_
        refine AW.cond_no rfl rfl ?_
        refine AW.skip ?_
        refine AW.seq ?_
        refine AW.seq ?_
        refine AW.region ?_
        refine s_move (d := (sc (.int .i64 a2))) rfl ?_
        obtain ⟨r17, er17, h⟩ := Option.bind_eq_some_iff.mp h
        refine s_call2 (ρ := []) (br := false) (H2 := [(some (AObj.cells true (rowC e_u8 r17)))]) (d := (D.one (C.own 0 0 r17.length 1))) F.ca_23 rfl rfl (All2.cons (.one .sc) All2.nil) All2.nil (by decide) rfl (chars_Encode.meets _ a2 r17 er17) (.inl rfl) (by first | rfl | (simp only [mergeH2, orF, Bool.false_or, Bool.or_false, Bool.true_or, Bool.or_true, mergeAt, mergeObj, renO, ren_row, List.drop_succ_cons, List.drop_zero, List.map_cons, List.map_nil, Option.map_some, Option.map_none, List.length_cons, List.length_nil, Nat.zero_add, List.append_assoc, List.cons_append, List.nil_append]; done) | (simp only [mergeH2, orF, Bool.false_or, Bool.or_false, Bool.true_or, Bool.or_true, mergeAt, mergeObj, renO, ren_row, List.drop_succ_cons, List.drop_zero, List.map_cons, List.map_nil, Option.map_some, Option.map_none, List.length_cons, List.length_nil, Nat.zero_add, List.append_assoc, List.cons_append, List.nil_append]; rfl)) rfl ?_
        refine s_assign (d := (D.one (C.own 0 0 r17.length 1))) rfl ?_
        refine AWops.nil ?_
        refine AW.seq ?_
        refine AW.region ?_
        refine s_move (d := (D.one (C.own 0 0 r17.length 1))) rfl ?_
        refine s_len (n := r17.length) F.u_31 rfl (.inr ⟨(fun _ _ h => by cases h), ⟨_, rfl⟩⟩) ?_
        refine s_binI (v := (.bool (decide ((r17.length : Int) > 0)))) rfl rfl rfl ?_
        refine AWops.nil ?_
        by_cases c18 : (decide ((r17.length : Int) > 0)) = true
        · replace h := (if_pos c18).symm.trans h
          refine AW.cond_yes rfl c18 ?_
          refine AW.seq ?_
          refine AW.region ?_
          refine s_move (d := (D.one (C.own 0 0 r17.length 1))) rfl ?_
          refine s_buildSlice (n := 1) (ps := [(0, (sc (.int .u8 128)))]) (cs := rowC e_u8 ([128] : List Int)) F.u_31 F.sz_5 F.z_5 rfl rfl (by decide) (by decide) rfl rfl ?_
          by_cases c19 : (decide (r17.length + ([128] : List Int).length ≤ 140737488355328)) = true
          · replace h := (if_pos c19).symm.trans h
            have dc19 := of_decide_eq_true c19
            refine t_append (xs := r17) (ys := ([128] : List Int)) (zs := r17 ++ ([128] : List Int)) (H' := [none, (some (AObj.cells true (rowC e_u8 ([128] : List Int)))), (some (AObj.cells true (rowC e_u8 (r17 ++ ([128] : List Int)))))]) F.u_31 F.in_5 rfl e_u8_len (.own rfl rfl) (.own rfl rfl) F.u_31 (by omega) (by omega) rfl rfl ?_
            obtain ⟨r20, er20, h⟩ := Option.bind_eq_some_iff.mp h
            refine s_call2 (ρ := []) (br := true) (H2 := [none, (some (AObj.cells true (rowC e_u8 ([128] : List Int)))), (some (AObj.cells true (rowC e_u8 (r17 ++ ([128] : List Int)))))]) (d := (D.tup [(sc (.int .i64 r20.1)), (sc (.int .i64 r20.2))])) F.ca_20 rfl rfl (All2.cons (.one (LendC.bor e_u8_len rfl rfl rfl)) All2.nil) All2.nil (by decide) rfl (chars_Decode.meets _ (r17 ++ ([128] : List Int)) r20 er20) (.inr ⟨rfl, rfl⟩) rfl rfl ?_
            refine s_move (d := (D.tup [(sc (.int .i64 r20.1)), (sc (.int .i64 r20.2))])) rfl ?_
            refine s_extract (d := (sc (.int .i64 r20.1))) rfl rfl ?_
            refine s_extract (d := (sc (.int .i64 r20.2))) rfl rfl ?_
            refine s_assign (d := (sc (.int .i64 r20.1))) rfl ?_
            refine s_assign (d := (sc (.int .i64 r20.2))) rfl ?_
            refine AWops.nil ?_
            refine AW.seq ?_
            refine AW.region ?_
            refine s_move (d := (sc (.int .i64 r20.1))) rfl ?_
            refine s_move (d := (sc (.int .i64 a2))) rfl ?_
            refine s_binI (v := (.bool (r20.1 != a2))) rfl rfl rfl ?_
            refine s_move (d := (sc (.bool (r20.1 != a2)))) rfl ?_
            by_cases c21 : (r20.1 != a2) = true
            · replace h := (if_pos c21).symm.trans h
              refine AWops.guard_no rfl (Nat.le_of_ble_eq_true rfl) rfl c21 ?_
              refine AWops.guard_no rfl (Nat.le_of_ble_eq_true rfl) rfl c21 ?_
              refine AWops.guard_no rfl (Nat.le_of_ble_eq_true rfl) rfl c21 ?_
              refine AWops.guard_no rfl (Nat.le_of_ble_eq_true rfl) rfl c21 ?_
              refine s_pick_yes (d := (sc (.bool true))) rfl c21 rfl ?_
              refine AWops.nil ?_
              refine AW.cond_yes rfl rfl ?_
              refine AW.seq ?_
              refine AW.region ?_
              refine s_assign (d := (sc (.bool false))) rfl ?_
              refine AWops.nil ?_
              refine AW.ret ?_
              obtain rfl := Option.some.inj h
              exact ⟨_, rfl, (Weak.gen (kk := 0) [] [] rfl rfl (by decide) (by decide) rfl rfl rfl (le_upd (le_top _) (.t (.one .sc))) All2.nil)⟩
            · replace h := (if_neg c21).symm.trans h
              replace c21 := Bool.eq_false_iff.mpr c21
              refine AWops.guard_yes rfl (Nat.le_of_ble_eq_true rfl) rfl c21 ?_
              refine s_move (d := (sc (.int .i64 r20.2))) rfl ?_
              refine AWops.guard_yes rfl (Nat.le_of_ble_eq_true rfl) rfl c21 ?_
              refine s_move (d := (D.one (C.own 0 0 r17.length 1))) rfl ?_
              refine AWops.guard_yes rfl (Nat.le_of_ble_eq_true rfl) rfl c21 ?_
              refine s_len (n := r17.length) F.u_31 rfl (.inr ⟨(fun _ _ h => by cases h), ⟨_, rfl⟩⟩) ?_
              refine AWops.guard_yes rfl (Nat.le_of_ble_eq_true rfl) rfl c21 ?_
              refine s_binI (v := (.bool (r20.2 != (r17.length : Int)))) rfl rfl rfl ?_
              refine s_pick_no (d := (sc (.bool (r20.2 != (r17.length : Int))))) rfl c21 rfl ?_
              refine AWops.nil ?_
              by_cases c22 : (r20.2 != (r17.length : Int)) = true
              · replace h := (if_pos c22).symm.trans h
                refine AW.cond_yes rfl c22 ?_
                refine AW.seq ?_
                refine AW.region ?_
                refine s_assign (d := (sc (.bool false))) rfl ?_
                refine AWops.nil ?_
                refine AW.ret ?_
                obtain rfl := Option.some.inj h
                exact ⟨_, rfl, (Weak.gen (kk := 0) [] [] rfl rfl (by decide) (by decide) rfl rfl rfl (le_upd (le_top _) (.t (.one .sc))) All2.nil)⟩
              · replace h := (if_neg c22).symm.trans h
                replace c22 := Bool.eq_false_iff.mpr c22
                refine AW.cond_no rfl c22 ?_
                refine AW.skip ?_
                refine AW.seq ?_
                refine AW.region ?_
                obtain ⟨r23, er23, h⟩ := Option.bind_eq_some_iff.mp h
                refine s_call2 (ρ := []) (br := false) (H2 := [none, (some (AObj.cells true (rowC e_u8 ([128] : List Int)))), (some (AObj.cells true (rowC e_u8 (r17 ++ ([128] : List Int)))))]) (d := (sc (.bool r23))) F.ca_15 rfl rfl All2.nil All2.nil (by decide) rfl (dossierlaw01_awake.meets _  r23 er23) (.inl rfl) rfl rfl ?_
                refine s_assign (d := (sc (.bool r23))) rfl ?_
                refine AWops.nil ?_
                refine AW.ret ?_
                obtain rfl := Option.some.inj h
                exact ⟨_, rfl, (Weak.gen (kk := 0) [] [] rfl rfl (by decide) (by decide) rfl rfl rfl (le_upd (le_top _) (.t (.one .sc))) All2.nil)⟩
          · replace h := (if_neg c19).symm.trans h
            cases h
        · replace h := (if_neg c18).symm.trans h
          replace c18 := Bool.eq_false_iff.mpr c18
          refine AW.cond_no rfl c18 ?_
          refine AW.skip ?_
          refine AW.seq ?_
          refine AW.region ?_
          obtain ⟨r24, er24, h⟩ := Option.bind_eq_some_iff.mp h
          refine s_call2 (ρ := []) (br := false) (H2 := [(some (AObj.cells true (rowC e_u8 r17)))]) (d := (sc (.bool r24))) F.ca_15 rfl rfl All2.nil All2.nil (by decide) rfl (dossierlaw01_awake.meets _  r24 er24) (.inl rfl) rfl rfl ?_
          refine s_assign (d := (sc (.bool r24))) rfl ?_
          refine AWops.nil ?_
          refine AW.ret ?_
          obtain rfl := Option.some.inj h
          exact ⟨_, rfl, (Weak.gen (kk := 0) [] [] rfl rfl (by decide) (by decide) rfl rfl rfl (le_upd (le_top _) (.t (.one .sc))) All2.nil)⟩
end Go.Abs.GenC
