import Derived.Test.YtknfjmongeddgaaAbsN
import Derived.Test.YtknfjmongeddgaaProg
set_option linter.unusedVariables false
set_option linter.unusedSimpArgs false
set_option maxRecDepth 100000
namespace Go.Abs.GenA
open Go.Abs Go.Proofs
structure wire_Reader where
  made : Bool
  b : List Int
  err : Int
def e_wire_Reader (x : wire_Reader) : List P := e_bool x.made ++ (e_sl e_u8) x.b ++ e_i64 x.err
theorem e_wire_Reader_eq (x : wire_Reader) : e_wire_Reader x = [P.v (.bool x.made), P.sl x.b.length (x.b.flatMap e_u8), P.v (.int .i64 x.err)] := rfl
theorem e_wire_Reader_len (x : wire_Reader) : (e_wire_Reader x).length = 3 := rfl
namespace F
theorem u_22 : Try.prog.underlying 22 = some (.slice 5) := by kernel_rfl
theorem in_5 : infoQ Try.prog 5 = some (some (.int .u8 0), 1, 1) := by kernel_rfl
theorem sz_5 : szOf Try.prog 5 = some 1 := by kernel_rfl
theorem z_5 : zeroOf Try.prog 5 = some (.int .u8 0) := by kernel_rfl
theorem u_3 : Try.prog.underlying 3 = some (.int .i64) := by kernel_rfl
theorem u_60 : Try.prog.underlying 60 = some (.int .u64) := by kernel_rfl
theorem u_5 : Try.prog.underlying 5 = some (.int .u8) := by kernel_rfl
theorem ca_38 : callable Try.prog 38 = true := by kernel_rfl
theorem u_9 : Try.prog.underlying 9 = some (.string) := by kernel_rfl
theorem ca_11 : callable Try.prog 11 = true := by kernel_rfl
theorem ca_12 : callable Try.prog 12 = true := by kernel_rfl
theorem u_62 : Try.prog.underlying 62 = some (.int .u32) := by kernel_rfl
theorem ag_5 : aggOf Try.prog 5 = some false := by kernel_rfl
theorem ca_10 : callable Try.prog 10 = true := by kernel_rfl
theorem ca_19 : callable Try.prog 19 = true := by kernel_rfl
theorem ca_18 : callable Try.prog 18 = true := by kernel_rfl
theorem ca_17 : callable Try.prog 17 = true := by kernel_rfl
theorem ca_16 : callable Try.prog 16 = true := by kernel_rfl
theorem ca_15 : callable Try.prog 15 = true := by kernel_rfl
theorem ca_14 : callable Try.prog 14 = true := by kernel_rfl
theorem ca_13 : callable Try.prog 13 = true := by kernel_rfl
theorem ca_9 : callable Try.prog 9 = true := by kernel_rfl
theorem z_49 : zeroOf Try.prog 49 = some (.agg #[(.bool false), (.slice none 0 0), (.int .i64 0)]) := by kernel_rfl
theorem so_49 : structOk Try.prog 49 = true := by kernel_rfl
theorem u_47 : Try.prog.underlying 47 = some (.pointer 49) := by kernel_rfl
theorem fo_49_0 : fieldOf Try.prog 49 0 = some (0, 1, false) := by kernel_rfl
theorem ag_4 : aggOf Try.prog 4 = some false := by kernel_rfl
theorem fo_49_2 : fieldOf Try.prog 49 2 = some (2, 1, false) := by kernel_rfl
theorem fo_49_1 : fieldOf Try.prog 49 1 = some (1, 1, false) := by kernel_rfl
theorem sz_22 : szOf Try.prog 22 = some 1 := by kernel_rfl
theorem sz_42 : szOf Try.prog 42 = some 1 := by kernel_rfl
theorem ag_42 : aggOf Try.prog 42 = some false := by kernel_rfl
theorem ca_46 : callable Try.prog 46 = true := by kernel_rfl
theorem ag_22 : aggOf Try.prog 22 = some false := by kernel_rfl
theorem ca_47 : callable Try.prog 47 = true := by kernel_rfl
theorem ca_45 : callable Try.prog 45 = true := by kernel_rfl
theorem ca_26 : callable Try.prog 26 = true := by kernel_rfl
theorem u_4 : Try.prog.underlying 4 = some (.bool) := by kernel_rfl
theorem ca_29 : callable Try.prog 29 = true := by kernel_rfl
theorem ca_30 : callable Try.prog 30 = true := by kernel_rfl
theorem ca_27 : callable Try.prog 27 = true := by kernel_rfl
theorem ca_32 : callable Try.prog 32 = true := by kernel_rfl
theorem ca_28 : callable Try.prog 28 = true := by kernel_rfl
theorem ca_31 : callable Try.prog 31 = true := by kernel_rfl
theorem ag_47 : aggOf Try.prog 47 = some false := by kernel_rfl
theorem u_50 : Try.prog.underlying 50 = some (.slice 47) := by kernel_rfl
theorem sz_47 : szOf Try.prog 47 = some 1 := by kernel_rfl
theorem z_47 : zeroOf Try.prog 47 = some (.pointer none) := by kernel_rfl
end F
def bytes_Clone.f (k : Nat) (a0 : List Int) : Option (List Int) := if (decide (([] : List Int).length + a0.length ≤ 140737488355328)) = true then (some a0) else none
theorem bytes_Clone.meets (k : Nat) (a0 : List Int) (r : (List Int)) (h : bytes_Clone.f k a0 = some r) : Meets Try.prog 9 [(D.one (C.p false (.sl a0.length (a0.flatMap e_u8))))] [] (D.one (C.own 0 0 r.length 1)) [(some (AObj.cells true (rowC e_u8 r)))] := by
  unfold bytes_Clone.f at h
  refine Meets.of_body (n := 8) Try.func9 rfl rfl (Nat.le_of_ble_eq_true rfl) fun x hx => ?_
  replace hx : x.k = 0 := hx
  show AW _ x _ _ ⟨8, fr0 [(D.one (C.p false (.sl a0.length (a0.flatMap e_u8))))], []⟩
  refine AW.seq ?_
  refine AW.region ?_
  refine s_assign (d := (sc (.slice none 0 0))) rfl ?_
  refine AWops.nil ?_
  refine AW.seq ?_
  refine AW.seq ?_
  refine AW.region ?_
  refine s_move (d := (D.one (C.p false (.sl a0.length (a0.flatMap e_u8))))) rfl ?_
  refine s_eqNil (n := _) F.u_22 rfl (fun _ _ h => by cases h) rfl (.inl rfl) (fun b w => ?_)
  cases b with
  | false =>
    refine AWops.nil ?_
    refine AW.cond_no rfl rfl ?_
    refine AW.skip ?_
    refine AW.seq ?_
    refine AW.region ?_
    refine s_buildSlice (n := 0) (ps := []) (cs := rowC e_u8 ([] : List Int)) F.u_22 F.sz_5 F.z_5 rfl rfl (by decide) (by decide) rfl rfl ?_
    refine s_move (d := (D.one (C.p false (.sl a0.length (a0.flatMap e_u8))))) rfl ?_
    by_cases c1 : (decide (([] : List Int).length + a0.length ≤ 140737488355328)) = true
    · replace h := (if_pos c1).symm.trans h
      have dc1 := of_decide_eq_true c1
      refine t_append (xs := ([] : List Int)) (ys := a0) (zs := a0) (H' := [none, (some (AObj.cells true (rowC e_u8 a0)))]) F.u_22 F.in_5 rfl e_u8_len (.own rfl rfl) .imm F.u_22 (by omega) (by omega) rfl rfl ?_
      refine s_assign (d := (D.one (C.own 1 0 a0.length 1))) rfl ?_
      refine AWops.nil ?_
      refine AW.ret ?_
      obtain rfl := Option.some.inj h
      exact ⟨_, rfl, (Weak.gen (kk := 0) [1] [] rfl rfl (by decide) (by decide) rfl rfl rfl (le_upd (le_top _) (.t (.one (.own rfl)))) (All2.cons (.cells (fun h => h) (all2_row _)) All2.nil))⟩
    · replace h := (if_neg c1).symm.trans h
      cases h
  | true =>
    obtain rfl : a0 = [] := by cases a0 with | nil => rfl | cons _ _ => exact absurd (w (by simp)) (by decide)
    replace h : (some ([] : List Int)) = some r := by simpa [bytesI] using h
    skip
    refine AWops.nil ?_
    refine AW.cond_yes rfl rfl ?_
    refine AW.seq ?_
    refine AW.region ?_
    refine s_assign (d := (sc (.slice none 0 0))) rfl ?_
    refine AWops.nil ?_
    refine AW.ret ?_
    obtain rfl := Option.some.inj h
    exact ⟨_, rfl, (Weak.trans (Weak.nil (sz := 1) (i := 0) rfl) (Weak.gen (kk := 0) [0] [] rfl rfl (by decide) (by decide) rfl rfl rfl (le_upd (le_top _) (.t (.one (CLe.ownN rfl (by simp))))) (All2.cons (.cells (fun h => h) All2.nil) All2.nil)))⟩
def slices_Clone_byte_byte.f (k : Nat) (a0 : List Int) : Option (List Int) := if (decide (([] : List Int).length + a0.length ≤ 140737488355328)) = true then (some a0) else none
theorem slices_Clone_byte_byte.meets (k : Nat) (a0 : List Int) (r : (List Int)) (h : slices_Clone_byte_byte.f k a0 = some r) : Meets Try.prog 38 [(D.one (C.p false (.sl a0.length (a0.flatMap e_u8))))] [] (D.one (C.own 0 0 r.length 1)) [(some (AObj.cells true (rowC e_u8 r)))] := by
  unfold slices_Clone_byte_byte.f at h
  refine Meets.of_body (n := 8) Try.func38 rfl rfl (Nat.le_of_ble_eq_true rfl) fun x hx => ?_
  replace hx : x.k = 0 := hx
  show AW _ x _ _ ⟨8, fr0 [(D.one (C.p false (.sl a0.length (a0.flatMap e_u8))))], []⟩
  refine AW.seq ?_
  refine AW.region ?_
  refine s_assign (d := (sc (.slice none 0 0))) rfl ?_
  refine AWops.nil ?_
  refine AW.seq ?_
  refine AW.seq ?_
  refine AW.region ?_
  refine s_move (d := (D.one (C.p false (.sl a0.length (a0.flatMap e_u8))))) rfl ?_
  refine s_eqNil (n := _) F.u_22 rfl (fun _ _ h => by cases h) rfl (.inl rfl) (fun b w => ?_)
  cases b with
  | false =>
    refine AWops.nil ?_
    refine AW.cond_no rfl rfl ?_
    refine AW.skip ?_
    refine AW.seq ?_
    refine AW.region ?_
    refine s_buildSlice (n := 0) (ps := []) (cs := rowC e_u8 ([] : List Int)) F.u_22 F.sz_5 F.z_5 rfl rfl (by decide) (by decide) rfl rfl ?_
    refine s_move (d := (D.one (C.p false (.sl a0.length (a0.flatMap e_u8))))) rfl ?_
    by_cases c1 : (decide (([] : List Int).length + a0.length ≤ 140737488355328)) = true
    · replace h := (if_pos c1).symm.trans h
      have dc1 := of_decide_eq_true c1
      refine t_append (xs := ([] : List Int)) (ys := a0) (zs := a0) (H' := [none, (some (AObj.cells true (rowC e_u8 a0)))]) F.u_22 F.in_5 rfl e_u8_len (.own rfl rfl) .imm F.u_22 (by omega) (by omega) rfl rfl ?_
      refine s_assign (d := (D.one (C.own 1 0 a0.length 1))) rfl ?_
      refine AWops.nil ?_
      refine AW.ret ?_
      obtain rfl := Option.some.inj h
      exact ⟨_, rfl, (Weak.gen (kk := 0) [1] [] rfl rfl (by decide) (by decide) rfl rfl rfl (le_upd (le_top _) (.t (.one (.own rfl)))) (All2.cons (.cells (fun h => h) (all2_row _)) All2.nil))⟩
    · replace h := (if_neg c1).symm.trans h
      cases h
  | true =>
    obtain rfl : a0 = [] := by cases a0 with | nil => rfl | cons _ _ => exact absurd (w (by simp)) (by decide)
    replace h : (some ([] : List Int)) = some r := by simpa [bytesI] using h
    skip
    refine AWops.nil ?_
    refine AW.cond_yes rfl rfl ?_
    refine AW.seq ?_
    refine AW.region ?_
    refine s_assign (d := (sc (.slice none 0 0))) rfl ?_
    refine AWops.nil ?_
    refine AW.ret ?_
    obtain rfl := Option.some.inj h
    exact ⟨_, rfl, (Weak.trans (Weak.nil (sz := 1) (i := 0) rfl) (Weak.gen (kk := 0) [0] [] rfl rfl (by decide) (by decide) rfl rfl rfl (le_upd (le_top _) (.t (.one (CLe.ownN rfl (by simp))))) (All2.cons (.cells (fun h => h) All2.nil) All2.nil)))⟩
mutual
def wire_Int.l0 : Nat → (List Int) → Int → Option (List Int)
  | 0, _, _ => none
  | k + 1, x2, x3 => if (decide (x3 ≥ 128)) = true then (if (decide (x2.length + ([Go.bits .or .u8 (IntKind.u8.wrap x3) 128] : List Int).length ≤ 140737488355328)) = true then (wire_Int.l0 k (x2 ++ ([Go.bits .or .u8 (IntKind.u8.wrap x3) 128] : List Int)) (Int.fdiv x3 (2 ^ 7))) else none) else (if (decide (x2.length + ([IntKind.u8.wrap x3] : List Int).length ≤ 140737488355328)) = true then (some (x2 ++ ([IntKind.u8.wrap x3] : List Int))) else none)
end
def wire_Int.f (k : Nat) (a0 : List Int) (a1 : Int) : Option (List Int) := (slices_Clone_byte_byte.f k a0).bind fun r1 => wire_Int.l0 k r1 (Go.bits .xor .u64 (IntKind.u64.wrap ((IntKind.u64.wrap a1) * 2 ^ 1)) (IntKind.u64.wrap (Int.fdiv a1 (2 ^ 63))))
theorem wire_Int.meets (k : Nat) (a0 : List Int) (a1 : Int) (r : (List Int)) (h : wire_Int.f k a0 a1 = some r) : Meets Try.prog 11 [(D.one (C.p false (.sl a0.length (a0.flatMap e_u8)))), (sc (.int .i64 a1))] [] (D.one (C.own 0 0 r.length 1)) [(some (AObj.cells true (rowC e_u8 r)))] := by
  unfold wire_Int.f at h
  refine Meets.of_body (n := 31) Try.func11 rfl rfl (Nat.le_of_ble_eq_true rfl) fun x hx => ?_
  replace hx : x.k = 0 := hx
  show AW _ x _ _ ⟨31, fr0 [(D.one (C.p false (.sl a0.length (a0.flatMap e_u8)))), (sc (.int .i64 a1))], []⟩
  refine AW.seq ?_
  refine AW.region ?_
  refine s_assign (d := (sc (.slice none 0 0))) rfl ?_
  refine AWops.nil ?_
  refine AW.seq ?_
  refine AW.region ?_
  refine s_move (d := (D.one (C.p false (.sl a0.length (a0.flatMap e_u8))))) rfl ?_
  obtain ⟨r1, er1, h⟩ := Option.bind_eq_some_iff.mp h
  refine s_call (ρ := []) (br := false) (H2 := [(some (AObj.cells true (rowC e_u8 r1)))]) (d := (D.one (C.own 0 0 r1.length 1))) F.ca_38 rfl rfl (All2.cons (.one .imm) All2.nil) All2.nil (by decide) rfl (slices_Clone_byte_byte.meets _ a0 r1 er1) (.inl rfl) (by first | rfl | (simp only [mergeH, mergeAt, mergeObj, renO, ren_row, List.drop_succ_cons, List.drop_zero, List.map_cons, List.map_nil, Option.map_some, Option.map_none, List.length_cons, List.length_nil, Nat.zero_add, List.append_assoc, List.cons_append, List.nil_append]; done) | (simp only [mergeH, mergeAt, mergeObj, renO, ren_row, List.drop_succ_cons, List.drop_zero, List.map_cons, List.map_nil, Option.map_some, Option.map_none, List.length_cons, List.length_nil, Nat.zero_add, List.append_assoc, List.cons_append, List.nil_append]; rfl)) rfl ?_
  refine s_assign (d := (D.one (C.own 0 0 r1.length 1))) rfl ?_
  refine AWops.nil ?_
  refine AW.seq ?_
  refine AW.region ?_
  refine s_move (d := (sc (.int .i64 a1))) rfl ?_
  refine s_convI F.u_3 F.u_60 rfl ?_
  refine s_shift (v := (.int .u64 (IntKind.u64.wrap ((IntKind.u64.wrap a1) * 2 ^ 1)))) rfl rfl rfl ?_
  refine s_move (d := (sc (.int .i64 a1))) rfl ?_
  refine s_shift (v := (.int .i64 (Int.fdiv a1 (2 ^ 63)))) rfl rfl rfl ?_
  refine s_convI F.u_3 F.u_60 rfl ?_
  refine s_binI (v := (.int .u64 (Go.bits .xor .u64 (IntKind.u64.wrap ((IntKind.u64.wrap a1) * 2 ^ 1)) (IntKind.u64.wrap (Int.fdiv a1 (2 ^ 63)))))) rfl rfl rfl ?_
  refine s_assign (d := (sc (.int .u64 (Go.bits .xor .u64 (IntKind.u64.wrap ((IntKind.u64.wrap a1) * 2 ^ 1)) (IntKind.u64.wrap (Int.fdiv a1 (2 ^ 63))))))) rfl ?_
  refine AWops.nil ?_
  refine AW.seq ?_
  refine AW.block ?_
  refine AW.loopw (st0 := ⟨31, (upd 31 (upd 31 topF 5 (D.one (C.own 0 0 r1.length 1))) 6 (sc (.int .u64 (Go.bits .xor .u64 (IntKind.u64.wrap ((IntKind.u64.wrap a1) * 2 ^ 1)) (IntKind.u64.wrap (Int.fdiv a1 (2 ^ 63))))))), [(some (AObj.cells true (rowC e_u8 r1)))]⟩) (fun k st => k ≤ k ∧ ∃ (x2 : List Int) (x3 : Int), wire_Int.l0 k x2 x3 = some r ∧ st = ⟨31, (upd 31 (upd 31 topF 5 (D.one (C.own 0 0 x2.length 1))) 6 (sc (.int .u64 x3))), [(some (AObj.cells true (rowC e_u8 x2)))]⟩) (k := k) (Weak.gen (kk := 0) [0] [] hx rfl (by decide) (by decide) rfl rfl rfl (le_upd (le_upd (le_top _) (.t (.one (.own rfl)))) (.t (.one .sc))) (All2.cons (.cells (fun h => h) (all2_row _)) All2.nil)) ⟨Nat.le_refl _, r1, Go.bits .xor .u64 (IntKind.u64.wrap ((IntKind.u64.wrap a1) * 2 ^ 1)) (IntKind.u64.wrap (Int.fdiv a1 (2 ^ 63))), h, rfl⟩ ?_
  rintro ql0 st ⟨hkl0, x2, x3, h, rfl⟩
  cases ql0 with
  | zero => exact absurd h (by simp [wire_Int.l0])
  | succ ql0 =>
    replace h := (wire_Int.l0.eq_2 _ _ _).symm.trans h
    refine AW.seq ?_
    refine AW.seq ?_
    refine AW.region ?_
    refine s_move (d := (sc (.int .u64 x3))) rfl ?_
    refine s_binI (v := (.bool (decide (x3 ≥ 128)))) rfl rfl rfl ?_
    refine AWops.nil ?_
    by_cases c4 : (decide (x3 ≥ 128)) = true
    · replace h := (if_pos c4).symm.trans h
      refine AW.cond_yes rfl c4 ?_
      refine AW.skip ?_
      refine AW.seq ?_
      refine AW.block ?_
      refine AW.region ?_
      refine s_move (d := (D.one (C.own 0 0 x2.length 1))) rfl ?_
      refine s_move (d := (sc (.int .u64 x3))) rfl ?_
      refine s_convI F.u_60 F.u_5 rfl ?_
      refine s_binI (v := (.int .u8 (Go.bits .or .u8 (IntKind.u8.wrap x3) 128))) rfl rfl rfl ?_
      refine s_buildSlice (n := 1) (ps := [(0, (sc (.int .u8 (Go.bits .or .u8 (IntKind.u8.wrap x3) 128))))]) (cs := rowC e_u8 ([Go.bits .or .u8 (IntKind.u8.wrap x3) 128] : List Int)) F.u_22 F.sz_5 F.z_5 rfl rfl (by decide) (by decide) rfl rfl ?_
      by_cases c5 : (decide (x2.length + ([Go.bits .or .u8 (IntKind.u8.wrap x3) 128] : List Int).length ≤ 140737488355328)) = true
      · replace h := (if_pos c5).symm.trans h
        have dc5 := of_decide_eq_true c5
        refine t_append (xs := x2) (ys := ([Go.bits .or .u8 (IntKind.u8.wrap x3) 128] : List Int)) (zs := x2 ++ ([Go.bits .or .u8 (IntKind.u8.wrap x3) 128] : List Int)) (H' := [none, (some (AObj.cells true (rowC e_u8 ([Go.bits .or .u8 (IntKind.u8.wrap x3) 128] : List Int)))), (some (AObj.cells true (rowC e_u8 (x2 ++ ([Go.bits .or .u8 (IntKind.u8.wrap x3) 128] : List Int)))))]) F.u_22 F.in_5 rfl e_u8_len (.own rfl rfl) (.own rfl rfl) F.u_22 (by omega) (by omega) rfl rfl ?_
        refine s_assign (d := (D.one (C.own 2 0 ((x2 ++ ([Go.bits .or .u8 (IntKind.u8.wrap x3) 128] : List Int)).length) 1))) rfl ?_
        refine AWops.nil ?_
        refine AW.region ?_
        refine s_move (d := (sc (.int .u64 x3))) rfl ?_
        refine s_shift (v := (.int .u64 (Int.fdiv x3 (2 ^ 7)))) rfl rfl rfl ?_
        refine s_assign (d := (sc (.int .u64 (Int.fdiv x3 (2 ^ 7))))) rfl ?_
        refine AWops.nil ?_
        exact ⟨_, ⟨31, (upd 31 (upd 31 topF 5 (D.one (C.own 0 0 (x2 ++ ([Go.bits .or .u8 (IntKind.u8.wrap x3) 128] : List Int)).length 1))) 6 (sc (.int .u64 (Int.fdiv x3 (2 ^ 7))))), [(some (AObj.cells true (rowC e_u8 (x2 ++ ([Go.bits .or .u8 (IntKind.u8.wrap x3) 128] : List Int)))))]⟩, by omega, (Weak.gen (kk := 0) [2] [] hx rfl (by decide) (by decide) rfl rfl rfl (le_upd (le_upd (le_top _) (.t (.one (.own rfl)))) (.t (.one .sc))) (All2.cons (.cells (fun h => h) (all2_row _)) All2.nil)), by omega, x2 ++ ([Go.bits .or .u8 (IntKind.u8.wrap x3) 128] : List Int), Int.fdiv x3 (2 ^ 7), h, rfl⟩
      · replace h := (if_neg c5).symm.trans h
        cases h
    · replace h := (if_neg c4).symm.trans h
      replace c4 := Bool.eq_false_iff.mpr c4
      refine AW.cond_no rfl c4 ?_
      refine AW.exit ?_
      refine AW.seq ?_
      refine AW.region ?_
      refine s_move (d := (D.one (C.own 0 0 x2.length 1))) rfl ?_
      refine s_move (d := (sc (.int .u64 x3))) rfl ?_
      refine s_convI F.u_60 F.u_5 rfl ?_
      refine s_buildSlice (n := 1) (ps := [(0, (sc (.int .u8 (IntKind.u8.wrap x3))))]) (cs := rowC e_u8 ([IntKind.u8.wrap x3] : List Int)) F.u_22 F.sz_5 F.z_5 rfl rfl (by decide) (by decide) rfl rfl ?_
      by_cases c6 : (decide (x2.length + ([IntKind.u8.wrap x3] : List Int).length ≤ 140737488355328)) = true
      · replace h := (if_pos c6).symm.trans h
        have dc6 := of_decide_eq_true c6
        refine t_append (xs := x2) (ys := ([IntKind.u8.wrap x3] : List Int)) (zs := x2 ++ ([IntKind.u8.wrap x3] : List Int)) (H' := [none, (some (AObj.cells true (rowC e_u8 ([IntKind.u8.wrap x3] : List Int)))), (some (AObj.cells true (rowC e_u8 (x2 ++ ([IntKind.u8.wrap x3] : List Int)))))]) F.u_22 F.in_5 rfl e_u8_len (.own rfl rfl) (.own rfl rfl) F.u_22 (by omega) (by omega) rfl rfl ?_
        refine s_assign (d := (D.one (C.own 2 0 ((x2 ++ ([IntKind.u8.wrap x3] : List Int)).length) 1))) rfl ?_
        refine AWops.nil ?_
        refine AW.ret ?_
        obtain rfl := Option.some.inj h
        exact ⟨_, rfl, (Weak.gen (kk := 0) [2] [] rfl rfl (by decide) (by decide) rfl rfl rfl (le_upd (le_top _) (.t (.one (.own rfl)))) (All2.cons (.cells (fun h => h) (all2_row _)) All2.nil))⟩
      · replace h := (if_neg c6).symm.trans h
        cases h
mutual
def dossierref02_Int.l1 : Nat → (List Int) → Int → Option (List Int)
  | 0, _, _ => none
  | k + 1, x3, x4 => if (decide (x4 ≥ 128)) = true then (if (decide (x3.length + ([IntKind.u8.wrap ((IntKind.u8.wrap (Int.tmod x4 128)) + 128)] : List Int).length ≤ 140737488355328)) = true then (dossierref02_Int.l1 k (x3 ++ ([IntKind.u8.wrap ((IntKind.u8.wrap (Int.tmod x4 128)) + 128)] : List Int)) (IntKind.u64.wrap (Int.tdiv x4 128))) else none) else (if (decide (x3.length + ([IntKind.u8.wrap x4] : List Int).length ≤ 140737488355328)) = true then (some (x3 ++ ([IntKind.u8.wrap x4] : List Int))) else none)
def dossierref02_Int.j0 : Nat → Int → (List Int) → Option (List Int)
  | 0, _, _ => none
  | k + 1, x1, a0 => if (decide (([] : List Int).length + a0.length ≤ 140737488355328)) = true then (dossierref02_Int.l1 k a0 x1) else none
end
def dossierref02_Int.f (k : Nat) (a0 : List Int) (a1 : Int) : Option (List Int) := if (decide (a1 < 0)) = true then (dossierref02_Int.j0 k (IntKind.u64.wrap ((IntKind.u64.wrap ((IntKind.u64.wrap (IntKind.i64.wrap (0 - (IntKind.i64.wrap (a1 + 1))))) * 2)) + 1)) a0) else (dossierref02_Int.j0 k (IntKind.u64.wrap ((IntKind.u64.wrap a1) * 2)) a0)
theorem dossierref02_Int.meets (k : Nat) (a0 : List Int) (a1 : Int) (r : (List Int)) (h : dossierref02_Int.f k a0 a1 = some r) : Meets Try.prog 12 [(D.one (C.p false (.sl a0.length (a0.flatMap e_u8)))), (sc (.int .i64 a1))] [] (D.one (C.own 0 0 r.length 1)) [(some (AObj.cells true (rowC e_u8 r)))] := by
  unfold dossierref02_Int.f at h
  refine Meets.of_body (n := 37) Try.func12 rfl rfl (Nat.le_of_ble_eq_true rfl) fun x hx => ?_
  replace hx : x.k = 0 := hx
  show AW _ x _ _ ⟨37, fr0 [(D.one (C.p false (.sl a0.length (a0.flatMap e_u8)))), (sc (.int .i64 a1))], []⟩
  refine AW.seq ?_
  refine AW.region ?_
  refine s_assign (d := (sc (.slice none 0 0))) rfl ?_
  refine AWops.nil ?_
  refine AW.seq ?_
  refine AW.region ?_
  refine s_move (d := (sc (.int .i64 a1))) rfl ?_
  refine s_convI F.u_3 F.u_60 rfl ?_
  refine s_binI (v := (.int .u64 (IntKind.u64.wrap ((IntKind.u64.wrap a1) * 2)))) rfl rfl rfl ?_
  refine s_assign (d := (sc (.int .u64 (IntKind.u64.wrap ((IntKind.u64.wrap a1) * 2))))) rfl ?_
  refine AWops.nil ?_
  refine AW.seqJ (fun st => ∃ (x1 : Int), dossierref02_Int.j0 k x1 a0 = some r ∧ st = ⟨37, (upd 37 (upd 37 topF 0 (D.one (C.p false (.sl a0.length (a0.flatMap e_u8))))) 5 (sc (.int .u64 x1))), []⟩) ?_ ?_
  · refine AW.seq ?_
    refine AW.region ?_
    refine s_move (d := (sc (.int .i64 a1))) rfl ?_
    refine s_binI (v := (.bool (decide (a1 < 0)))) rfl rfl rfl ?_
    refine AWops.nil ?_
    by_cases c8 : (decide (a1 < 0)) = true
    · replace h := (if_pos c8).symm.trans h
      refine AW.cond_yes rfl c8 ?_
      refine AW.region ?_
      refine s_move (d := (sc (.int .i64 a1))) rfl ?_
      refine s_binI (v := (.int .i64 (IntKind.i64.wrap (a1 + 1)))) rfl rfl rfl ?_
      refine s_unI (v := (.int .i64 (IntKind.i64.wrap (0 - (IntKind.i64.wrap (a1 + 1)))))) rfl rfl ?_
      refine s_convI F.u_3 F.u_60 rfl ?_
      refine s_binI (v := (.int .u64 (IntKind.u64.wrap ((IntKind.u64.wrap (IntKind.i64.wrap (0 - (IntKind.i64.wrap (a1 + 1))))) * 2)))) rfl rfl rfl ?_
      refine s_binI (v := (.int .u64 (IntKind.u64.wrap ((IntKind.u64.wrap ((IntKind.u64.wrap (IntKind.i64.wrap (0 - (IntKind.i64.wrap (a1 + 1))))) * 2)) + 1)))) rfl rfl rfl ?_
      refine s_assign (d := (sc (.int .u64 (IntKind.u64.wrap ((IntKind.u64.wrap ((IntKind.u64.wrap (IntKind.i64.wrap (0 - (IntKind.i64.wrap (a1 + 1))))) * 2)) + 1))))) rfl ?_
      refine AWops.nil ?_
      exact ⟨⟨37, (upd 37 (upd 37 topF 0 (D.one (C.p false (.sl a0.length (a0.flatMap e_u8))))) 5 (sc (.int .u64 (IntKind.u64.wrap ((IntKind.u64.wrap ((IntKind.u64.wrap (IntKind.i64.wrap (0 - (IntKind.i64.wrap (a1 + 1))))) * 2)) + 1))))), []⟩, (Weak.gen (kk := 0) [] [] hx rfl (by decide) (by decide) rfl rfl rfl (le_upd (le_upd (le_top _) (.t (.one .same))) (.t (.one .sc))) All2.nil), IntKind.u64.wrap ((IntKind.u64.wrap ((IntKind.u64.wrap (IntKind.i64.wrap (0 - (IntKind.i64.wrap (a1 + 1))))) * 2)) + 1), h, rfl⟩
    · replace h := (if_neg c8).symm.trans h
      replace c8 := Bool.eq_false_iff.mpr c8
      refine AW.cond_no rfl c8 ?_
      refine AW.skip ?_
      exact ⟨⟨37, (upd 37 (upd 37 topF 0 (D.one (C.p false (.sl a0.length (a0.flatMap e_u8))))) 5 (sc (.int .u64 (IntKind.u64.wrap ((IntKind.u64.wrap a1) * 2))))), []⟩, (Weak.gen (kk := 0) [] [] hx rfl (by decide) (by decide) rfl rfl rfl (le_upd (le_upd (le_top _) (.t (.one .same))) (.t (.one .sc))) All2.nil), IntKind.u64.wrap ((IntKind.u64.wrap a1) * 2), h, rfl⟩
  · rintro st ⟨x1, h, rfl⟩
    cases k with
    | zero => exact absurd h (by simp [dossierref02_Int.j0])
    | succ qj0 =>
      replace h := (dossierref02_Int.j0.eq_2 _ _ _).symm.trans h
      refine AW.seq ?_
      refine AW.region ?_
      refine s_buildSlice (n := 0) (ps := []) (cs := rowC e_u8 ([] : List Int)) F.u_22 F.sz_5 F.z_5 rfl rfl (by decide) (by decide) rfl rfl ?_
      refine s_move (d := (D.one (C.p false (.sl a0.length (a0.flatMap e_u8))))) rfl ?_
      by_cases c2 : (decide (([] : List Int).length + a0.length ≤ 140737488355328)) = true
      · replace h := (if_pos c2).symm.trans h
        have dc2 := of_decide_eq_true c2
        refine t_append (xs := ([] : List Int)) (ys := a0) (zs := a0) (H' := [none, (some (AObj.cells true (rowC e_u8 a0)))]) F.u_22 F.in_5 rfl e_u8_len (.own rfl rfl) .imm F.u_22 (by omega) (by omega) rfl rfl ?_
        refine s_assign (d := (D.one (C.own 1 0 a0.length 1))) rfl ?_
        refine AWops.nil ?_
        refine AW.seq ?_
        refine AW.block ?_
        refine AW.loopw (st0 := ⟨37, (upd 37 (upd 37 topF 5 (sc (.int .u64 x1))) 6 (D.one (C.own 0 0 a0.length 1))), [(some (AObj.cells true (rowC e_u8 a0)))]⟩) (fun k st => k ≤ qj0 ∧ ∃ (x3 : List Int) (x4 : Int), dossierref02_Int.l1 k x3 x4 = some r ∧ st = ⟨37, (upd 37 (upd 37 topF 5 (sc (.int .u64 x4))) 6 (D.one (C.own 0 0 x3.length 1))), [(some (AObj.cells true (rowC e_u8 x3)))]⟩) (k := qj0) (Weak.gen (kk := 0) [1] [] hx rfl (by decide) (by decide) rfl rfl rfl (le_upd (le_upd (le_top _) (.t (.one .sc))) (.t (.one (.own rfl)))) (All2.cons (.cells (fun h => h) (all2_row _)) All2.nil)) ⟨Nat.le_refl _, a0, x1, h, rfl⟩ ?_
        rintro ql1 st ⟨hkl1, x3, x4, h, rfl⟩
        cases ql1 with
        | zero => exact absurd h (by simp [dossierref02_Int.l1])
        | succ ql1 =>
          replace h := (dossierref02_Int.l1.eq_2 _ _ _).symm.trans h
          refine AW.seq ?_
          refine AW.seq ?_
          refine AW.region ?_
          refine s_move (d := (sc (.int .u64 x4))) rfl ?_
          refine s_binI (v := (.bool (decide (x4 ≥ 128)))) rfl rfl rfl ?_
          refine AWops.nil ?_
          by_cases c5 : (decide (x4 ≥ 128)) = true
          · replace h := (if_pos c5).symm.trans h
            refine AW.cond_yes rfl c5 ?_
            refine AW.skip ?_
            refine AW.block ?_
            refine AW.seq ?_
            refine AW.region ?_
            refine s_move (d := (D.one (C.own 0 0 x3.length 1))) rfl ?_
            refine s_move (d := (sc (.int .u64 x4))) rfl ?_
            refine s_binI (v := (.int .u64 (Int.tmod x4 128))) rfl rfl rfl ?_
            refine s_convI F.u_60 F.u_5 rfl ?_
            refine s_binI (v := (.int .u8 (IntKind.u8.wrap ((IntKind.u8.wrap (Int.tmod x4 128)) + 128)))) rfl rfl rfl ?_
            refine s_buildSlice (n := 1) (ps := [(0, (sc (.int .u8 (IntKind.u8.wrap ((IntKind.u8.wrap (Int.tmod x4 128)) + 128)))))]) (cs := rowC e_u8 ([IntKind.u8.wrap ((IntKind.u8.wrap (Int.tmod x4 128)) + 128)] : List Int)) F.u_22 F.sz_5 F.z_5 rfl rfl (by decide) (by decide) rfl rfl ?_
            by_cases c6 : (decide (x3.length + ([IntKind.u8.wrap ((IntKind.u8.wrap (Int.tmod x4 128)) + 128)] : List Int).length ≤ 140737488355328)) = true
            · replace h := (if_pos c6).symm.trans h
              have dc6 := of_decide_eq_true c6
              refine t_append (xs := x3) (ys := ([IntKind.u8.wrap ((IntKind.u8.wrap (Int.tmod x4 128)) + 128)] : List Int)) (zs := x3 ++ ([IntKind.u8.wrap ((IntKind.u8.wrap (Int.tmod x4 128)) + 128)] : List Int)) (H' := [none, (some (AObj.cells true (rowC e_u8 ([IntKind.u8.wrap ((IntKind.u8.wrap (Int.tmod x4 128)) + 128)] : List Int)))), (some (AObj.cells true (rowC e_u8 (x3 ++ ([IntKind.u8.wrap ((IntKind.u8.wrap (Int.tmod x4 128)) + 128)] : List Int)))))]) F.u_22 F.in_5 rfl e_u8_len (.own rfl rfl) (.own rfl rfl) F.u_22 (by omega) (by omega) rfl rfl ?_
              refine s_assign (d := (D.one (C.own 2 0 ((x3 ++ ([IntKind.u8.wrap ((IntKind.u8.wrap (Int.tmod x4 128)) + 128)] : List Int)).length) 1))) rfl ?_
              refine AWops.nil ?_
              refine AW.region ?_
              refine s_move (d := (sc (.int .u64 x4))) rfl ?_
              refine s_binI (v := (.int .u64 (IntKind.u64.wrap (Int.tdiv x4 128)))) rfl rfl rfl ?_
              refine s_assign (d := (sc (.int .u64 (IntKind.u64.wrap (Int.tdiv x4 128))))) rfl ?_
              refine AWops.nil ?_
              exact ⟨_, ⟨37, (upd 37 (upd 37 topF 5 (sc (.int .u64 (IntKind.u64.wrap (Int.tdiv x4 128))))) 6 (D.one (C.own 0 0 (x3 ++ ([IntKind.u8.wrap ((IntKind.u8.wrap (Int.tmod x4 128)) + 128)] : List Int)).length 1))), [(some (AObj.cells true (rowC e_u8 (x3 ++ ([IntKind.u8.wrap ((IntKind.u8.wrap (Int.tmod x4 128)) + 128)] : List Int)))))]⟩, by omega, (Weak.gen (kk := 0) [2] [] hx rfl (by decide) (by decide) rfl rfl rfl (le_upd (le_upd (le_top _) (.t (.one .sc))) (.t (.one (.own rfl)))) (All2.cons (.cells (fun h => h) (all2_row _)) All2.nil)), by omega, x3 ++ ([IntKind.u8.wrap ((IntKind.u8.wrap (Int.tmod x4 128)) + 128)] : List Int), IntKind.u64.wrap (Int.tdiv x4 128), h, rfl⟩
            · replace h := (if_neg c6).symm.trans h
              cases h
          · replace h := (if_neg c5).symm.trans h
            replace c5 := Bool.eq_false_iff.mpr c5
            refine AW.cond_no rfl c5 ?_
            refine AW.exit ?_
            refine AW.seq ?_
            refine AW.region ?_
            refine s_move (d := (D.one (C.own 0 0 x3.length 1))) rfl ?_
            refine s_move (d := (sc (.int .u64 x4))) rfl ?_
            refine s_convI F.u_60 F.u_5 rfl ?_
            refine s_buildSlice (n := 1) (ps := [(0, (sc (.int .u8 (IntKind.u8.wrap x4))))]) (cs := rowC e_u8 ([IntKind.u8.wrap x4] : List Int)) F.u_22 F.sz_5 F.z_5 rfl rfl (by decide) (by decide) rfl rfl ?_
            by_cases c7 : (decide (x3.length + ([IntKind.u8.wrap x4] : List Int).length ≤ 140737488355328)) = true
            · replace h := (if_pos c7).symm.trans h
              have dc7 := of_decide_eq_true c7
              refine t_append (xs := x3) (ys := ([IntKind.u8.wrap x4] : List Int)) (zs := x3 ++ ([IntKind.u8.wrap x4] : List Int)) (H' := [none, (some (AObj.cells true (rowC e_u8 ([IntKind.u8.wrap x4] : List Int)))), (some (AObj.cells true (rowC e_u8 (x3 ++ ([IntKind.u8.wrap x4] : List Int)))))]) F.u_22 F.in_5 rfl e_u8_len (.own rfl rfl) (.own rfl rfl) F.u_22 (by omega) (by omega) rfl rfl ?_
              refine s_assign (d := (D.one (C.own 2 0 ((x3 ++ ([IntKind.u8.wrap x4] : List Int)).length) 1))) rfl ?_
              refine AWops.nil ?_
              refine AW.ret ?_
              obtain rfl := Option.some.inj h
              exact ⟨_, rfl, (Weak.gen (kk := 0) [2] [] rfl rfl (by decide) (by decide) rfl rfl rfl (le_upd (le_top _) (.t (.one (.own rfl)))) (All2.cons (.cells (fun h => h) (all2_row _)) All2.nil))⟩
            · replace h := (if_neg c7).symm.trans h
              cases h
      · replace h := (if_neg c2).symm.trans h
        cases h
def bytes_Equal.f (k : Nat) (a0 : List Int) (a1 : List Int) : Option Bool := some ((ofNums a0).toList == (ofNums a1).toList)
theorem bytes_Equal.meets (k : Nat) (a0 : List Int) (a1 : List Int) (r : Bool) (h : bytes_Equal.f k a0 a1 = some r) : Meets Try.prog 10 [(D.one (C.p false (.sl a0.length (a0.flatMap e_u8)))), (D.one (C.p false (.sl a1.length (a1.flatMap e_u8))))] [] (sc (.bool r)) [] := by
  unfold bytes_Equal.f at h
  refine Meets.of_body (n := 10) Try.func10 rfl rfl (Nat.le_of_ble_eq_true rfl) fun x hx => ?_
  replace hx : x.k = 0 := hx
  show AW _ x _ _ ⟨10, fr0 [(D.one (C.p false (.sl a0.length (a0.flatMap e_u8)))), (D.one (C.p false (.sl a1.length (a1.flatMap e_u8))))], []⟩
  refine AW.seq ?_
  refine AW.region ?_
  refine s_assign (d := (sc (.bool false))) rfl ?_
  refine AWops.nil ?_
  refine AW.seq ?_
  refine AW.region ?_
  refine s_move (d := (D.one (C.p false (.sl a0.length (a0.flatMap e_u8))))) rfl ?_
  refine t_toStr (xs := a0) F.u_22 F.u_5 F.u_9 .imm ?_
  refine s_move (d := (D.one (C.p false (.sl a1.length (a1.flatMap e_u8))))) rfl ?_
  refine t_toStr (xs := a1) F.u_22 F.u_5 F.u_9 .imm ?_
  refine s_binS (v := (.bool ((ofNums a0).toList == (ofNums a1).toList))) rfl rfl rfl ?_
  refine s_assign (d := (sc (.bool ((ofNums a0).toList == (ofNums a1).toList)))) rfl ?_
  refine AWops.nil ?_
  refine AW.ret ?_
  obtain rfl := Option.some.inj h
  exact ⟨_, rfl, (Weak.gen (kk := 0) [] [] rfl rfl (by decide) (by decide) rfl rfl rfl (le_upd (le_top _) (.t (.one .sc))) All2.nil)⟩
def wire_Text.f (k : Nat) (a0 : List Int) (a1 : ByteArray) : Option (List Int) := (wire_Int.f k a0 (a1.size : Int)).bind fun r1 => if (decide (r1.length + a1.size ≤ 140737488355328)) = true then (some (r1 ++ bytesI a1)) else none
theorem wire_Text.meets (k : Nat) (a0 : List Int) (a1 : ByteArray) (r : (List Int)) (h : wire_Text.f k a0 a1 = some r) : Meets Try.prog 13 [(D.one (C.p false (.sl a0.length (a0.flatMap e_u8)))), (sc (.string a1))] [] (D.one (C.own 0 0 r.length 1)) [(some (AObj.cells true (rowC e_u8 r)))] := by
  unfold wire_Text.f at h
  refine Meets.of_body (n := 11) Try.func13 rfl rfl (Nat.le_of_ble_eq_true rfl) fun x hx => ?_
  replace hx : x.k = 0 := hx
  show AW _ x _ _ ⟨11, fr0 [(D.one (C.p false (.sl a0.length (a0.flatMap e_u8)))), (sc (.string a1))], []⟩
  refine AW.seq ?_
  refine AW.region ?_
  refine s_assign (d := (sc (.slice none 0 0))) rfl ?_
  refine AWops.nil ?_
  refine AW.seq ?_
  refine AW.region ?_
  refine s_move (d := (D.one (C.p false (.sl a0.length (a0.flatMap e_u8))))) rfl ?_
  refine s_move (d := (sc (.string a1))) rfl ?_
  refine s_len (n := a1.size) F.u_9 rfl (.inl ⟨⟨_, _, rfl⟩, rfl⟩) ?_
  obtain ⟨r1, er1, h⟩ := Option.bind_eq_some_iff.mp h
  refine s_call (ρ := []) (br := false) (H2 := [(some (AObj.cells true (rowC e_u8 r1)))]) (d := (D.one (C.own 0 0 r1.length 1))) F.ca_11 rfl rfl (All2.cons (.one .imm) (All2.cons (.one .sc) All2.nil)) All2.nil (by decide) rfl (wire_Int.meets _ a0 (a1.size : Int) r1 er1) (.inl rfl) (by first | rfl | (simp only [mergeH, mergeAt, mergeObj, renO, ren_row, List.drop_succ_cons, List.drop_zero, List.map_cons, List.map_nil, Option.map_some, Option.map_none, List.length_cons, List.length_nil, Nat.zero_add, List.append_assoc, List.cons_append, List.nil_append]; done) | (simp only [mergeH, mergeAt, mergeObj, renO, ren_row, List.drop_succ_cons, List.drop_zero, List.map_cons, List.map_nil, Option.map_some, Option.map_none, List.length_cons, List.length_nil, Nat.zero_add, List.append_assoc, List.cons_append, List.nil_append]; rfl)) rfl ?_
  refine s_move (d := (sc (.string a1))) rfl ?_
  by_cases c2 : (decide (r1.length + a1.size ≤ 140737488355328)) = true
  · replace h := (if_pos c2).symm.trans h
    have dc2 := of_decide_eq_true c2
    refine t_appendStr (xs := r1) (zs := r1 ++ bytesI a1) (H' := [none, (some (AObj.cells true (rowC e_u8 (r1 ++ bytesI a1))))]) F.u_22 F.in_5 rfl (.own rfl rfl) rfl F.u_9 (by omega) (by omega) rfl rfl ?_
    refine s_assign (d := (D.one (C.own 1 0 ((r1 ++ bytesI a1).length) 1))) rfl ?_
    refine AWops.nil ?_
    refine AW.ret ?_
    obtain rfl := Option.some.inj h
    exact ⟨_, rfl, (Weak.gen (kk := 0) [1] [] rfl rfl (by decide) (by decide) rfl rfl rfl (le_upd (le_top _) (.t (.one (.own rfl)))) (All2.cons (.cells (fun h => h) (all2_row _)) All2.nil))⟩
  · replace h := (if_neg c2).symm.trans h
    cases h
def dossierref02_Text.f (k : Nat) (a0 : List Int) (a1 : ByteArray) : Option (List Int) := (dossierref02_Int.f k a0 (a1.size : Int)).bind fun r1 => if (decide (r1.length + a1.size ≤ 140737488355328)) = true then (some (r1 ++ bytesI a1)) else none
theorem dossierref02_Text.meets (k : Nat) (a0 : List Int) (a1 : ByteArray) (r : (List Int)) (h : dossierref02_Text.f k a0 a1 = some r) : Meets Try.prog 14 [(D.one (C.p false (.sl a0.length (a0.flatMap e_u8)))), (sc (.string a1))] [] (D.one (C.own 0 0 r.length 1)) [(some (AObj.cells true (rowC e_u8 r)))] := by
  unfold dossierref02_Text.f at h
  refine Meets.of_body (n := 11) Try.func14 rfl rfl (Nat.le_of_ble_eq_true rfl) fun x hx => ?_
  replace hx : x.k = 0 := hx
  show AW _ x _ _ ⟨11, fr0 [(D.one (C.p false (.sl a0.length (a0.flatMap e_u8)))), (sc (.string a1))], []⟩
  refine AW.seq ?_
  refine AW.region ?_
  refine s_assign (d := (sc (.slice none 0 0))) rfl ?_
  refine AWops.nil ?_
  refine AW.seq ?_
  refine AW.region ?_
  refine s_move (d := (D.one (C.p false (.sl a0.length (a0.flatMap e_u8))))) rfl ?_
  refine s_move (d := (sc (.string a1))) rfl ?_
  refine s_len (n := a1.size) F.u_9 rfl (.inl ⟨⟨_, _, rfl⟩, rfl⟩) ?_
  obtain ⟨r1, er1, h⟩ := Option.bind_eq_some_iff.mp h
  refine s_call (ρ := []) (br := false) (H2 := [(some (AObj.cells true (rowC e_u8 r1)))]) (d := (D.one (C.own 0 0 r1.length 1))) F.ca_12 rfl rfl (All2.cons (.one .imm) (All2.cons (.one .sc) All2.nil)) All2.nil (by decide) rfl (dossierref02_Int.meets _ a0 (a1.size : Int) r1 er1) (.inl rfl) (by first | rfl | (simp only [mergeH, mergeAt, mergeObj, renO, ren_row, List.drop_succ_cons, List.drop_zero, List.map_cons, List.map_nil, Option.map_some, Option.map_none, List.length_cons, List.length_nil, Nat.zero_add, List.append_assoc, List.cons_append, List.nil_append]; done) | (simp only [mergeH, mergeAt, mergeObj, renO, ren_row, List.drop_succ_cons, List.drop_zero, List.map_cons, List.map_nil, Option.map_some, Option.map_none, List.length_cons, List.length_nil, Nat.zero_add, List.append_assoc, List.cons_append, List.nil_append]; rfl)) rfl ?_
  refine s_move (d := (sc (.string a1))) rfl ?_
  by_cases c2 : (decide (r1.length + a1.size ≤ 140737488355328)) = true
  · replace h := (if_pos c2).symm.trans h
    have dc2 := of_decide_eq_true c2
    refine t_appendStr (xs := r1) (zs := r1 ++ bytesI a1) (H' := [none, (some (AObj.cells true (rowC e_u8 (r1 ++ bytesI a1))))]) F.u_22 F.in_5 rfl (.own rfl rfl) rfl F.u_9 (by omega) (by omega) rfl rfl ?_
    refine s_assign (d := (D.one (C.own 1 0 ((r1 ++ bytesI a1).length) 1))) rfl ?_
    refine AWops.nil ?_
    refine AW.ret ?_
    obtain rfl := Option.some.inj h
    exact ⟨_, rfl, (Weak.gen (kk := 0) [1] [] rfl rfl (by decide) (by decide) rfl rfl rfl (le_upd (le_top _) (.t (.one (.own rfl)))) (All2.cons (.cells (fun h => h) (all2_row _)) All2.nil))⟩
  · replace h := (if_neg c2).symm.trans h
    cases h
def wire_Flag.f (k : Nat) (a0 : List Int) (a1 : Bool) : Option (List Int) := (slices_Clone_byte_byte.f k a0).bind fun r1 => if (decide (r1.length + ([0] : List Int).length ≤ 140737488355328)) = true then (if a1 = true then ((rd (r1 ++ ([0] : List Int)) (IntKind.i64.wrap (((r1 ++ ([0] : List Int)).length : Int) - 1))).bind fun v4 => some ((r1 ++ ([0] : List Int)).set (IntKind.i64.wrap (((r1 ++ ([0] : List Int)).length : Int) - 1)).toNat 1)) else (some (r1 ++ ([0] : List Int)))) else none
theorem wire_Flag.meets (k : Nat) (a0 : List Int) (a1 : Bool) (r : (List Int)) (h : wire_Flag.f k a0 a1 = some r) : Meets Try.prog 15 [(D.one (C.p false (.sl a0.length (a0.flatMap e_u8)))), (sc (.bool a1))] [] (D.one (C.own 0 0 r.length 1)) [(some (AObj.cells true (rowC e_u8 r)))] := by
  unfold wire_Flag.f at h
  refine Meets.of_body (n := 17) Try.func15 rfl rfl (Nat.le_of_ble_eq_true rfl) fun x hx => ?_
  replace hx : x.k = 0 := hx
  show AW _ x _ _ ⟨17, fr0 [(D.one (C.p false (.sl a0.length (a0.flatMap e_u8)))), (sc (.bool a1))], []⟩
  refine AW.seq ?_
  refine AW.region ?_
  refine s_assign (d := (sc (.slice none 0 0))) rfl ?_
  refine AWops.nil ?_
  refine AW.seq ?_
  refine AW.region ?_
  refine s_move (d := (D.one (C.p false (.sl a0.length (a0.flatMap e_u8))))) rfl ?_
  obtain ⟨r1, er1, h⟩ := Option.bind_eq_some_iff.mp h
  refine s_call (ρ := []) (br := false) (H2 := [(some (AObj.cells true (rowC e_u8 r1)))]) (d := (D.one (C.own 0 0 r1.length 1))) F.ca_38 rfl rfl (All2.cons (.one .imm) All2.nil) All2.nil (by decide) rfl (slices_Clone_byte_byte.meets _ a0 r1 er1) (.inl rfl) (by first | rfl | (simp only [mergeH, mergeAt, mergeObj, renO, ren_row, List.drop_succ_cons, List.drop_zero, List.map_cons, List.map_nil, Option.map_some, Option.map_none, List.length_cons, List.length_nil, Nat.zero_add, List.append_assoc, List.cons_append, List.nil_append]; done) | (simp only [mergeH, mergeAt, mergeObj, renO, ren_row, List.drop_succ_cons, List.drop_zero, List.map_cons, List.map_nil, Option.map_some, Option.map_none, List.length_cons, List.length_nil, Nat.zero_add, List.append_assoc, List.cons_append, List.nil_append]; rfl)) rfl ?_
  refine s_buildSlice (n := 1) (ps := [(0, (sc (.int .u8 0)))]) (cs := rowC e_u8 ([0] : List Int)) F.u_22 F.sz_5 F.z_5 rfl rfl (by decide) (by decide) rfl rfl ?_
  by_cases c2 : (decide (r1.length + ([0] : List Int).length ≤ 140737488355328)) = true
  · replace h := (if_pos c2).symm.trans h
    have dc2 := of_decide_eq_true c2
    refine t_append (xs := r1) (ys := ([0] : List Int)) (zs := r1 ++ ([0] : List Int)) (H' := [none, (some (AObj.cells true (rowC e_u8 ([0] : List Int)))), (some (AObj.cells true (rowC e_u8 (r1 ++ ([0] : List Int)))))]) F.u_22 F.in_5 rfl e_u8_len (.own rfl rfl) (.own rfl rfl) F.u_22 (by omega) (by omega) rfl rfl ?_
    refine s_assign (d := (D.one (C.own 2 0 ((r1 ++ ([0] : List Int)).length) 1))) rfl ?_
    refine AWops.nil ?_
    refine AW.seq ?_
    refine AW.seq ?_
    refine AW.region ?_
    refine s_move (d := (sc (.bool a1))) rfl ?_
    refine AWops.nil ?_
    by_cases c3 : a1 = true
    · replace h := (if_pos c3).symm.trans h
      refine AW.cond_yes rfl c3 ?_
      refine AW.region ?_
      refine s_move (d := (D.one (C.own 2 0 ((r1 ++ ([0] : List Int)).length) 1))) rfl ?_
      refine s_move (d := (D.one (C.own 2 0 ((r1 ++ ([0] : List Int)).length) 1))) rfl ?_
      refine s_len (n := (r1 ++ ([0] : List Int)).length) F.u_22 rfl (.inr ⟨(fun _ _ h => by cases h), ⟨_, rfl⟩⟩) ?_
      refine s_binI (v := (.int .i64 (IntKind.i64.wrap (((r1 ++ ([0] : List Int)).length : Int) - 1)))) rfl rfl rfl ?_
      obtain ⟨v4, ev4, h⟩ := Option.bind_eq_some_iff.mp h
      obtain ⟨pv4, qv4, gv4⟩ := rd_some ev4
      refine s_indexOwn (d := (D.one (C.ref 2 (0 + (IntKind.i64.wrap (((r1 ++ ([0] : List Int)).length : Int) - 1)).toNat * 1)))) F.u_22 F.sz_5 rfl rfl pv4 qv4 rfl ?_
      refine s_store (cs' := rowC e_u8 ((r1 ++ ([0] : List Int)).set (IntKind.i64.wrap (((r1 ++ ([0] : List Int)).length : Int) - 1)).toNat 1)) rfl rfl rfl (List.cons_ne_nil _ _) rfl F.sz_5 ?_ (row_set (f := e_u8) (sz := 1) (o := 0) (ds := [P.v (.int .u8 1)]) e_u8_len gv4 rfl (by decide) rfl) ?_
      · rw [row_len e_u8_len]; have := (List.getElem?_eq_some_iff.mp gv4).1; show _ + 1 ≤ _; omega
      refine AWops.nil ?_
      refine AW.seq ?_
      refine AW.region ?_
      refine s_move (d := (D.one (C.own 2 0 ((r1 ++ ([0] : List Int)).length) 1))) rfl ?_
      refine s_assign (d := (D.one (C.own 2 0 ((r1 ++ ([0] : List Int)).length) 1))) rfl ?_
      refine AWops.nil ?_
      refine AW.ret ?_
      obtain rfl := Option.some.inj h
      exact ⟨_, rfl, (Weak.gen (kk := 0) [2] [] rfl rfl (by decide) (by decide) rfl rfl rfl (le_upd (le_top _) (.t (.one (CLe.ownN rfl (by simp))))) (All2.cons (.cells (fun h => h) (all2_row _)) All2.nil))⟩
    · replace h := (if_neg c3).symm.trans h
      replace c3 := Bool.eq_false_iff.mpr c3
      refine AW.cond_no rfl c3 ?_
      refine AW.skip ?_
      refine AW.seq ?_
      refine AW.region ?_
      refine s_move (d := (D.one (C.own 2 0 ((r1 ++ ([0] : List Int)).length) 1))) rfl ?_
      refine s_assign (d := (D.one (C.own 2 0 ((r1 ++ ([0] : List Int)).length) 1))) rfl ?_
      refine AWops.nil ?_
      refine AW.ret ?_
      obtain rfl := Option.some.inj h
      exact ⟨_, rfl, (Weak.gen (kk := 0) [2] [] rfl rfl (by decide) (by decide) rfl rfl rfl (le_upd (le_top _) (.t (.one (.own rfl)))) (All2.cons (.cells (fun h => h) (all2_row _)) All2.nil))⟩
  · replace h := (if_neg c2).symm.trans h
    cases h
def dossierref02_Flag.f (k : Nat) (a0 : List Int) (a1 : Bool) : Option (List Int) := if a1 = true then (if (decide (([] : List Int).length + a0.length ≤ 140737488355328)) = true then (if (decide (a0.length + ([1] : List Int).length ≤ 140737488355328)) = true then (some (a0 ++ ([1] : List Int))) else none) else none) else (if (decide (([] : List Int).length + a0.length ≤ 140737488355328)) = true then (if (decide (a0.length + ([0] : List Int).length ≤ 140737488355328)) = true then (some (a0 ++ ([0] : List Int))) else none) else none)
theorem dossierref02_Flag.meets (k : Nat) (a0 : List Int) (a1 : Bool) (r : (List Int)) (h : dossierref02_Flag.f k a0 a1 = some r) : Meets Try.prog 16 [(D.one (C.p false (.sl a0.length (a0.flatMap e_u8)))), (sc (.bool a1))] [] (D.one (C.own 0 0 r.length 1)) [(some (AObj.cells true (rowC e_u8 r)))] := by
  unfold dossierref02_Flag.f at h
  refine Meets.of_body (n := 13) Try.func16 rfl rfl (Nat.le_of_ble_eq_true rfl) fun x hx => ?_
  replace hx : x.k = 0 := hx
  show AW _ x _ _ ⟨13, fr0 [(D.one (C.p false (.sl a0.length (a0.flatMap e_u8)))), (sc (.bool a1))], []⟩
  refine AW.seq ?_
  refine AW.region ?_
  refine s_assign (d := (sc (.slice none 0 0))) rfl ?_
  refine AWops.nil ?_
  refine AW.seq ?_
  refine AW.region ?_
  refine s_assign (d := (sc (.int .u8 0))) rfl ?_
  refine AWops.nil ?_
  refine AW.seq ?_
  refine AW.seq ?_
  refine AW.region ?_
  refine s_move (d := (sc (.bool a1))) rfl ?_
  refine AWops.nil ?_
  by_cases c1 : a1 = true
  · replace h := (if_pos c1).symm.trans h
    refine AW.cond_yes rfl c1 ?_
    refine AW.region ?_
    refine s_assign (d := (sc (.int .u8 1))) rfl ?_
    refine AWops.nil ?_
    refine AW.seq ?_
    refine AW.region ?_
    refine s_buildSlice (n := 0) (ps := []) (cs := rowC e_u8 ([] : List Int)) F.u_22 F.sz_5 F.z_5 rfl rfl (by decide) (by decide) rfl rfl ?_
    refine s_move (d := (D.one (C.p false (.sl a0.length (a0.flatMap e_u8))))) rfl ?_
    by_cases c2 : (decide (([] : List Int).length + a0.length ≤ 140737488355328)) = true
    · replace h := (if_pos c2).symm.trans h
      have dc2 := of_decide_eq_true c2
      refine t_append (xs := ([] : List Int)) (ys := a0) (zs := a0) (H' := [none, (some (AObj.cells true (rowC e_u8 a0)))]) F.u_22 F.in_5 rfl e_u8_len (.own rfl rfl) .imm F.u_22 (by omega) (by omega) rfl rfl ?_
      refine s_move (d := (sc (.int .u8 1))) rfl ?_
      refine s_buildSlice (n := 1) (ps := [(0, (sc (.int .u8 1)))]) (cs := rowC e_u8 ([1] : List Int)) F.u_22 F.sz_5 F.z_5 rfl rfl (by decide) (by decide) rfl rfl ?_
      by_cases c3 : (decide (a0.length + ([1] : List Int).length ≤ 140737488355328)) = true
      · replace h := (if_pos c3).symm.trans h
        have dc3 := of_decide_eq_true c3
        refine t_append (xs := a0) (ys := ([1] : List Int)) (zs := a0 ++ ([1] : List Int)) (H' := [none, none, (some (AObj.cells true (rowC e_u8 ([1] : List Int)))), (some (AObj.cells true (rowC e_u8 (a0 ++ ([1] : List Int)))))]) F.u_22 F.in_5 rfl e_u8_len (.own rfl rfl) (.own rfl rfl) F.u_22 (by omega) (by omega) rfl rfl ?_
        refine s_assign (d := (D.one (C.own 3 0 ((a0 ++ ([1] : List Int)).length) 1))) rfl ?_
        refine AWops.nil ?_
        refine AW.ret ?_
        obtain rfl := Option.some.inj h
        exact ⟨_, rfl, (Weak.gen (kk := 0) [3] [] rfl rfl (by decide) (by decide) rfl rfl rfl (le_upd (le_top _) (.t (.one (.own rfl)))) (All2.cons (.cells (fun h => h) (all2_row _)) All2.nil))⟩
      · replace h := (if_neg c3).symm.trans h
        cases h
    · replace h := (if_neg c2).symm.trans h
      cases h
  · replace h := (if_neg c1).symm.trans h
    replace c1 := Bool.eq_false_iff.mpr c1
    refine AW.cond_no rfl c1 ?_
    refine AW.skip ?_
    refine AW.seq ?_
    refine AW.region ?_
    refine s_buildSlice (n := 0) (ps := []) (cs := rowC e_u8 ([] : List Int)) F.u_22 F.sz_5 F.z_5 rfl rfl (by decide) (by decide) rfl rfl ?_
    refine s_move (d := (D.one (C.p false (.sl a0.length (a0.flatMap e_u8))))) rfl ?_
    by_cases c4 : (decide (([] : List Int).length + a0.length ≤ 140737488355328)) = true
    · replace h := (if_pos c4).symm.trans h
      have dc4 := of_decide_eq_true c4
      refine t_append (xs := ([] : List Int)) (ys := a0) (zs := a0) (H' := [none, (some (AObj.cells true (rowC e_u8 a0)))]) F.u_22 F.in_5 rfl e_u8_len (.own rfl rfl) .imm F.u_22 (by omega) (by omega) rfl rfl ?_
      refine s_move (d := (sc (.int .u8 0))) rfl ?_
      refine s_buildSlice (n := 1) (ps := [(0, (sc (.int .u8 0)))]) (cs := rowC e_u8 ([0] : List Int)) F.u_22 F.sz_5 F.z_5 rfl rfl (by decide) (by decide) rfl rfl ?_
      by_cases c5 : (decide (a0.length + ([0] : List Int).length ≤ 140737488355328)) = true
      · replace h := (if_pos c5).symm.trans h
        have dc5 := of_decide_eq_true c5
        refine t_append (xs := a0) (ys := ([0] : List Int)) (zs := a0 ++ ([0] : List Int)) (H' := [none, none, (some (AObj.cells true (rowC e_u8 ([0] : List Int)))), (some (AObj.cells true (rowC e_u8 (a0 ++ ([0] : List Int)))))]) F.u_22 F.in_5 rfl e_u8_len (.own rfl rfl) (.own rfl rfl) F.u_22 (by omega) (by omega) rfl rfl ?_
        refine s_assign (d := (D.one (C.own 3 0 ((a0 ++ ([0] : List Int)).length) 1))) rfl ?_
        refine AWops.nil ?_
        refine AW.ret ?_
        obtain rfl := Option.some.inj h
        exact ⟨_, rfl, (Weak.gen (kk := 0) [3] [] rfl rfl (by decide) (by decide) rfl rfl rfl (le_upd (le_top _) (.t (.one (.own rfl)))) (All2.cons (.cells (fun h => h) (all2_row _)) All2.nil))⟩
      · replace h := (if_neg c5).symm.trans h
        cases h
    · replace h := (if_neg c4).symm.trans h
      cases h
mutual
def wire_Crc.l1 : Nat → Int → Int → (List Int) → Int → Option Int
  | 0, _, _, _, _ => none
  | k + 1, x5, x6, a0, x2 => if (decide (x6 < 8)) = true then (wire_Crc.l1 k (Go.bits .xor .u32 (Int.fdiv x5 (2 ^ 1)) (Go.bits .and .u32 3988292384 (IntKind.u32.wrap (0 - (Go.bits .and .u32 x5 1))))) (IntKind.i64.wrap (x6 + 1)) a0 x2) else (wire_Crc.l0 k x5 (IntKind.i64.wrap (x2 + 1)) a0)
def wire_Crc.l0 : Nat → Int → Int → (List Int) → Option Int
  | 0, _, _, _ => none
  | k + 1, x1, x2, a0 => if (decide (x2 < (a0.length : Int))) = true then ((rd a0 x2).bind fun v4 => wire_Crc.l1 k (Go.bits .xor .u32 x1 (IntKind.u32.wrap v4)) 0 a0 x2) else (some (IntKind.i64.wrap (Go.bits .xor .u32 4294967295 x1)))
end
def wire_Crc.f (k : Nat) (a0 : List Int) : Option Int := wire_Crc.l0 k 4294967295 0 a0
theorem wire_Crc.meets (k : Nat) (a0 : List Int) (r : Int) (h : wire_Crc.f k a0 = some r) : Meets Try.prog 17 [(D.one (C.p false (.sl a0.length (a0.flatMap e_u8))))] [] (sc (.int .i64 r)) [] := by
  unfold wire_Crc.f at h
  refine Meets.of_body (n := 30) Try.func17 rfl rfl (Nat.le_of_ble_eq_true rfl) fun x hx => ?_
  replace hx : x.k = 0 := hx
  show AW _ x _ _ ⟨30, fr0 [(D.one (C.p false (.sl a0.length (a0.flatMap e_u8))))], []⟩
  refine AW.seq ?_
  refine AW.region ?_
  refine s_assign (d := (sc (.int .i64 0))) rfl ?_
  refine AWops.nil ?_
  refine AW.seq ?_
  refine AW.region ?_
  refine s_assign (d := (sc (.int .u32 4294967295))) rfl ?_
  refine AWops.nil ?_
  refine AW.seq ?_
  refine AW.seq ?_
  refine AW.region ?_
  refine s_move (d := (D.one (C.p false (.sl a0.length (a0.flatMap e_u8))))) rfl ?_
  refine s_len (n := a0.length) F.u_22 rfl (.inr ⟨(fun _ _ h => by cases h), ⟨_, rfl⟩⟩) ?_
  refine s_move (d := (sc (.int .i64 0))) rfl ?_
  refine AWops.nil ?_
  refine AW.block ?_
  refine AW.loopw (st0 := ⟨30, (upd 30 (upd 30 (upd 30 (upd 30 topF 3 (sc (.int .u32 4294967295))) 6 (D.one (C.p false (.sl a0.length (a0.flatMap e_u8))))) 7 (sc (.int .i64 (a0.length : Int)))) 8 (sc (.int .i64 0))), []⟩) (fun k st => k ≤ k ∧ ∃ (x1 : Int) (x2 : Int), wire_Crc.l0 k x1 x2 a0 = some r ∧ st = ⟨30, (upd 30 (upd 30 (upd 30 (upd 30 topF 3 (sc (.int .u32 x1))) 6 (D.one (C.p false (.sl a0.length (a0.flatMap e_u8))))) 7 (sc (.int .i64 (a0.length : Int)))) 8 (sc (.int .i64 x2))), []⟩) (k := k) (Weak.gen (kk := 0) [] [] hx rfl (by decide) (by decide) rfl rfl rfl (le_upd (le_upd (le_upd (le_upd (le_top _) (.t (.one .sc))) (.t (.one .same))) (.t (.one .sc))) (.t (.one .sc))) All2.nil) ⟨Nat.le_refl _, 4294967295, 0, h, rfl⟩ ?_
  rintro ql0 st ⟨hkl0, x1, x2, h, rfl⟩
  cases ql0 with
  | zero => exact absurd h (by simp [wire_Crc.l0])
  | succ ql0 =>
    replace h := (wire_Crc.l0.eq_2 _ _ _ _).symm.trans h
    refine AW.seq ?_
    refine AW.region ?_
    refine s_binI (v := (.bool (decide (x2 < (a0.length : Int))))) rfl rfl rfl ?_
    refine AWops.nil ?_
    refine AW.seq ?_
    by_cases c3 : (decide (x2 < (a0.length : Int))) = true
    · replace h := (if_pos c3).symm.trans h
      refine AW.cond_yes rfl c3 ?_
      refine AW.skip ?_
      refine AW.seq ?_
      refine AW.block ?_
      refine AW.seq ?_
      refine AW.region ?_
      obtain ⟨v4, ev4, h⟩ := Option.bind_eq_some_iff.mp h
      obtain ⟨pv4, qv4, gv4⟩ := rd_some ev4
      refine s_indexImm (ps := [P.v (.int .u8 v4)]) F.u_22 F.sz_5 rfl rfl pv4 qv4 (flat_at e_u8_len gv4 (e_u8_eq v4)) ?_
      refine s_load1 (c' := (C.p true (.v (.int .u8 v4)))) F.ag_5 rfl rfl ?_
      refine s_assign (d := (sc (.int .u8 v4))) rfl ?_
      refine AWops.nil ?_
      refine AW.seq ?_
      refine AW.region ?_
      refine s_move (d := (sc (.int .u32 x1))) rfl ?_
      refine s_move (d := (sc (.int .u8 v4))) rfl ?_
      refine s_convI F.u_5 F.u_62 rfl ?_
      refine s_binI (v := (.int .u32 (Go.bits .xor .u32 x1 (IntKind.u32.wrap v4)))) rfl rfl rfl ?_
      refine s_assign (d := (sc (.int .u32 (Go.bits .xor .u32 x1 (IntKind.u32.wrap v4))))) rfl ?_
      refine AWops.nil ?_
      refine AW.seq ?_
      refine AW.region ?_
      refine s_move (d := (sc (.int .i64 0))) rfl ?_
      refine AWops.nil ?_
      refine AW.block ?_
      refine AW.loopw (st0 := ⟨30, (upd 30 (upd 30 (upd 30 (upd 30 (upd 30 topF 3 (sc (.int .u32 (Go.bits .xor .u32 x1 (IntKind.u32.wrap v4))))) 6 (D.one (C.p false (.sl a0.length (a0.flatMap e_u8))))) 7 (sc (.int .i64 (a0.length : Int)))) 8 (sc (.int .i64 x2))) 16 (sc (.int .i64 0))), []⟩) (fun k st => k ≤ ql0 ∧ ∃ (x5 : Int) (x6 : Int), wire_Crc.l1 k x5 x6 a0 x2 = some r ∧ st = ⟨30, (upd 30 (upd 30 (upd 30 (upd 30 (upd 30 topF 3 (sc (.int .u32 x5))) 6 (D.one (C.p false (.sl a0.length (a0.flatMap e_u8))))) 7 (sc (.int .i64 (a0.length : Int)))) 8 (sc (.int .i64 x2))) 16 (sc (.int .i64 x6))), []⟩) (k := ql0) (Weak.gen (kk := 0) [] [] hx rfl (by decide) (by decide) rfl rfl rfl (le_upd (le_upd (le_upd (le_upd (le_upd (le_top _) (.t (.one .sc))) (.t (.one .same))) (.t (.one .sc))) (.t (.one .sc))) (.t (.one .sc))) All2.nil) ⟨Nat.le_refl _, Go.bits .xor .u32 x1 (IntKind.u32.wrap v4), 0, h, rfl⟩ ?_
      rintro ql1 st ⟨hkl1, x5, x6, h, rfl⟩
      cases ql1 with
      | zero => exact absurd h (by simp [wire_Crc.l1])
      | succ ql1 =>
        replace h := (wire_Crc.l1.eq_2 _ _ _ _ _).symm.trans h
        refine AW.seq ?_
        refine AW.region ?_
        refine s_binI (v := (.bool (decide (x6 < 8)))) rfl rfl rfl ?_
        refine AWops.nil ?_
        refine AW.seq ?_
        by_cases c7 : (decide (x6 < 8)) = true
        · replace h := (if_pos c7).symm.trans h
          refine AW.cond_yes rfl c7 ?_
          refine AW.skip ?_
          refine AW.seq ?_
          refine AW.block ?_
          refine AW.region ?_
          refine s_move (d := (sc (.int .u32 x5))) rfl ?_
          refine s_shift (v := (.int .u32 (Int.fdiv x5 (2 ^ 1)))) rfl rfl rfl ?_
          refine s_move (d := (sc (.int .u32 x5))) rfl ?_
          refine s_binI (v := (.int .u32 (Go.bits .and .u32 x5 1))) rfl rfl rfl ?_
          refine s_unI (v := (.int .u32 (IntKind.u32.wrap (0 - (Go.bits .and .u32 x5 1))))) rfl rfl ?_
          refine s_binI (v := (.int .u32 (Go.bits .and .u32 3988292384 (IntKind.u32.wrap (0 - (Go.bits .and .u32 x5 1)))))) rfl rfl rfl ?_
          refine s_binI (v := (.int .u32 (Go.bits .xor .u32 (Int.fdiv x5 (2 ^ 1)) (Go.bits .and .u32 3988292384 (IntKind.u32.wrap (0 - (Go.bits .and .u32 x5 1))))))) rfl rfl rfl ?_
          refine s_assign (d := (sc (.int .u32 (Go.bits .xor .u32 (Int.fdiv x5 (2 ^ 1)) (Go.bits .and .u32 3988292384 (IntKind.u32.wrap (0 - (Go.bits .and .u32 x5 1)))))))) rfl ?_
          refine AWops.nil ?_
          refine AW.region ?_
          refine s_binI (v := (.int .i64 (IntKind.i64.wrap (x6 + 1)))) rfl rfl rfl ?_
          refine s_move (d := (sc (.int .i64 (IntKind.i64.wrap (x6 + 1))))) rfl ?_
          refine AWops.nil ?_
          exact ⟨_, ⟨30, (upd 30 (upd 30 (upd 30 (upd 30 (upd 30 topF 3 (sc (.int .u32 (Go.bits .xor .u32 (Int.fdiv x5 (2 ^ 1)) (Go.bits .and .u32 3988292384 (IntKind.u32.wrap (0 - (Go.bits .and .u32 x5 1)))))))) 6 (D.one (C.p false (.sl a0.length (a0.flatMap e_u8))))) 7 (sc (.int .i64 (a0.length : Int)))) 8 (sc (.int .i64 x2))) 16 (sc (.int .i64 (IntKind.i64.wrap (x6 + 1))))), []⟩, by omega, (Weak.gen (kk := 0) [] [] hx rfl (by decide) (by decide) rfl rfl rfl (le_upd (le_upd (le_upd (le_upd (le_upd (le_top _) (.t (.one .sc))) (.t (.one .same))) (.t (.one .sc))) (.t (.one .sc))) (.t (.one .sc))) All2.nil), by omega, Go.bits .xor .u32 (Int.fdiv x5 (2 ^ 1)) (Go.bits .and .u32 3988292384 (IntKind.u32.wrap (0 - (Go.bits .and .u32 x5 1)))), IntKind.i64.wrap (x6 + 1), h, rfl⟩
        · replace h := (if_neg c7).symm.trans h
          replace c7 := Bool.eq_false_iff.mpr c7
          refine AW.cond_no rfl c7 ?_
          refine AW.exit ?_
          refine AW.region ?_
          refine s_binI (v := (.int .i64 (IntKind.i64.wrap (x2 + 1)))) rfl rfl rfl ?_
          refine s_move (d := (sc (.int .i64 (IntKind.i64.wrap (x2 + 1))))) rfl ?_
          refine AWops.nil ?_
          exact ⟨_, ⟨30, (upd 30 (upd 30 (upd 30 (upd 30 topF 3 (sc (.int .u32 x5))) 6 (D.one (C.p false (.sl a0.length (a0.flatMap e_u8))))) 7 (sc (.int .i64 (a0.length : Int)))) 8 (sc (.int .i64 (IntKind.i64.wrap (x2 + 1))))), []⟩, by omega, (Weak.gen (kk := 0) [] [] hx rfl (by decide) (by decide) rfl rfl rfl (le_upd (le_upd (le_upd (le_upd (le_top _) (.t (.one .sc))) (.t (.one .same))) (.t (.one .sc))) (.t (.one .sc))) All2.nil), by omega, x5, IntKind.i64.wrap (x2 + 1), h, rfl⟩
    · replace h := (if_neg c3).symm.trans h
      replace c3 := Bool.eq_false_iff.mpr c3
      refine AW.cond_no rfl c3 ?_
      refine AW.exit ?_
      refine AW.seq ?_
      refine AW.region ?_
      refine s_move (d := (sc (.int .u32 x1))) rfl ?_
      refine s_unI (v := (.int .u32 (Go.bits .xor .u32 4294967295 x1))) rfl rfl ?_
      refine s_convI F.u_62 F.u_3 rfl ?_
      refine s_assign (d := (sc (.int .i64 (IntKind.i64.wrap (Go.bits .xor .u32 4294967295 x1))))) rfl ?_
      refine AWops.nil ?_
      refine AW.ret ?_
      obtain rfl := Option.some.inj h
      exact ⟨_, rfl, (Weak.gen (kk := 0) [] [] rfl rfl (by decide) (by decide) rfl rfl rfl (le_upd (le_top _) (.t (.one .sc))) All2.nil)⟩
mutual
def dossierref02_Crc.l1 : Nat → Int → Int → (List Int) → Int → Option Int
  | 0, _, _, _, _ => none
  | k + 1, x5, x6, a0, x2 => if (decide (x6 < 8)) = true then (if ((Int.tmod x5 2) == 1) = true then (dossierref02_Crc.l1 k (Go.bits .xor .u32 (Int.fdiv x5 (2 ^ 1)) 3988292384) (IntKind.i64.wrap (x6 + 1)) a0 x2) else (dossierref02_Crc.l1 k (Int.fdiv x5 (2 ^ 1)) (IntKind.i64.wrap (x6 + 1)) a0 x2)) else (dossierref02_Crc.l0 k x5 (IntKind.i64.wrap (x2 + 1)) a0)
def dossierref02_Crc.l0 : Nat → Int → Int → (List Int) → Option Int
  | 0, _, _, _ => none
  | k + 1, x1, x2, a0 => if (decide (x2 < (a0.length : Int))) = true then ((rd a0 x2).bind fun v4 => dossierref02_Crc.l1 k (Go.bits .xor .u32 x1 (IntKind.u32.wrap v4)) 0 a0 x2) else (some (IntKind.i64.wrap (Go.bits .xor .u32 x1 4294967295)))
end
def dossierref02_Crc.f (k : Nat) (a0 : List Int) : Option Int := dossierref02_Crc.l0 k 4294967295 0 a0
theorem dossierref02_Crc.meets (k : Nat) (a0 : List Int) (r : Int) (h : dossierref02_Crc.f k a0 = some r) : Meets Try.prog 18 [(D.one (C.p false (.sl a0.length (a0.flatMap e_u8))))] [] (sc (.int .i64 r)) [] := by
  unfold dossierref02_Crc.f at h
  refine Meets.of_body (n := 31) Try.func18 rfl rfl (Nat.le_of_ble_eq_true rfl) fun x hx => ?_
  replace hx : x.k = 0 := hx
  show AW _ x _ _ ⟨31, fr0 [(D.one (C.p false (.sl a0.length (a0.flatMap e_u8))))], []⟩
  refine AW.seq ?_
  refine AW.region ?_
  refine s_assign (d := (sc (.int .i64 0))) rfl ?_
  refine AWops.nil ?_
  refine AW.seq ?_
  refine AW.region ?_
  refine s_assign (d := (sc (.int .u32 4294967295))) rfl ?_
  refine AWops.nil ?_
  refine AW.seq ?_
  refine AW.seq ?_
  refine AW.region ?_
  refine s_move (d := (D.one (C.p false (.sl a0.length (a0.flatMap e_u8))))) rfl ?_
  refine s_len (n := a0.length) F.u_22 rfl (.inr ⟨(fun _ _ h => by cases h), ⟨_, rfl⟩⟩) ?_
  refine s_move (d := (sc (.int .i64 0))) rfl ?_
  refine AWops.nil ?_
  refine AW.block ?_
  refine AW.loopw (st0 := ⟨31, (upd 31 (upd 31 (upd 31 (upd 31 topF 3 (sc (.int .u32 4294967295))) 6 (D.one (C.p false (.sl a0.length (a0.flatMap e_u8))))) 7 (sc (.int .i64 (a0.length : Int)))) 8 (sc (.int .i64 0))), []⟩) (fun k st => k ≤ k ∧ ∃ (x1 : Int) (x2 : Int), dossierref02_Crc.l0 k x1 x2 a0 = some r ∧ st = ⟨31, (upd 31 (upd 31 (upd 31 (upd 31 topF 3 (sc (.int .u32 x1))) 6 (D.one (C.p false (.sl a0.length (a0.flatMap e_u8))))) 7 (sc (.int .i64 (a0.length : Int)))) 8 (sc (.int .i64 x2))), []⟩) (k := k) (Weak.gen (kk := 0) [] [] hx rfl (by decide) (by decide) rfl rfl rfl (le_upd (le_upd (le_upd (le_upd (le_top _) (.t (.one .sc))) (.t (.one .same))) (.t (.one .sc))) (.t (.one .sc))) All2.nil) ⟨Nat.le_refl _, 4294967295, 0, h, rfl⟩ ?_
  rintro ql0 st ⟨hkl0, x1, x2, h, rfl⟩
  cases ql0 with
  | zero => exact absurd h (by simp [dossierref02_Crc.l0])
  | succ ql0 =>
    replace h := (dossierref02_Crc.l0.eq_2 _ _ _ _).symm.trans h
    refine AW.seq ?_
    refine AW.region ?_
    refine s_binI (v := (.bool (decide (x2 < (a0.length : Int))))) rfl rfl rfl ?_
    refine AWops.nil ?_
    refine AW.seq ?_
    by_cases c3 : (decide (x2 < (a0.length : Int))) = true
    · replace h := (if_pos c3).symm.trans h
      refine AW.cond_yes rfl c3 ?_
      refine AW.skip ?_
      refine AW.seq ?_
      refine AW.block ?_
      refine AW.seq ?_
      refine AW.region ?_
      obtain ⟨v4, ev4, h⟩ := Option.bind_eq_some_iff.mp h
      obtain ⟨pv4, qv4, gv4⟩ := rd_some ev4
      refine s_indexImm (ps := [P.v (.int .u8 v4)]) F.u_22 F.sz_5 rfl rfl pv4 qv4 (flat_at e_u8_len gv4 (e_u8_eq v4)) ?_
      refine s_load1 (c' := (C.p true (.v (.int .u8 v4)))) F.ag_5 rfl rfl ?_
      refine s_assign (d := (sc (.int .u8 v4))) rfl ?_
      refine AWops.nil ?_
      refine AW.seq ?_
      refine AW.region ?_
      refine s_move (d := (sc (.int .u32 x1))) rfl ?_
      refine s_move (d := (sc (.int .u8 v4))) rfl ?_
      refine s_convI F.u_5 F.u_62 rfl ?_
      refine s_binI (v := (.int .u32 (Go.bits .xor .u32 x1 (IntKind.u32.wrap v4)))) rfl rfl rfl ?_
      refine s_assign (d := (sc (.int .u32 (Go.bits .xor .u32 x1 (IntKind.u32.wrap v4))))) rfl ?_
      refine AWops.nil ?_
      refine AW.seq ?_
      refine AW.region ?_
      refine s_move (d := (sc (.int .i64 0))) rfl ?_
      refine AWops.nil ?_
      refine AW.block ?_
      refine AW.loopw (st0 := ⟨31, (upd 31 (upd 31 (upd 31 (upd 31 (upd 31 topF 3 (sc (.int .u32 (Go.bits .xor .u32 x1 (IntKind.u32.wrap v4))))) 6 (D.one (C.p false (.sl a0.length (a0.flatMap e_u8))))) 7 (sc (.int .i64 (a0.length : Int)))) 8 (sc (.int .i64 x2))) 16 (sc (.int .i64 0))), []⟩) (fun k st => k ≤ ql0 ∧ ∃ (x5 : Int) (x6 : Int), dossierref02_Crc.l1 k x5 x6 a0 x2 = some r ∧ st = ⟨31, (upd 31 (upd 31 (upd 31 (upd 31 (upd 31 topF 3 (sc (.int .u32 x5))) 6 (D.one (C.p false (.sl a0.length (a0.flatMap e_u8))))) 7 (sc (.int .i64 (a0.length : Int)))) 8 (sc (.int .i64 x2))) 16 (sc (.int .i64 x6))), []⟩) (k := ql0) (Weak.gen (kk := 0) [] [] hx rfl (by decide) (by decide) rfl rfl rfl (le_upd (le_upd (le_upd (le_upd (le_upd (le_top _) (.t (.one .sc))) (.t (.one .same))) (.t (.one .sc))) (.t (.one .sc))) (.t (.one .sc))) All2.nil) ⟨Nat.le_refl _, Go.bits .xor .u32 x1 (IntKind.u32.wrap v4), 0, h, rfl⟩ ?_
      rintro ql1 st ⟨hkl1, x5, x6, h, rfl⟩
      cases ql1 with
      | zero => exact absurd h (by simp [dossierref02_Crc.l1])
      | succ ql1 =>
        replace h := (dossierref02_Crc.l1.eq_2 _ _ _ _ _).symm.trans h
        refine AW.seq ?_
        refine AW.region ?_
        refine s_binI (v := (.bool (decide (x6 < 8)))) rfl rfl rfl ?_
        refine AWops.nil ?_
        refine AW.seq ?_
        by_cases c7 : (decide (x6 < 8)) = true
        · replace h := (if_pos c7).symm.trans h
          refine AW.cond_yes rfl c7 ?_
          refine AW.skip ?_
          refine AW.seq ?_
          refine AW.block ?_
          refine AW.seq ?_
          refine AW.region ?_
          refine s_move (d := (sc (.int .u32 x5))) rfl ?_
          refine s_binI (v := (.int .u32 (Int.tmod x5 2))) rfl rfl rfl ?_
          refine s_binI (v := (.bool ((Int.tmod x5 2) == 1))) rfl rfl rfl ?_
          refine AWops.nil ?_
          by_cases c8 : ((Int.tmod x5 2) == 1) = true
          · replace h := (if_pos c8).symm.trans h
            refine AW.cond_yes rfl c8 ?_
            refine AW.region ?_
            refine s_move (d := (sc (.int .u32 x5))) rfl ?_
            refine s_shift (v := (.int .u32 (Int.fdiv x5 (2 ^ 1)))) rfl rfl rfl ?_
            refine s_binI (v := (.int .u32 (Go.bits .xor .u32 (Int.fdiv x5 (2 ^ 1)) 3988292384))) rfl rfl rfl ?_
            refine s_assign (d := (sc (.int .u32 (Go.bits .xor .u32 (Int.fdiv x5 (2 ^ 1)) 3988292384)))) rfl ?_
            refine AWops.nil ?_
            refine AW.region ?_
            refine s_binI (v := (.int .i64 (IntKind.i64.wrap (x6 + 1)))) rfl rfl rfl ?_
            refine s_move (d := (sc (.int .i64 (IntKind.i64.wrap (x6 + 1))))) rfl ?_
            refine AWops.nil ?_
            exact ⟨_, ⟨31, (upd 31 (upd 31 (upd 31 (upd 31 (upd 31 topF 3 (sc (.int .u32 (Go.bits .xor .u32 (Int.fdiv x5 (2 ^ 1)) 3988292384)))) 6 (D.one (C.p false (.sl a0.length (a0.flatMap e_u8))))) 7 (sc (.int .i64 (a0.length : Int)))) 8 (sc (.int .i64 x2))) 16 (sc (.int .i64 (IntKind.i64.wrap (x6 + 1))))), []⟩, by omega, (Weak.gen (kk := 0) [] [] hx rfl (by decide) (by decide) rfl rfl rfl (le_upd (le_upd (le_upd (le_upd (le_upd (le_top _) (.t (.one .sc))) (.t (.one .same))) (.t (.one .sc))) (.t (.one .sc))) (.t (.one .sc))) All2.nil), by omega, Go.bits .xor .u32 (Int.fdiv x5 (2 ^ 1)) 3988292384, IntKind.i64.wrap (x6 + 1), h, rfl⟩
          · replace h := (if_neg c8).symm.trans h
            replace c8 := Bool.eq_false_iff.mpr c8
            refine AW.cond_no rfl c8 ?_
            refine AW.region ?_
            refine s_move (d := (sc (.int .u32 x5))) rfl ?_
            refine s_shift (v := (.int .u32 (Int.fdiv x5 (2 ^ 1)))) rfl rfl rfl ?_
            refine s_assign (d := (sc (.int .u32 (Int.fdiv x5 (2 ^ 1))))) rfl ?_
            refine AWops.nil ?_
            refine AW.region ?_
            refine s_binI (v := (.int .i64 (IntKind.i64.wrap (x6 + 1)))) rfl rfl rfl ?_
            refine s_move (d := (sc (.int .i64 (IntKind.i64.wrap (x6 + 1))))) rfl ?_
            refine AWops.nil ?_
            exact ⟨_, ⟨31, (upd 31 (upd 31 (upd 31 (upd 31 (upd 31 topF 3 (sc (.int .u32 (Int.fdiv x5 (2 ^ 1))))) 6 (D.one (C.p false (.sl a0.length (a0.flatMap e_u8))))) 7 (sc (.int .i64 (a0.length : Int)))) 8 (sc (.int .i64 x2))) 16 (sc (.int .i64 (IntKind.i64.wrap (x6 + 1))))), []⟩, by omega, (Weak.gen (kk := 0) [] [] hx rfl (by decide) (by decide) rfl rfl rfl (le_upd (le_upd (le_upd (le_upd (le_upd (le_top _) (.t (.one .sc))) (.t (.one .same))) (.t (.one .sc))) (.t (.one .sc))) (.t (.one .sc))) All2.nil), by omega, Int.fdiv x5 (2 ^ 1), IntKind.i64.wrap (x6 + 1), h, rfl⟩
        · replace h := (if_neg c7).symm.trans h
          replace c7 := Bool.eq_false_iff.mpr c7
          refine AW.cond_no rfl c7 ?_
          refine AW.exit ?_
          refine AW.region ?_
          refine s_binI (v := (.int .i64 (IntKind.i64.wrap (x2 + 1)))) rfl rfl rfl ?_
          refine s_move (d := (sc (.int .i64 (IntKind.i64.wrap (x2 + 1))))) rfl ?_
          refine AWops.nil ?_
          exact ⟨_, ⟨31, (upd 31 (upd 31 (upd 31 (upd 31 topF 3 (sc (.int .u32 x5))) 6 (D.one (C.p false (.sl a0.length (a0.flatMap e_u8))))) 7 (sc (.int .i64 (a0.length : Int)))) 8 (sc (.int .i64 (IntKind.i64.wrap (x2 + 1))))), []⟩, by omega, (Weak.gen (kk := 0) [] [] hx rfl (by decide) (by decide) rfl rfl rfl (le_upd (le_upd (le_upd (le_upd (le_top _) (.t (.one .sc))) (.t (.one .same))) (.t (.one .sc))) (.t (.one .sc))) All2.nil), by omega, x5, IntKind.i64.wrap (x2 + 1), h, rfl⟩
    · replace h := (if_neg c3).symm.trans h
      replace c3 := Bool.eq_false_iff.mpr c3
      refine AW.cond_no rfl c3 ?_
      refine AW.exit ?_
      refine AW.seq ?_
      refine AW.region ?_
      refine s_move (d := (sc (.int .u32 x1))) rfl ?_
      refine s_binI (v := (.int .u32 (Go.bits .xor .u32 x1 4294967295))) rfl rfl rfl ?_
      refine s_convI F.u_62 F.u_3 rfl ?_
      refine s_assign (d := (sc (.int .i64 (IntKind.i64.wrap (Go.bits .xor .u32 x1 4294967295))))) rfl ?_
      refine AWops.nil ?_
      refine AW.ret ?_
      obtain rfl := Option.some.inj h
      exact ⟨_, rfl, (Weak.gen (kk := 0) [] [] rfl rfl (by decide) (by decide) rfl rfl rfl (le_upd (le_top _) (.t (.one .sc))) All2.nil)⟩
def dossierlaw02_awake.f (k : Nat) : Option Bool := (wire_Int.f k ([] : List Int) 64).bind fun r1 => (bytes_Equal.f k r1 ([128, 1] : List Int)).bind fun r2 => some r2
theorem dossierlaw02_awake.meets (k : Nat) (r : Bool) (h : dossierlaw02_awake.f k = some r) : Meets Try.prog 19 [] [] (sc (.bool r)) [] := by
  unfold dossierlaw02_awake.f at h
  refine Meets.of_body (n := 4) Try.func19 rfl rfl (Nat.le_of_ble_eq_true rfl) fun x hx => ?_
  replace hx : x.k = 0 := hx
  show AW _ x _ _ ⟨4, fr0 [], []⟩
  refine AW.seq ?_
  refine AW.region ?_
  refine s_assign (d := (sc (.bool false))) rfl ?_
  refine AWops.nil ?_
  refine AW.seq ?_
  refine AW.region ?_
  obtain ⟨r1, er1, h⟩ := Option.bind_eq_some_iff.mp h
  refine s_call (ρ := []) (br := false) (H2 := [(some (AObj.cells true (rowC e_u8 r1)))]) (d := (D.one (C.own 0 0 r1.length 1))) F.ca_11 rfl rfl (All2.cons (.one .nil) (All2.cons (.one .sc) All2.nil)) All2.nil (by decide) rfl (wire_Int.meets _ ([] : List Int) 64 r1 er1) (.inl rfl) (by first | rfl | (simp only [mergeH, mergeAt, mergeObj, renO, ren_row, List.drop_succ_cons, List.drop_zero, List.map_cons, List.map_nil, Option.map_some, Option.map_none, List.length_cons, List.length_nil, Nat.zero_add, List.append_assoc, List.cons_append, List.nil_append]; done) | (simp only [mergeH, mergeAt, mergeObj, renO, ren_row, List.drop_succ_cons, List.drop_zero, List.map_cons, List.map_nil, Option.map_some, Option.map_none, List.length_cons, List.length_nil, Nat.zero_add, List.append_assoc, List.cons_append, List.nil_append]; rfl)) rfl ?_
  refine s_buildSlice (n := 2) (ps := [(0, (sc (.int .u8 128))), (1, (sc (.int .u8 1)))]) (cs := rowC e_u8 ([128, 1] : List Int)) F.u_22 F.sz_5 F.z_5 rfl rfl (by decide) (by decide) rfl rfl ?_
  obtain ⟨r2, er2, h⟩ := Option.bind_eq_some_iff.mp h
  refine s_call (ρ := []) (br := true) (H2 := [(some (AObj.cells true (rowC e_u8 r1))), (some (AObj.cells true (rowC e_u8 ([128, 1] : List Int))))]) (d := (sc (.bool r2))) F.ca_10 rfl rfl (All2.cons (.one (LendC.bor e_u8_len rfl rfl rfl)) (All2.cons (.one (LendC.bor e_u8_len rfl rfl rfl)) All2.nil)) All2.nil (by decide) rfl (bytes_Equal.meets _ r1 ([128, 1] : List Int) r2 er2) (.inr ⟨rfl, rfl⟩) rfl rfl ?_
  refine s_assign (d := (sc (.bool r2))) rfl ?_
  refine AWops.nil ?_
  refine AW.ret ?_
  obtain rfl := Option.some.inj h
  exact ⟨_, rfl, (Weak.gen (kk := 0) [] [] rfl rfl (by decide) (by decide) rfl rfl rfl (le_upd (le_top _) (.t (.one .sc))) All2.nil)⟩
def dossierlaw02_WirePuts.f (k : Nat) (a0 : List Int) (a1 : ByteArray) (a2 : Int) (a3 : Bool) : Option Bool := (bytes_Clone.f k a0).bind fun r1 => (wire_Int.f k r1 a2).bind fun r2 => (dossierref02_Int.f k a0 a2).bind fun r3 => (bytes_Equal.f k r2 r3).bind fun r4 => if r4 = true then ((wire_Text.f k r1 a1).bind fun r6 => (dossierref02_Text.f k a0 a1).bind fun r7 => (bytes_Equal.f k r6 r7).bind fun r8 => if r8 = true then ((wire_Flag.f k r1 a3).bind fun r10 => (dossierref02_Flag.f k a0 a3).bind fun r11 => (bytes_Equal.f k r10 r11).bind fun r12 => if r12 = true then ((wire_Crc.f k r1).bind fun r14 => (dossierref02_Crc.f k a0).bind fun r15 => if (r14 == r15) = true then ((bytes_Equal.f k r1 a0).bind fun r17 => if r17 = true then ((dossierlaw02_awake.f k).bind fun r19 => some r19) else (some false)) else (some false)) else (some false)) else (some false)) else (some false)
theorem dossierlaw02_WirePuts.meets (k : Nat) (a0 : List Int) (a1 : ByteArray) (a2 : Int) (a3 : Bool) (r : Bool) (h : dossierlaw02_WirePuts.f k a0 a1 a2 a3 = some r) : Meets Try.prog 3 [(D.one (C.p false (.sl a0.length (a0.flatMap e_u8)))), (sc (.string a1)), (sc (.int .i64 a2)), (sc (.bool a3))] [] (sc (.bool r)) [] := by
  unfold dossierlaw02_WirePuts.f at h
  refine Meets.of_body (n := 52) Try.func3 rfl rfl (Nat.le_of_ble_eq_true rfl) fun x hx => ?_
  replace hx : x.k = 0 := hx
  show AW _ x _ _ ⟨52, fr0 [(D.one (C.p false (.sl a0.length (a0.flatMap e_u8)))), (sc (.string a1)), (sc (.int .i64 a2)), (sc (.bool a3))], []⟩
  refine AW.seq ?_
  refine AW.region ?_
  refine s_assign (d := (sc (.bool false))) rfl ?_
  refine AWops.nil ?_
  refine AW.seq ?_
  refine AW.region ?_
  refine s_move (d := (D.one (C.p false (.sl a0.length (a0.flatMap e_u8))))) rfl ?_
  obtain ⟨r1, er1, h⟩ := Option.bind_eq_some_iff.mp h
  refine s_call (ρ := []) (br := false) (H2 := [(some (AObj.cells true (rowC e_u8 r1)))]) (d := (D.one (C.own 0 0 r1.length 1))) F.ca_9 rfl rfl (All2.cons (.one .imm) All2.nil) All2.nil (by decide) rfl (bytes_Clone.meets _ a0 r1 er1) (.inl rfl) (by first | rfl | (simp only [mergeH, mergeAt, mergeObj, renO, ren_row, List.drop_succ_cons, List.drop_zero, List.map_cons, List.map_nil, Option.map_some, Option.map_none, List.length_cons, List.length_nil, Nat.zero_add, List.append_assoc, List.cons_append, List.nil_append]; done) | (simp only [mergeH, mergeAt, mergeObj, renO, ren_row, List.drop_succ_cons, List.drop_zero, List.map_cons, List.map_nil, Option.map_some, Option.map_none, List.length_cons, List.length_nil, Nat.zero_add, List.append_assoc, List.cons_append, List.nil_append]; rfl)) rfl ?_
  refine s_assign (d := (D.one (C.own 0 0 r1.length 1))) rfl ?_
  refine AWops.nil ?_
  refine AW.seq ?_
  refine AW.region ?_
  refine s_move (d := (D.one (C.own 0 0 r1.length 1))) rfl ?_
  refine s_move (d := (sc (.int .i64 a2))) rfl ?_
  obtain ⟨r2, er2, h⟩ := Option.bind_eq_some_iff.mp h
  refine s_call (ρ := []) (br := true) (H2 := [(some (AObj.cells true (rowC e_u8 r1))), (some (AObj.cells true (rowC e_u8 r2)))]) (d := (D.one (C.own 1 0 r2.length 1))) F.ca_11 rfl rfl (All2.cons (.one (LendC.bor e_u8_len rfl rfl rfl)) (All2.cons (.one .sc) All2.nil)) All2.nil (by decide) rfl (wire_Int.meets _ r1 a2 r2 er2) (.inr ⟨rfl, by simp [frH, frC, fr_row e_u8_fr]⟩) (by first | rfl | (simp only [mergeH, mergeAt, mergeObj, renO, ren_row, List.drop_succ_cons, List.drop_zero, List.map_cons, List.map_nil, Option.map_some, Option.map_none, List.length_cons, List.length_nil, Nat.zero_add, List.append_assoc, List.cons_append, List.nil_append]; done) | (simp only [mergeH, mergeAt, mergeObj, renO, ren_row, List.drop_succ_cons, List.drop_zero, List.map_cons, List.map_nil, Option.map_some, Option.map_none, List.length_cons, List.length_nil, Nat.zero_add, List.append_assoc, List.cons_append, List.nil_append]; rfl)) rfl ?_
  refine s_move (d := (D.one (C.p false (.sl a0.length (a0.flatMap e_u8))))) rfl ?_
  refine s_move (d := (sc (.int .i64 a2))) rfl ?_
  obtain ⟨r3, er3, h⟩ := Option.bind_eq_some_iff.mp h
  refine s_call (ρ := []) (br := false) (H2 := [(some (AObj.cells true (rowC e_u8 r1))), (some (AObj.cells true (rowC e_u8 r2))), (some (AObj.cells true (rowC e_u8 r3)))]) (d := (D.one (C.own 2 0 r3.length 1))) F.ca_12 rfl rfl (All2.cons (.one .imm) (All2.cons (.one .sc) All2.nil)) All2.nil (by decide) rfl (dossierref02_Int.meets _ a0 a2 r3 er3) (.inl rfl) (by first | rfl | (simp only [mergeH, mergeAt, mergeObj, renO, ren_row, List.drop_succ_cons, List.drop_zero, List.map_cons, List.map_nil, Option.map_some, Option.map_none, List.length_cons, List.length_nil, Nat.zero_add, List.append_assoc, List.cons_append, List.nil_append]; done) | (simp only [mergeH, mergeAt, mergeObj, renO, ren_row, List.drop_succ_cons, List.drop_zero, List.map_cons, List.map_nil, Option.map_some, Option.map_none, List.length_cons, List.length_nil, Nat.zero_add, List.append_assoc, List.cons_append, List.nil_append]; rfl)) rfl ?_
  obtain ⟨r4, er4, h⟩ := Option.bind_eq_some_iff.mp h
  refine s_call (ρ := []) (br := true) (H2 := [(some (AObj.cells true (rowC e_u8 r1))), (some (AObj.cells true (rowC e_u8 r2))), (some (AObj.cells true (rowC e_u8 r3)))]) (d := (sc (.bool r4))) F.ca_10 rfl rfl (All2.cons (.one (LendC.bor e_u8_len rfl rfl rfl)) (All2.cons (.one (LendC.bor e_u8_len rfl rfl rfl)) All2.nil)) All2.nil (by decide) rfl (bytes_Equal.meets _ r2 r3 r4 er4) (.inr ⟨rfl, rfl⟩) rfl rfl ?_
  refine s_move (d := (sc (.bool r4))) rfl ?_
  by_cases c5 : r4 = true
  · replace h := (if_pos c5).symm.trans h
    refine AWops.guard_yes rfl (Nat.le_of_ble_eq_true rfl) rfl c5 ?_
    refine s_move (d := (D.one (C.own 0 0 r1.length 1))) rfl ?_
    refine AWops.guard_yes rfl (Nat.le_of_ble_eq_true rfl) rfl c5 ?_
    refine s_move (d := (sc (.string a1))) rfl ?_
    refine AWops.guard_yes rfl (Nat.le_of_ble_eq_true rfl) rfl c5 ?_
    obtain ⟨r6, er6, h⟩ := Option.bind_eq_some_iff.mp h
    refine s_call (ρ := []) (br := true) (H2 := [(some (AObj.cells true (rowC e_u8 r1))), (some (AObj.cells true (rowC e_u8 r2))), (some (AObj.cells true (rowC e_u8 r3))), (some (AObj.cells true (rowC e_u8 r6)))]) (d := (D.one (C.own 3 0 r6.length 1))) F.ca_13 rfl rfl (All2.cons (.one (LendC.bor e_u8_len rfl rfl rfl)) (All2.cons (.one .sc) All2.nil)) All2.nil (by decide) rfl (wire_Text.meets _ r1 a1 r6 er6) (.inr ⟨rfl, by simp [frH, frC, fr_row e_u8_fr]⟩) (by first | rfl | (simp only [mergeH, mergeAt, mergeObj, renO, ren_row, List.drop_succ_cons, List.drop_zero, List.map_cons, List.map_nil, Option.map_some, Option.map_none, List.length_cons, List.length_nil, Nat.zero_add, List.append_assoc, List.cons_append, List.nil_append]; done) | (simp only [mergeH, mergeAt, mergeObj, renO, ren_row, List.drop_succ_cons, List.drop_zero, List.map_cons, List.map_nil, Option.map_some, Option.map_none, List.length_cons, List.length_nil, Nat.zero_add, List.append_assoc, List.cons_append, List.nil_append]; rfl)) rfl ?_
    refine AWops.guard_yes rfl (Nat.le_of_ble_eq_true rfl) rfl c5 ?_
    refine s_move (d := (D.one (C.p false (.sl a0.length (a0.flatMap e_u8))))) rfl ?_
    refine AWops.guard_yes rfl (Nat.le_of_ble_eq_true rfl) rfl c5 ?_
    refine s_move (d := (sc (.string a1))) rfl ?_
    refine AWops.guard_yes rfl (Nat.le_of_ble_eq_true rfl) rfl c5 ?_
    obtain ⟨r7, er7, h⟩ := Option.bind_eq_some_iff.mp h
    refine s_call (ρ := []) (br := false) (H2 := [(some (AObj.cells true (rowC e_u8 r1))), (some (AObj.cells true (rowC e_u8 r2))), (some (AObj.cells true (rowC e_u8 r3))), (some (AObj.cells true (rowC e_u8 r6))), (some (AObj.cells true (rowC e_u8 r7)))]) (d := (D.one (C.own 4 0 r7.length 1))) F.ca_14 rfl rfl (All2.cons (.one .imm) (All2.cons (.one .sc) All2.nil)) All2.nil (by decide) rfl (dossierref02_Text.meets _ a0 a1 r7 er7) (.inl rfl) (by first | rfl | (simp only [mergeH, mergeAt, mergeObj, renO, ren_row, List.drop_succ_cons, List.drop_zero, List.map_cons, List.map_nil, Option.map_some, Option.map_none, List.length_cons, List.length_nil, Nat.zero_add, List.append_assoc, List.cons_append, List.nil_append]; done) | (simp only [mergeH, mergeAt, mergeObj, renO, ren_row, List.drop_succ_cons, List.drop_zero, List.map_cons, List.map_nil, Option.map_some, Option.map_none, List.length_cons, List.length_nil, Nat.zero_add, List.append_assoc, List.cons_append, List.nil_append]; rfl)) rfl ?_
    refine AWops.guard_yes rfl (Nat.le_of_ble_eq_true rfl) rfl c5 ?_
    obtain ⟨r8, er8, h⟩ := Option.bind_eq_some_iff.mp h
    refine s_call (ρ := []) (br := true) (H2 := [(some (AObj.cells true (rowC e_u8 r1))), (some (AObj.cells true (rowC e_u8 r2))), (some (AObj.cells true (rowC e_u8 r3))), (some (AObj.cells true (rowC e_u8 r6))), (some (AObj.cells true (rowC e_u8 r7)))]) (d := (sc (.bool r8))) F.ca_10 rfl rfl (All2.cons (.one (LendC.bor e_u8_len rfl rfl rfl)) (All2.cons (.one (LendC.bor e_u8_len rfl rfl rfl)) All2.nil)) All2.nil (by decide) rfl (bytes_Equal.meets _ r6 r7 r8 er8) (.inr ⟨rfl, rfl⟩) rfl rfl ?_
    refine s_pick_yes (d := (sc (.bool r8))) rfl c5 rfl ?_
    refine s_move (d := (sc (.bool r8))) rfl ?_
    by_cases c9 : r8 = true
    · replace h := (if_pos c9).symm.trans h
      refine AWops.guard_yes rfl (Nat.le_of_ble_eq_true rfl) rfl c9 ?_
      refine s_move (d := (D.one (C.own 0 0 r1.length 1))) rfl ?_
      refine AWops.guard_yes rfl (Nat.le_of_ble_eq_true rfl) rfl c9 ?_
      refine s_move (d := (sc (.bool a3))) rfl ?_
      refine AWops.guard_yes rfl (Nat.le_of_ble_eq_true rfl) rfl c9 ?_
      obtain ⟨r10, er10, h⟩ := Option.bind_eq_some_iff.mp h
      refine s_call (ρ := []) (br := true) (H2 := [(some (AObj.cells true (rowC e_u8 r1))), (some (AObj.cells true (rowC e_u8 r2))), (some (AObj.cells true (rowC e_u8 r3))), (some (AObj.cells true (rowC e_u8 r6))), (some (AObj.cells true (rowC e_u8 r7))), (some (AObj.cells true (rowC e_u8 r10)))]) (d := (D.one (C.own 5 0 r10.length 1))) F.ca_15 rfl rfl (All2.cons (.one (LendC.bor e_u8_len rfl rfl rfl)) (All2.cons (.one .sc) All2.nil)) All2.nil (by decide) rfl (wire_Flag.meets _ r1 a3 r10 er10) (.inr ⟨rfl, by simp [frH, frC, fr_row e_u8_fr]⟩) (by first | rfl | (simp only [mergeH, mergeAt, mergeObj, renO, ren_row, List.drop_succ_cons, List.drop_zero, List.map_cons, List.map_nil, Option.map_some, Option.map_none, List.length_cons, List.length_nil, Nat.zero_add, List.append_assoc, List.cons_append, List.nil_append]; done) | (simp only [mergeH, mergeAt, mergeObj, renO, ren_row, List.drop_succ_cons, List.drop_zero, List.map_cons, List.map_nil, Option.map_some, Option.map_none, List.length_cons, List.length_nil, Nat.zero_add, List.append_assoc, List.cons_append, List.nil_append]; rfl)) rfl ?_
      refine AWops.guard_yes rfl (Nat.le_of_ble_eq_true rfl) rfl c9 ?_
      refine s_move (d := (D.one (C.p false (.sl a0.length (a0.flatMap e_u8))))) rfl ?_
      refine AWops.guard_yes rfl (Nat.le_of_ble_eq_true rfl) rfl c9 ?_
      refine s_move (d := (sc (.bool a3))) rfl ?_
      refine AWops.guard_yes rfl (Nat.le_of_ble_eq_true rfl) rfl c9 ?_
      obtain ⟨r11, er11, h⟩ := Option.bind_eq_some_iff.mp h
      refine s_call (ρ := []) (br := false) (H2 := [(some (AObj.cells true (rowC e_u8 r1))), (some (AObj.cells true (rowC e_u8 r2))), (some (AObj.cells true (rowC e_u8 r3))), (some (AObj.cells true (rowC e_u8 r6))), (some (AObj.cells true (rowC e_u8 r7))), (some (AObj.cells true (rowC e_u8 r10))), (some (AObj.cells true (rowC e_u8 r11)))]) (d := (D.one (C.own 6 0 r11.length 1))) F.ca_16 rfl rfl (All2.cons (.one .imm) (All2.cons (.one .sc) All2.nil)) All2.nil (by decide) rfl (dossierref02_Flag.meets _ a0 a3 r11 er11) (.inl rfl) (by first | rfl | (simp only [mergeH, mergeAt, mergeObj, renO, ren_row, List.drop_succ_cons, List.drop_zero, List.map_cons, List.map_nil, Option.map_some, Option.map_none, List.length_cons, List.length_nil, Nat.zero_add, List.append_assoc, List.cons_append, List.nil_append]; done) | (simp only [mergeH, mergeAt, mergeObj, renO, ren_row, List.drop_succ_cons, List.drop_zero, List.map_cons, List.map_nil, Option.map_some, Option.map_none, List.length_cons, List.length_nil, Nat.zero_add, List.append_assoc, List.cons_append, List.nil_append]; rfl)) rfl ?_
      refine AWops.guard_yes rfl (Nat.le_of_ble_eq_true rfl) rfl c9 ?_
      obtain ⟨r12, er12, h⟩ := Option.bind_eq_some_iff.mp h
      refine s_call (ρ := []) (br := true) (H2 := [(some (AObj.cells true (rowC e_u8 r1))), (some (AObj.cells true (rowC e_u8 r2))), (some (AObj.cells true (rowC e_u8 r3))), (some (AObj.cells true (rowC e_u8 r6))), (some (AObj.cells true (rowC e_u8 r7))), (some (AObj.cells true (rowC e_u8 r10))), (some (AObj.cells true (rowC e_u8 r11)))]) (d := (sc (.bool r12))) F.ca_10 rfl rfl (All2.cons (.one (LendC.bor e_u8_len rfl rfl rfl)) (All2.cons (.one (LendC.bor e_u8_len rfl rfl rfl)) All2.nil)) All2.nil (by decide) rfl (bytes_Equal.meets _ r10 r11 r12 er12) (.inr ⟨rfl, rfl⟩) rfl rfl ?_
      refine s_pick_yes (d := (sc (.bool r12))) rfl c9 rfl ?_
      refine s_move (d := (sc (.bool r12))) rfl ?_
      by_cases c13 : r12 = true
      · replace h := (if_pos c13).symm.trans h
        refine AWops.guard_yes rfl (Nat.le_of_ble_eq_true rfl) rfl c13 ?_
        refine s_move (d := (D.one (C.own 0 0 r1.length 1))) rfl ?_
        refine AWops.guard_yes rfl (Nat.le_of_ble_eq_true rfl) rfl c13 ?_
        obtain ⟨r14, er14, h⟩ := Option.bind_eq_some_iff.mp h
        refine s_call (ρ := []) (br := true) (H2 := [(some (AObj.cells true (rowC e_u8 r1))), (some (AObj.cells true (rowC e_u8 r2))), (some (AObj.cells true (rowC e_u8 r3))), (some (AObj.cells true (rowC e_u8 r6))), (some (AObj.cells true (rowC e_u8 r7))), (some (AObj.cells true (rowC e_u8 r10))), (some (AObj.cells true (rowC e_u8 r11)))]) (d := (sc (.int .i64 r14))) F.ca_17 rfl rfl (All2.cons (.one (LendC.bor e_u8_len rfl rfl rfl)) All2.nil) All2.nil (by decide) rfl (wire_Crc.meets _ r1 r14 er14) (.inr ⟨rfl, rfl⟩) rfl rfl ?_
        refine AWops.guard_yes rfl (Nat.le_of_ble_eq_true rfl) rfl c13 ?_
        refine s_move (d := (D.one (C.p false (.sl a0.length (a0.flatMap e_u8))))) rfl ?_
        refine AWops.guard_yes rfl (Nat.le_of_ble_eq_true rfl) rfl c13 ?_
        obtain ⟨r15, er15, h⟩ := Option.bind_eq_some_iff.mp h
        refine s_call (ρ := []) (br := false) (H2 := [(some (AObj.cells true (rowC e_u8 r1))), (some (AObj.cells true (rowC e_u8 r2))), (some (AObj.cells true (rowC e_u8 r3))), (some (AObj.cells true (rowC e_u8 r6))), (some (AObj.cells true (rowC e_u8 r7))), (some (AObj.cells true (rowC e_u8 r10))), (some (AObj.cells true (rowC e_u8 r11)))]) (d := (sc (.int .i64 r15))) F.ca_18 rfl rfl (All2.cons (.one .imm) All2.nil) All2.nil (by decide) rfl (dossierref02_Crc.meets _ a0 r15 er15) (.inl rfl) rfl rfl ?_
        refine AWops.guard_yes rfl (Nat.le_of_ble_eq_true rfl) rfl c13 ?_
        refine s_binI (v := (.bool (r14 == r15))) rfl rfl rfl ?_
        refine s_pick_yes (d := (sc (.bool (r14 == r15)))) rfl c13 rfl ?_
        refine s_move (d := (sc (.bool (r14 == r15)))) rfl ?_
        by_cases c16 : (r14 == r15) = true
        · replace h := (if_pos c16).symm.trans h
          refine AWops.guard_yes rfl (Nat.le_of_ble_eq_true rfl) rfl c16 ?_
          refine s_move (d := (D.one (C.own 0 0 r1.length 1))) rfl ?_
          refine AWops.guard_yes rfl (Nat.le_of_ble_eq_true rfl) rfl c16 ?_
          refine s_move (d := (D.one (C.p false (.sl a0.length (a0.flatMap e_u8))))) rfl ?_
          refine AWops.guard_yes rfl (Nat.le_of_ble_eq_true rfl) rfl c16 ?_
          obtain ⟨r17, er17, h⟩ := Option.bind_eq_some_iff.mp h
          refine s_call (ρ := []) (br := true) (H2 := [(some (AObj.cells true (rowC e_u8 r1))), (some (AObj.cells true (rowC e_u8 r2))), (some (AObj.cells true (rowC e_u8 r3))), (some (AObj.cells true (rowC e_u8 r6))), (some (AObj.cells true (rowC e_u8 r7))), (some (AObj.cells true (rowC e_u8 r10))), (some (AObj.cells true (rowC e_u8 r11)))]) (d := (sc (.bool r17))) F.ca_10 rfl rfl (All2.cons (.one (LendC.bor e_u8_len rfl rfl rfl)) (All2.cons (.one .imm) All2.nil)) All2.nil (by decide) rfl (bytes_Equal.meets _ r1 a0 r17 er17) (.inr ⟨rfl, rfl⟩) rfl rfl ?_
          refine s_pick_yes (d := (sc (.bool r17))) rfl c16 rfl ?_
          refine s_move (d := (sc (.bool r17))) rfl ?_
          by_cases c18 : r17 = true
          · replace h := (if_pos c18).symm.trans h
            refine AWops.guard_yes rfl (Nat.le_of_ble_eq_true rfl) rfl c18 ?_
            obtain ⟨r19, er19, h⟩ := Option.bind_eq_some_iff.mp h
            refine s_call (ρ := []) (br := false) (H2 := [(some (AObj.cells true (rowC e_u8 r1))), (some (AObj.cells true (rowC e_u8 r2))), (some (AObj.cells true (rowC e_u8 r3))), (some (AObj.cells true (rowC e_u8 r6))), (some (AObj.cells true (rowC e_u8 r7))), (some (AObj.cells true (rowC e_u8 r10))), (some (AObj.cells true (rowC e_u8 r11)))]) (d := (sc (.bool r19))) F.ca_19 rfl rfl All2.nil All2.nil (by decide) rfl (dossierlaw02_awake.meets _  r19 er19) (.inl rfl) rfl rfl ?_
            refine s_pick_yes (d := (sc (.bool r19))) rfl c18 rfl ?_
            refine s_assign (d := (sc (.bool r19))) rfl ?_
            refine AWops.nil ?_
            refine AW.ret ?_
            obtain rfl := Option.some.inj h
            exact ⟨_, rfl, (Weak.gen (kk := 0) [] [] rfl rfl (by decide) (by decide) rfl rfl rfl (le_upd (le_top _) (.t (.one .sc))) All2.nil)⟩
          · replace h := (if_neg c18).symm.trans h
            replace c18 := Bool.eq_false_iff.mpr c18
            refine AWops.guard_no rfl (Nat.le_of_ble_eq_true rfl) rfl c18 ?_
            refine s_pick_no (d := (sc (.bool false))) rfl c18 rfl ?_
            refine s_assign (d := (sc (.bool false))) rfl ?_
            refine AWops.nil ?_
            refine AW.ret ?_
            obtain rfl := Option.some.inj h
            exact ⟨_, rfl, (Weak.gen (kk := 0) [] [] rfl rfl (by decide) (by decide) rfl rfl rfl (le_upd (le_top _) (.t (.one .sc))) All2.nil)⟩
        · replace h := (if_neg c16).symm.trans h
          replace c16 := Bool.eq_false_iff.mpr c16
          refine AWops.guard_no rfl (Nat.le_of_ble_eq_true rfl) rfl c16 ?_
          refine AWops.guard_no rfl (Nat.le_of_ble_eq_true rfl) rfl c16 ?_
          refine AWops.guard_no rfl (Nat.le_of_ble_eq_true rfl) rfl c16 ?_
          refine s_pick_no (d := (sc (.bool false))) rfl c16 rfl ?_
          refine s_move (d := (sc (.bool false))) rfl ?_
          refine AWops.guard_no rfl (Nat.le_of_ble_eq_true rfl) rfl rfl ?_
          refine s_pick_no (d := (sc (.bool false))) rfl rfl rfl ?_
          refine s_assign (d := (sc (.bool false))) rfl ?_
          refine AWops.nil ?_
          refine AW.ret ?_
          obtain rfl := Option.some.inj h
          exact ⟨_, rfl, (Weak.gen (kk := 0) [] [] rfl rfl (by decide) (by decide) rfl rfl rfl (le_upd (le_top _) (.t (.one .sc))) All2.nil)⟩
      · replace h := (if_neg c13).symm.trans h
        replace c13 := Bool.eq_false_iff.mpr c13
        refine AWops.guard_no rfl (Nat.le_of_ble_eq_true rfl) rfl c13 ?_
        refine AWops.guard_no rfl (Nat.le_of_ble_eq_true rfl) rfl c13 ?_
        refine AWops.guard_no rfl (Nat.le_of_ble_eq_true rfl) rfl c13 ?_
        refine AWops.guard_no rfl (Nat.le_of_ble_eq_true rfl) rfl c13 ?_
        refine AWops.guard_no rfl (Nat.le_of_ble_eq_true rfl) rfl c13 ?_
        refine s_pick_no (d := (sc (.bool false))) rfl c13 rfl ?_
        refine s_move (d := (sc (.bool false))) rfl ?_
        refine AWops.guard_no rfl (Nat.le_of_ble_eq_true rfl) rfl rfl ?_
        refine AWops.guard_no rfl (Nat.le_of_ble_eq_true rfl) rfl rfl ?_
        refine AWops.guard_no rfl (Nat.le_of_ble_eq_true rfl) rfl rfl ?_
        refine s_pick_no (d := (sc (.bool false))) rfl rfl rfl ?_
        refine s_move (d := (sc (.bool false))) rfl ?_
        refine AWops.guard_no rfl (Nat.le_of_ble_eq_true rfl) rfl rfl ?_
        refine s_pick_no (d := (sc (.bool false))) rfl rfl rfl ?_
        refine s_assign (d := (sc (.bool false))) rfl ?_
        refine AWops.nil ?_
        refine AW.ret ?_
        obtain rfl := Option.some.inj h
        exact ⟨_, rfl, (Weak.gen (kk := 0) [] [] rfl rfl (by decide) (by decide) rfl rfl rfl (le_upd (le_top _) (.t (.one .sc))) All2.nil)⟩
    · replace h := (if_neg c9).symm.trans h
      replace c9 := Bool.eq_false_iff.mpr c9
      refine AWops.guard_no rfl (Nat.le_of_ble_eq_true rfl) rfl c9 ?_
      refine AWops.guard_no rfl (Nat.le_of_ble_eq_true rfl) rfl c9 ?_
      refine AWops.guard_no rfl (Nat.le_of_ble_eq_true rfl) rfl c9 ?_
      refine AWops.guard_no rfl (Nat.le_of_ble_eq_true rfl) rfl c9 ?_
      refine AWops.guard_no rfl (Nat.le_of_ble_eq_true rfl) rfl c9 ?_
      refine AWops.guard_no rfl (Nat.le_of_ble_eq_true rfl) rfl c9 ?_
      refine AWops.guard_no rfl (Nat.le_of_ble_eq_true rfl) rfl c9 ?_
      refine s_pick_no (d := (sc (.bool false))) rfl c9 rfl ?_
      refine s_move (d := (sc (.bool false))) rfl ?_
      refine AWops.guard_no rfl (Nat.le_of_ble_eq_true rfl) rfl rfl ?_
      refine AWops.guard_no rfl (Nat.le_of_ble_eq_true rfl) rfl rfl ?_
      refine AWops.guard_no rfl (Nat.le_of_ble_eq_true rfl) rfl rfl ?_
      refine AWops.guard_no rfl (Nat.le_of_ble_eq_true rfl) rfl rfl ?_
      refine AWops.guard_no rfl (Nat.le_of_ble_eq_true rfl) rfl rfl ?_
      refine s_pick_no (d := (sc (.bool false))) rfl rfl rfl ?_
      refine s_move (d := (sc (.bool false))) rfl ?_
      refine AWops.guard_no rfl (Nat.le_of_ble_eq_true rfl) rfl rfl ?_
      refine AWops.guard_no rfl (Nat.le_of_ble_eq_true rfl) rfl rfl ?_
      refine AWops.guard_no rfl (Nat.le_of_ble_eq_true rfl) rfl rfl ?_
      refine s_pick_no (d := (sc (.bool false))) rfl rfl rfl ?_
      refine s_move (d := (sc (.bool false))) rfl ?_
      refine AWops.guard_no rfl (Nat.le_of_ble_eq_true rfl) rfl rfl ?_
      refine s_pick_no (d := (sc (.bool false))) rfl rfl rfl ?_
      refine s_assign (d := (sc (.bool false))) rfl ?_
      refine AWops.nil ?_
      refine AW.ret ?_
      obtain rfl := Option.some.inj h
      exact ⟨_, rfl, (Weak.gen (kk := 0) [] [] rfl rfl (by decide) (by decide) rfl rfl rfl (le_upd (le_top _) (.t (.one .sc))) All2.nil)⟩
  · replace h := (if_neg c5).symm.trans h
    replace c5 := Bool.eq_false_iff.mpr c5
    refine AWops.guard_no rfl (Nat.le_of_ble_eq_true rfl) rfl c5 ?_
    refine AWops.guard_no rfl (Nat.le_of_ble_eq_true rfl) rfl c5 ?_
    refine AWops.guard_no rfl (Nat.le_of_ble_eq_true rfl) rfl c5 ?_
    refine AWops.guard_no rfl (Nat.le_of_ble_eq_true rfl) rfl c5 ?_
    refine AWops.guard_no rfl (Nat.le_of_ble_eq_true rfl) rfl c5 ?_
    refine AWops.guard_no rfl (Nat.le_of_ble_eq_true rfl) rfl c5 ?_
    refine AWops.guard_no rfl (Nat.le_of_ble_eq_true rfl) rfl c5 ?_
    refine s_pick_no (d := (sc (.bool false))) rfl c5 rfl ?_
    refine s_move (d := (sc (.bool false))) rfl ?_
    refine AWops.guard_no rfl (Nat.le_of_ble_eq_true rfl) rfl rfl ?_
    refine AWops.guard_no rfl (Nat.le_of_ble_eq_true rfl) rfl rfl ?_
    refine AWops.guard_no rfl (Nat.le_of_ble_eq_true rfl) rfl rfl ?_
    refine AWops.guard_no rfl (Nat.le_of_ble_eq_true rfl) rfl rfl ?_
    refine AWops.guard_no rfl (Nat.le_of_ble_eq_true rfl) rfl rfl ?_
    refine AWops.guard_no rfl (Nat.le_of_ble_eq_true rfl) rfl rfl ?_
    refine AWops.guard_no rfl (Nat.le_of_ble_eq_true rfl) rfl rfl ?_
    refine s_pick_no (d := (sc (.bool false))) rfl rfl rfl ?_
    refine s_move (d := (sc (.bool false))) rfl ?_
    refine AWops.guard_no rfl (Nat.le_of_ble_eq_true rfl) rfl rfl ?_
    refine AWops.guard_no rfl (Nat.le_of_ble_eq_true rfl) rfl rfl ?_
    refine AWops.guard_no rfl (Nat.le_of_ble_eq_true rfl) rfl rfl ?_
    refine AWops.guard_no rfl (Nat.le_of_ble_eq_true rfl) rfl rfl ?_
    refine AWops.guard_no rfl (Nat.le_of_ble_eq_true rfl) rfl rfl ?_
    refine s_pick_no (d := (sc (.bool false))) rfl rfl rfl ?_
    refine s_move (d := (sc (.bool false))) rfl ?_
    refine AWops.guard_no rfl (Nat.le_of_ble_eq_true rfl) rfl rfl ?_
    refine AWops.guard_no rfl (Nat.le_of_ble_eq_true rfl) rfl rfl ?_
    refine AWops.guard_no rfl (Nat.le_of_ble_eq_true rfl) rfl rfl ?_
    refine s_pick_no (d := (sc (.bool false))) rfl rfl rfl ?_
    refine s_move (d := (sc (.bool false))) rfl ?_
    refine AWops.guard_no rfl (Nat.le_of_ble_eq_true rfl) rfl rfl ?_
    refine s_pick_no (d := (sc (.bool false))) rfl rfl rfl ?_
    refine s_assign (d := (sc (.bool false))) rfl ?_
    refine AWops.nil ?_
    refine AW.ret ?_
    obtain rfl := Option.some.inj h
    exact ⟨_, rfl, (Weak.gen (kk := 0) [] [] rfl rfl (by decide) (by decide) rfl rfl rfl (le_upd (le_top _) (.t (.one .sc))) All2.nil)⟩
def wire_Open.f (k : Nat) (a0 : List Int) : Option wire_Reader := (slices_Clone_byte_byte.f k a0).bind fun r1 => some (⟨true, r1, 0⟩ : wire_Reader)
theorem wire_Open.meets (k : Nat) (a0 : List Int) (r : wire_Reader) (h : wire_Open.f k a0 = some r) : Meets Try.prog 32 [(D.one (C.p false (.sl a0.length (a0.flatMap e_u8))))] [] (D.one (C.ref 0 0)) [(some (AObj.cells true [(C.p true (.v (.bool r.made))), (C.p false (.sl r.b.length (r.b.flatMap e_u8))), (C.p true (.v (.int .i64 r.err)))]))] := by
  unfold wire_Open.f at h
  refine Meets.of_body (n := 7) Try.func32 rfl rfl (Nat.le_of_ble_eq_true rfl) fun x hx => ?_
  replace hx : x.k = 0 := hx
  show AW _ x _ _ ⟨7, fr0 [(D.one (C.p false (.sl a0.length (a0.flatMap e_u8))))], []⟩
  refine AW.seq ?_
  refine AW.region ?_
  refine s_assign (d := (sc (.pointer none))) rfl ?_
  refine AWops.nil ?_
  refine AW.seq ?_
  refine AW.region ?_
  refine s_move (d := (D.one (C.p false (.sl a0.length (a0.flatMap e_u8))))) rfl ?_
  obtain ⟨r1, er1, h⟩ := Option.bind_eq_some_iff.mp h
  refine s_call (ρ := []) (br := false) (H2 := [(some (AObj.cells true (rowC e_u8 r1)))]) (d := (D.one (C.own 0 0 r1.length 1))) F.ca_38 rfl rfl (All2.cons (.one .imm) All2.nil) All2.nil (by decide) rfl (slices_Clone_byte_byte.meets _ a0 r1 er1) (.inl rfl) (by first | rfl | (simp only [mergeH, mergeAt, mergeObj, renO, ren_row, List.drop_succ_cons, List.drop_zero, List.map_cons, List.map_nil, Option.map_some, Option.map_none, List.length_cons, List.length_nil, Nat.zero_add, List.append_assoc, List.cons_append, List.nil_append]; done) | (simp only [mergeH, mergeAt, mergeObj, renO, ren_row, List.drop_succ_cons, List.drop_zero, List.map_cons, List.map_nil, Option.map_some, Option.map_none, List.length_cons, List.length_nil, Nat.zero_add, List.append_assoc, List.cons_append, List.nil_append]; rfl)) rfl ?_
  refine s_build (ps := [(0, (sc (.bool true))), (1, (D.one (C.own 0 0 r1.length 1)))]) (cs := [(C.p true (.v (.bool true))), (C.own 0 0 r1.length 1), (C.p true (.v (.int .i64 0)))]) F.z_49 rfl F.so_49 rfl rfl ?_
  refine s_box (cs := [(C.p true (.v (.bool true))), (C.own 0 0 r1.length 1), (C.p true (.v (.int .i64 0)))]) rfl (List.cons_ne_nil _ _) rfl ?_
  refine s_assign (d := (D.one (C.ref 1 0))) rfl ?_
  refine AWops.nil ?_
  refine AW.ret ?_
  obtain rfl := Option.some.inj h
  exact ⟨_, rfl, (Weak.gen (kk := 0) [1] [0] rfl rfl (by decide) (by decide) rfl rfl rfl (le_upd (le_top _) (.t (.one (.ref rfl)))) (All2.cons (.cells (fun h => h) (All2.cons .sc (All2.cons (CLe.frz e_u8_len rfl rfl rfl) (All2.cons .sc All2.nil)))) All2.nil))⟩
def wire_Reader_none.f (k : Nat) (p0 : wire_Reader) : Option (Bool × wire_Reader) := some ((!p0.made), p0)
theorem wire_Reader_none.meets (k : Nat) (p0 : wire_Reader) (r : Bool × wire_Reader) (h : wire_Reader_none.f k p0 = some r) : Meets Try.prog 47 [(D.one (C.ref 0 0))] [(some (AObj.cells false [(C.p true (.v (.bool p0.made))), (C.p false (.sl p0.b.length (p0.b.flatMap e_u8))), (C.p true (.v (.int .i64 p0.err)))]))] (sc (.bool r.1)) [(some (AObj.cells false [(C.p true (.v (.bool r.2.made))), (C.p false (.sl r.2.b.length (r.2.b.flatMap e_u8))), (C.p true (.v (.int .i64 r.2.err)))]))] := by
  unfold wire_Reader_none.f at h
  refine Meets.of_body (n := 12) Try.func47 rfl rfl (Nat.le_of_ble_eq_true rfl) fun x hx => ?_
  replace hx : x.k = 1 := hx
  show AW _ x _ _ ⟨12, fr0 [(D.one (C.ref 0 0))], [(some (AObj.cells false [(C.p true (.v (.bool p0.made))), (C.p false (.sl p0.b.length (p0.b.flatMap e_u8))), (C.p true (.v (.int .i64 p0.err)))]))]⟩
  refine AW.seq ?_
  refine AW.region ?_
  refine s_assign (d := (sc (.bool false))) rfl ?_
  refine AWops.nil ?_
  refine AW.seq ?_
  refine AW.region ?_
  refine s_move (d := (D.one (C.ref 0 0))) rfl ?_
  refine s_ptrNil (b := false) F.u_47 rfl (.inl ⟨⟨_, _, rfl⟩, rfl⟩) (.inl rfl) ?_
  refine s_move (d := (sc (.bool false))) rfl ?_
  refine AWops.guard_yes rfl (Nat.le_of_ble_eq_true rfl) rfl rfl ?_
  refine s_move (d := (D.one (C.ref 0 0))) rfl ?_
  refine AWops.guard_yes rfl (Nat.le_of_ble_eq_true rfl) rfl rfl ?_
  refine s_nilCheck (d := (D.one (C.ref 0 0))) rfl (.inl ⟨_, _, rfl⟩) ?_
  refine AWops.guard_yes rfl (Nat.le_of_ble_eq_true rfl) rfl rfl ?_
  refine s_fieldRef F.fo_49_0 (by decide) rfl ?_
  refine AWops.guard_yes rfl (Nat.le_of_ble_eq_true rfl) rfl rfl ?_
  refine s_load1 (c' := (C.p true (.v (.bool p0.made)))) F.ag_4 rfl rfl ?_
  refine AWops.guard_yes rfl (Nat.le_of_ble_eq_true rfl) rfl rfl ?_
  refine s_not rfl ?_
  refine s_pick_no (d := (sc (.bool (!p0.made)))) rfl rfl rfl ?_
  refine s_assign (d := (sc (.bool (!p0.made)))) rfl ?_
  refine AWops.nil ?_
  refine AW.ret ?_
  obtain rfl := Option.some.inj h
  exact ⟨_, rfl, (Weak.gen (kk := 1) [0] [] rfl rfl (by decide) (by decide) rfl rfl rfl (le_upd (le_top _) (.t (.one .sc))) (All2.cons (.cells (fun h => h) (All2.cons .sc (All2.cons .same (All2.cons .sc All2.nil)))) All2.nil))⟩
def wire_Reader_fail.f (k : Nat) (p0 : wire_Reader) (a1 : Int) : Option wire_Reader := if (p0.err == 0) = true then (some (⟨p0.made, ([] : List Int), a1⟩ : wire_Reader)) else (some p0)
theorem wire_Reader_fail.meets (k : Nat) (p0 : wire_Reader) (a1 : Int) (r : wire_Reader) (h : wire_Reader_fail.f k p0 a1 = some r) : Meets Try.prog 46 [(D.one (C.ref 0 0)), (sc (.int .i64 a1))] [(some (AObj.cells false [(C.p true (.v (.bool p0.made))), (C.p false (.sl p0.b.length (p0.b.flatMap e_u8))), (C.p true (.v (.int .i64 p0.err)))]))] (D.tup []) [(some (AObj.cells false [(C.p true (.v (.bool r.made))), (C.p false (.sl r.b.length (r.b.flatMap e_u8))), (C.p true (.v (.int .i64 r.err)))]))] := by
  unfold wire_Reader_fail.f at h
  refine Meets.of_body (n := 16) Try.func46 rfl rfl (Nat.le_of_ble_eq_true rfl) fun x hx => ?_
  replace hx : x.k = 1 := hx
  show AW _ x _ _ ⟨16, fr0 [(D.one (C.ref 0 0)), (sc (.int .i64 a1))], [(some (AObj.cells false [(C.p true (.v (.bool p0.made))), (C.p false (.sl p0.b.length (p0.b.flatMap e_u8))), (C.p true (.v (.int .i64 p0.err)))]))]⟩
  refine AW.seq ?_
  refine AW.region ?_
  refine s_move (d := (D.one (C.ref 0 0))) rfl ?_
  refine s_nilCheck (d := (D.one (C.ref 0 0))) rfl (.inl ⟨_, _, rfl⟩) ?_
  refine s_fieldRef F.fo_49_2 (by decide) rfl ?_
  refine s_load1 (c' := (C.p true (.v (.int .i64 p0.err)))) F.ag_42 rfl rfl ?_
  refine s_binI (v := (.bool (p0.err == 0))) rfl rfl rfl ?_
  refine AWops.nil ?_
  by_cases c1 : (p0.err == 0) = true
  · replace h := (if_pos c1).symm.trans h
    refine AW.cond_yes rfl c1 ?_
    refine AW.region ?_
    refine s_move (d := (D.one (C.ref 0 0))) rfl ?_
    refine s_move (d := (D.one (C.ref 0 0))) rfl ?_
    refine s_move (d := (sc (.int .i64 a1))) rfl ?_
    refine s_nilCheck (d := (D.one (C.ref 0 0))) rfl (.inl ⟨_, _, rfl⟩) ?_
    refine s_fieldRef F.fo_49_2 (by decide) rfl ?_
    refine s_store (cs' := [(C.p true (.v (.bool p0.made))), (C.p false (.sl p0.b.length (p0.b.flatMap e_u8))), (C.p true (.v (.int .i64 a1)))]) rfl rfl rfl (List.cons_ne_nil _ _) rfl F.sz_42 (Nat.le_of_ble_eq_true rfl) rfl ?_
    refine s_nilCheck (d := (D.one (C.ref 0 0))) rfl (.inl ⟨_, _, rfl⟩) ?_
    refine s_fieldRef F.fo_49_1 (by decide) rfl ?_
    refine s_store (cs' := [(C.p true (.v (.bool p0.made))), (C.p true (.v (.slice none 0 0))), (C.p true (.v (.int .i64 a1)))]) rfl rfl rfl (List.cons_ne_nil _ _) rfl F.sz_22 (Nat.le_of_ble_eq_true rfl) rfl ?_
    refine AWops.nil ?_
    obtain rfl := Option.some.inj h
    exact ⟨_, rfl, (Weak.gen (kk := 1) [0] [] rfl rfl (by decide) (by decide) rfl rfl rfl (le_upd (le_top _) (DLe.tup All2.nil)) (All2.cons (.cells (fun h => h) (All2.cons .sc (All2.cons .nil (All2.cons .sc All2.nil)))) All2.nil))⟩
  · replace h := (if_neg c1).symm.trans h
    replace c1 := Bool.eq_false_iff.mpr c1
    refine AW.cond_no rfl c1 ?_
    refine AW.skip ?_
    obtain rfl := Option.some.inj h
    exact ⟨_, rfl, (Weak.gen (kk := 1) [0] [] rfl rfl (by decide) (by decide) rfl rfl rfl (le_upd (le_top _) (DLe.tup All2.nil)) (All2.cons (.cells (fun h => h) (All2.cons .sc (All2.cons .same (All2.cons .sc All2.nil)))) All2.nil))⟩
def wire_Reader_byte.f (k : Nat) (p0 : wire_Reader) : Option (Int × Bool × wire_Reader) := (wire_Reader_none.f k p0).bind fun r1 => if r1.1 = true then (some (0, false, r1.2)) else (if (r1.2.err != 0) = true then (some (0, false, r1.2)) else (if ((r1.2.b.length : Int) == 0) = true then ((wire_Reader_fail.f k r1.2 3).bind fun r5 => some (0, false, r5)) else ((rd r1.2.b 0).bind fun v6 => if (decide (0 ≤ 1 ∧ 1 ≤ (r1.2.b.length : Int) ∧ (r1.2.b.length : Int) ≤ (r1.2.b.length : Int))) = true then (some (v6, true, (⟨r1.2.made, sub r1.2.b 1 (r1.2.b.length : Int), r1.2.err⟩ : wire_Reader))) else none)))
theorem wire_Reader_byte.meets (k : Nat) (p0 : wire_Reader) (r : Int × Bool × wire_Reader) (h : wire_Reader_byte.f k p0 = some r) : Meets Try.prog 45 [(D.one (C.ref 0 0))] [(some (AObj.cells false [(C.p true (.v (.bool p0.made))), (C.p false (.sl p0.b.length (p0.b.flatMap e_u8))), (C.p true (.v (.int .i64 p0.err)))]))] (D.tup [(sc (.int .u8 r.1)), (sc (.bool r.2.1))]) [(some (AObj.cells false [(C.p true (.v (.bool r.2.2.made))), (C.p false (.sl r.2.2.b.length (r.2.2.b.flatMap e_u8))), (C.p true (.v (.int .i64 r.2.2.err)))]))] := by
  unfold wire_Reader_byte.f at h
  refine Meets.of_body (n := 37) Try.func45 rfl rfl (Nat.le_of_ble_eq_true rfl) fun x hx => ?_
  replace hx : x.k = 1 := hx
  show AW _ x _ _ ⟨37, fr0 [(D.one (C.ref 0 0))], [(some (AObj.cells false [(C.p true (.v (.bool p0.made))), (C.p false (.sl p0.b.length (p0.b.flatMap e_u8))), (C.p true (.v (.int .i64 p0.err)))]))]⟩
  refine AW.seq ?_
  refine AW.region ?_
  refine s_assign (d := (sc (.int .u8 0))) rfl ?_
  refine s_assign (d := (sc (.bool false))) rfl ?_
  refine AWops.nil ?_
  refine AW.seq ?_
  refine AW.seq ?_
  refine AW.region ?_
  refine s_move (d := (D.one (C.ref 0 0))) rfl ?_
  obtain ⟨r1, er1, h⟩ := Option.bind_eq_some_iff.mp h
  refine s_call (ρ := [0]) (br := false) (H2 := [(some (AObj.cells false [(C.p true (.v (.bool r1.2.made))), (C.p false (.sl r1.2.b.length (r1.2.b.flatMap e_u8))), (C.p true (.v (.int .i64 r1.2.err)))]))]) (d := (sc (.bool r1.1))) F.ca_47 rfl rfl (All2.cons (.one (.ref rfl)) All2.nil) (All2.cons (.cells (All2.cons .sc (All2.cons .imm (All2.cons .sc All2.nil)))) All2.nil) (by decide) rfl (wire_Reader_none.meets _ p0 r1 er1) (.inl rfl) rfl rfl ?_
  refine s_move (d := (sc (.bool r1.1))) rfl ?_
  by_cases c2 : r1.1 = true
  · replace h := (if_pos c2).symm.trans h
    refine AWops.guard_no rfl (Nat.le_of_ble_eq_true rfl) rfl c2 ?_
    refine AWops.guard_no rfl (Nat.le_of_ble_eq_true rfl) rfl c2 ?_
    refine AWops.guard_no rfl (Nat.le_of_ble_eq_true rfl) rfl c2 ?_
    refine AWops.guard_no rfl (Nat.le_of_ble_eq_true rfl) rfl c2 ?_
    refine AWops.guard_no rfl (Nat.le_of_ble_eq_true rfl) rfl c2 ?_
    refine s_pick_yes (d := (sc (.bool true))) rfl c2 rfl ?_
    refine AWops.nil ?_
    refine AW.cond_yes rfl rfl ?_
    refine AW.seq ?_
    refine AW.region ?_
    refine s_assign (d := (sc (.int .u8 0))) rfl ?_
    refine s_assign (d := (sc (.bool false))) rfl ?_
    refine AWops.nil ?_
    refine AW.ret ?_
    obtain rfl := Option.some.inj h
    exact ⟨_, rfl, (Weak.gen (kk := 1) [0] [] rfl rfl (by decide) (by decide) rfl rfl rfl (le_upd (le_top _) (DLe.tup (All2.cons (TLe.one .sc) (All2.cons (TLe.one .sc) All2.nil)))) (All2.cons (.cells (fun h => h) (All2.cons .sc (All2.cons .same (All2.cons .sc All2.nil)))) All2.nil))⟩
  · replace h := (if_neg c2).symm.trans h
    replace c2 := Bool.eq_false_iff.mpr c2
    refine AWops.guard_yes rfl (Nat.le_of_ble_eq_true rfl) rfl c2 ?_
    refine s_move (d := (D.one (C.ref 0 0))) rfl ?_
    refine AWops.guard_yes rfl (Nat.le_of_ble_eq_true rfl) rfl c2 ?_
    refine s_nilCheck (d := (D.one (C.ref 0 0))) rfl (.inl ⟨_, _, rfl⟩) ?_
    refine AWops.guard_yes rfl (Nat.le_of_ble_eq_true rfl) rfl c2 ?_
    refine s_fieldRef F.fo_49_2 (by decide) rfl ?_
    refine AWops.guard_yes rfl (Nat.le_of_ble_eq_true rfl) rfl c2 ?_
    refine s_load1 (c' := (C.p true (.v (.int .i64 r1.2.err)))) F.ag_42 rfl rfl ?_
    refine AWops.guard_yes rfl (Nat.le_of_ble_eq_true rfl) rfl c2 ?_
    refine s_binI (v := (.bool (r1.2.err != 0))) rfl rfl rfl ?_
    refine s_pick_no (d := (sc (.bool (r1.2.err != 0)))) rfl c2 rfl ?_
    refine AWops.nil ?_
    by_cases c3 : (r1.2.err != 0) = true
    · replace h := (if_pos c3).symm.trans h
      refine AW.cond_yes rfl c3 ?_
      refine AW.seq ?_
      refine AW.region ?_
      refine s_assign (d := (sc (.int .u8 0))) rfl ?_
      refine s_assign (d := (sc (.bool false))) rfl ?_
      refine AWops.nil ?_
      refine AW.ret ?_
      obtain rfl := Option.some.inj h
      exact ⟨_, rfl, (Weak.gen (kk := 1) [0] [] rfl rfl (by decide) (by decide) rfl rfl rfl (le_upd (le_top _) (DLe.tup (All2.cons (TLe.one .sc) (All2.cons (TLe.one .sc) All2.nil)))) (All2.cons (.cells (fun h => h) (All2.cons .sc (All2.cons .same (All2.cons .sc All2.nil)))) All2.nil))⟩
    · replace h := (if_neg c3).symm.trans h
      replace c3 := Bool.eq_false_iff.mpr c3
      refine AW.cond_no rfl c3 ?_
      refine AW.skip ?_
      refine AW.seq ?_
      refine AW.seq ?_
      refine AW.region ?_
      refine s_move (d := (D.one (C.ref 0 0))) rfl ?_
      refine s_nilCheck (d := (D.one (C.ref 0 0))) rfl (.inl ⟨_, _, rfl⟩) ?_
      refine s_fieldRef F.fo_49_1 (by decide) rfl ?_
      refine s_load1 (c' := (C.p false (.sl r1.2.b.length (r1.2.b.flatMap e_u8)))) F.ag_22 rfl rfl ?_
      refine s_len (n := r1.2.b.length) F.u_22 rfl (.inr ⟨(fun _ _ h => by cases h), ⟨_, rfl⟩⟩) ?_
      refine s_binI (v := (.bool ((r1.2.b.length : Int) == 0))) rfl rfl rfl ?_
      refine AWops.nil ?_
      by_cases c4 : ((r1.2.b.length : Int) == 0) = true
      · replace h := (if_pos c4).symm.trans h
        refine AW.cond_yes rfl c4 ?_
        refine AW.seq ?_
        refine AW.region ?_
        refine s_move (d := (D.one (C.ref 0 0))) rfl ?_
        obtain ⟨r5, er5, h⟩ := Option.bind_eq_some_iff.mp h
        refine s_call (ρ := [0]) (br := false) (H2 := [(some (AObj.cells false [(C.p true (.v (.bool r5.made))), (C.p false (.sl r5.b.length (r5.b.flatMap e_u8))), (C.p true (.v (.int .i64 r5.err)))]))]) (d := (D.tup [])) F.ca_46 rfl rfl (All2.cons (.one (.ref rfl)) (All2.cons (.one .sc) All2.nil)) (All2.cons (.cells (All2.cons .sc (All2.cons .imm (All2.cons .sc All2.nil)))) All2.nil) (by decide) rfl (wire_Reader_fail.meets _ r1.2 3 r5 er5) (.inl rfl) rfl rfl ?_
        refine AWops.nil ?_
        refine AW.seq ?_
        refine AW.region ?_
        refine s_assign (d := (sc (.int .u8 0))) rfl ?_
        refine s_assign (d := (sc (.bool false))) rfl ?_
        refine AWops.nil ?_
        refine AW.ret ?_
        obtain rfl := Option.some.inj h
        exact ⟨_, rfl, (Weak.gen (kk := 1) [0] [] rfl rfl (by decide) (by decide) rfl rfl rfl (le_upd (le_top _) (DLe.tup (All2.cons (TLe.one .sc) (All2.cons (TLe.one .sc) All2.nil)))) (All2.cons (.cells (fun h => h) (All2.cons .sc (All2.cons .same (All2.cons .sc All2.nil)))) All2.nil))⟩
      · replace h := (if_neg c4).symm.trans h
        replace c4 := Bool.eq_false_iff.mpr c4
        refine AW.cond_no rfl c4 ?_
        refine AW.skip ?_
        refine AW.seq ?_
        refine AW.region ?_
        refine s_move (d := (D.one (C.ref 0 0))) rfl ?_
        refine s_nilCheck (d := (D.one (C.ref 0 0))) rfl (.inl ⟨_, _, rfl⟩) ?_
        refine s_fieldRef F.fo_49_1 (by decide) rfl ?_
        refine s_load1 (c' := (C.p false (.sl r1.2.b.length (r1.2.b.flatMap e_u8)))) F.ag_22 rfl rfl ?_
        obtain ⟨v6, ev6, h⟩ := Option.bind_eq_some_iff.mp h
        obtain ⟨pv6, qv6, gv6⟩ := rd_some ev6
        refine s_indexImm (ps := [P.v (.int .u8 v6)]) F.u_22 F.sz_5 rfl rfl pv6 qv6 (flat_at e_u8_len gv6 (e_u8_eq v6)) ?_
        refine s_load1 (c' := (C.p true (.v (.int .u8 v6)))) F.ag_5 rfl rfl ?_
        refine s_assign (d := (sc (.int .u8 v6))) rfl ?_
        refine AWops.nil ?_
        refine AW.seq ?_
        refine AW.region ?_
        refine s_move (d := (D.one (C.ref 0 0))) rfl ?_
        refine s_move (d := (D.one (C.ref 0 0))) rfl ?_
        refine s_nilCheck (d := (D.one (C.ref 0 0))) rfl (.inl ⟨_, _, rfl⟩) ?_
        refine s_fieldRef F.fo_49_1 (by decide) rfl ?_
        refine s_load1 (c' := (C.p false (.sl r1.2.b.length (r1.2.b.flatMap e_u8)))) F.ag_22 rfl rfl ?_
        by_cases c7 : (decide (0 ≤ 1 ∧ 1 ≤ (r1.2.b.length : Int) ∧ (r1.2.b.length : Int) ≤ (r1.2.b.length : Int))) = true
        · replace h := (if_pos c7).symm.trans h
          have dc7 := of_decide_eq_true c7
          refine t_sliceImm (a := 1) (b := (r1.2.b.length : Int)) F.u_22 F.sz_5 e_u8_len rfl (by omega) (by omega) (by omega) (.yes rfl (by omega) rfl) .no ?_
          refine s_nilCheck (d := (D.one (C.ref 0 0))) rfl (.inl ⟨_, _, rfl⟩) ?_
          refine s_fieldRef F.fo_49_1 (by decide) rfl ?_
          refine s_store (cs' := [(C.p true (.v (.bool r1.2.made))), (C.p false (.sl (sub r1.2.b 1 (r1.2.b.length : Int)).length ((sub r1.2.b 1 (r1.2.b.length : Int)).flatMap e_u8))), (C.p true (.v (.int .i64 r1.2.err)))]) rfl rfl rfl (List.cons_ne_nil _ _) rfl F.sz_22 (Nat.le_of_ble_eq_true rfl) rfl ?_
          refine AWops.nil ?_
          refine AW.seq ?_
          refine AW.region ?_
          refine s_move (d := (sc (.int .u8 v6))) rfl ?_
          refine s_assign (d := (sc (.int .u8 v6))) rfl ?_
          refine s_assign (d := (sc (.bool true))) rfl ?_
          refine AWops.nil ?_
          refine AW.ret ?_
          obtain rfl := Option.some.inj h
          exact ⟨_, rfl, (Weak.gen (kk := 1) [0] [] rfl rfl (by decide) (by decide) rfl rfl rfl (le_upd (le_top _) (DLe.tup (All2.cons (TLe.one .sc) (All2.cons (TLe.one .sc) All2.nil)))) (All2.cons (.cells (fun h => h) (All2.cons .sc (All2.cons .same (All2.cons .sc All2.nil)))) All2.nil))⟩
        · replace h := (if_neg c7).symm.trans h
          cases h
mutual
def wire_Reader_Int.j1 : Nat → Bool → Int → Int → Int → Int → (Int × Bool × wire_Reader) → Option (Int × wire_Reader)
  | 0, _, _, _, _, _, _ => none
  | k + 1, x8, a1, a2, x4, x5, r6 => if x8 = true then ((wire_Reader_fail.f k r6.2.2 5).bind fun r10 => some (0, r10)) else (if (decide (0 ≤ (IntKind.i64.wrap (7 * x5)))) = true then (if (decide (r6.1 < 128)) = true then (if (decide ((Go.bits .xor .i64 (IntKind.i64.wrap (Int.fdiv (Go.bits .or .u64 x4 (IntKind.u64.wrap ((IntKind.u64.wrap (Go.bits .and .u8 r6.1 127)) * 2 ^ (min (IntKind.i64.wrap (7 * x5)).toNat 64)))) (2 ^ 1))) (IntKind.i64.wrap (0 - (IntKind.i64.wrap (Go.bits .and .u64 (Go.bits .or .u64 x4 (IntKind.u64.wrap ((IntKind.u64.wrap (Go.bits .and .u8 r6.1 127)) * 2 ^ (min (IntKind.i64.wrap (7 * x5)).toNat 64)))) 1))))) < a1)) = true then ((wire_Reader_fail.f k r6.2.2 4).bind fun r14 => some (0, r14)) else (if (decide ((Go.bits .xor .i64 (IntKind.i64.wrap (Int.fdiv (Go.bits .or .u64 x4 (IntKind.u64.wrap ((IntKind.u64.wrap (Go.bits .and .u8 r6.1 127)) * 2 ^ (min (IntKind.i64.wrap (7 * x5)).toNat 64)))) (2 ^ 1))) (IntKind.i64.wrap (0 - (IntKind.i64.wrap (Go.bits .and .u64 (Go.bits .or .u64 x4 (IntKind.u64.wrap ((IntKind.u64.wrap (Go.bits .and .u8 r6.1 127)) * 2 ^ (min (IntKind.i64.wrap (7 * x5)).toNat 64)))) 1))))) > a2)) = true then ((wire_Reader_fail.f k r6.2.2 4).bind fun r16 => some (0, r16)) else (some (Go.bits .xor .i64 (IntKind.i64.wrap (Int.fdiv (Go.bits .or .u64 x4 (IntKind.u64.wrap ((IntKind.u64.wrap (Go.bits .and .u8 r6.1 127)) * 2 ^ (min (IntKind.i64.wrap (7 * x5)).toNat 64)))) (2 ^ 1))) (IntKind.i64.wrap (0 - (IntKind.i64.wrap (Go.bits .and .u64 (Go.bits .or .u64 x4 (IntKind.u64.wrap ((IntKind.u64.wrap (Go.bits .and .u8 r6.1 127)) * 2 ^ (min (IntKind.i64.wrap (7 * x5)).toNat 64)))) 1)))), r6.2.2)))) else (wire_Reader_Int.l0 k r6.2.2.made r6.2.2.b r6.2.2.err (Go.bits .or .u64 x4 (IntKind.u64.wrap ((IntKind.u64.wrap (Go.bits .and .u8 r6.1 127)) * 2 ^ (min (IntKind.i64.wrap (7 * x5)).toNat 64)))) (IntKind.i64.wrap (x5 + 1)) a1 a2)) else none)
def wire_Reader_Int.l0 : Nat → Bool → (List Int) → Int → Int → Int → Int → Int → Option (Int × wire_Reader)
  | 0, _, _, _, _, _, _, _ => none
  | k + 1, x1, x2, x3, x4, x5, a1, a2 => (wire_Reader_byte.f k (⟨x1, x2, x3⟩ : wire_Reader)).bind fun r6 => if r6.2.1 = true then (if (decide (x5 > 0)) = true then (if (r6.1 == 0) = true then (wire_Reader_Int.j1 k (r6.1 == 0) a1 a2 x4 x5 r6) else (if (x5 == 9) = true then (wire_Reader_Int.j1 k (decide (r6.1 > 1)) a1 a2 x4 x5 r6) else (wire_Reader_Int.j1 k false a1 a2 x4 x5 r6))) else (if (x5 == 9) = true then (wire_Reader_Int.j1 k (decide (r6.1 > 1)) a1 a2 x4 x5 r6) else (wire_Reader_Int.j1 k false a1 a2 x4 x5 r6))) else (some (0, r6.2.2))
end
def wire_Reader_Int.f (k : Nat) (p0 : wire_Reader) (a1 : Int) (a2 : Int) : Option (Int × wire_Reader) := wire_Reader_Int.l0 k p0.made p0.b p0.err 0 0 a1 a2
theorem wire_Reader_Int.meets (k : Nat) (p0 : wire_Reader) (a1 : Int) (a2 : Int) (r : Int × wire_Reader) (h : wire_Reader_Int.f k p0 a1 a2 = some r) : Meets Try.prog 26 [(D.one (C.ref 0 0)), (sc (.int .i64 a1)), (sc (.int .i64 a2))] [(some (AObj.cells false [(C.p true (.v (.bool p0.made))), (C.p false (.sl p0.b.length (p0.b.flatMap e_u8))), (C.p true (.v (.int .i64 p0.err)))]))] (sc (.int .i64 r.1)) [(some (AObj.cells false [(C.p true (.v (.bool r.2.made))), (C.p false (.sl r.2.b.length (r.2.b.flatMap e_u8))), (C.p true (.v (.int .i64 r.2.err)))]))] := by
  unfold wire_Reader_Int.f at h
  refine Meets.of_body (n := 66) Try.func26 rfl rfl (Nat.le_of_ble_eq_true rfl) fun x hx => ?_
  replace hx : x.k = 1 := hx
  show AW _ x _ _ ⟨66, fr0 [(D.one (C.ref 0 0)), (sc (.int .i64 a1)), (sc (.int .i64 a2))], [(some (AObj.cells false [(C.p true (.v (.bool p0.made))), (C.p false (.sl p0.b.length (p0.b.flatMap e_u8))), (C.p true (.v (.int .i64 p0.err)))]))]⟩
  refine AW.seq ?_
  refine AW.region ?_
  refine s_assign (d := (sc (.int .i64 0))) rfl ?_
  refine AWops.nil ?_
  refine AW.seq ?_
  refine AW.region ?_
  refine s_assign (d := (sc (.int .u64 0))) rfl ?_
  refine AWops.nil ?_
  refine AW.seq ?_
  refine AW.seq ?_
  refine AW.region ?_
  refine s_assign (d := (sc (.int .i64 0))) rfl ?_
  refine AWops.nil ?_
  refine AW.block ?_
  refine AW.loopw (st0 := ⟨66, (upd 66 (upd 66 (upd 66 (upd 66 (upd 66 topF 0 (D.one (C.ref 0 0))) 1 (sc (.int .i64 a1))) 2 (sc (.int .i64 a2))) 7 (sc (.int .u64 0))) 8 (sc (.int .i64 0))), [(some (AObj.cells false [(C.p true (.v (.bool p0.made))), (C.p false (.sl p0.b.length (p0.b.flatMap e_u8))), (C.p true (.v (.int .i64 p0.err)))]))]⟩) (fun k st => k ≤ k ∧ ∃ (x1 : Bool) (x2 : List Int) (x3 : Int) (x4 : Int) (x5 : Int), wire_Reader_Int.l0 k x1 x2 x3 x4 x5 a1 a2 = some r ∧ st = ⟨66, (upd 66 (upd 66 (upd 66 (upd 66 (upd 66 topF 0 (D.one (C.ref 0 0))) 1 (sc (.int .i64 a1))) 2 (sc (.int .i64 a2))) 7 (sc (.int .u64 x4))) 8 (sc (.int .i64 x5))), [(some (AObj.cells false [(C.p true (.v (.bool x1))), (C.p false (.sl x2.length (x2.flatMap e_u8))), (C.p true (.v (.int .i64 x3)))]))]⟩) (k := k) (Weak.gen (kk := 1) [0] [] hx rfl (by decide) (by decide) rfl rfl rfl (le_upd (le_upd (le_upd (le_upd (le_upd (le_top _) (.t (.one (.ref rfl)))) (.t (.one .sc))) (.t (.one .sc))) (.t (.one .sc))) (.t (.one .sc))) (All2.cons (.cells (fun h => h) (All2.cons .sc (All2.cons .same (All2.cons .sc All2.nil)))) All2.nil)) ⟨Nat.le_refl _, p0.made, p0.b, p0.err, 0, 0, h, rfl⟩ ?_
  rintro ql0 st ⟨hkl0, x1, x2, x3, x4, x5, h, rfl⟩
  cases ql0 with
  | zero => exact absurd h (by simp [wire_Reader_Int.l0])
  | succ ql0 =>
    replace h := (wire_Reader_Int.l0.eq_2 _ _ _ _ _ _ _ _).symm.trans h
    refine AW.seq ?_
    refine AW.block ?_
    refine AW.seq ?_
    refine AW.region ?_
    refine s_move (d := (D.one (C.ref 0 0))) rfl ?_
    obtain ⟨r6, er6, h⟩ := Option.bind_eq_some_iff.mp h
    refine s_call (ρ := [0]) (br := false) (H2 := [(some (AObj.cells false [(C.p true (.v (.bool r6.2.2.made))), (C.p false (.sl r6.2.2.b.length (r6.2.2.b.flatMap e_u8))), (C.p true (.v (.int .i64 r6.2.2.err)))]))]) (d := (D.tup [(sc (.int .u8 r6.1)), (sc (.bool r6.2.1))])) F.ca_45 rfl rfl (All2.cons (.one (.ref rfl)) All2.nil) (All2.cons (.cells (All2.cons .sc (All2.cons .imm (All2.cons .sc All2.nil)))) All2.nil) (by decide) rfl (wire_Reader_byte.meets _ (⟨x1, x2, x3⟩ : wire_Reader) r6 er6) (.inl rfl) rfl rfl ?_
    refine s_move (d := (D.tup [(sc (.int .u8 r6.1)), (sc (.bool r6.2.1))])) rfl ?_
    refine s_extract (d := (sc (.int .u8 r6.1))) rfl rfl ?_
    refine s_extract (d := (sc (.bool r6.2.1))) rfl rfl ?_
    refine s_assign (d := (sc (.int .u8 r6.1))) rfl ?_
    refine s_assign (d := (sc (.bool r6.2.1))) rfl ?_
    refine AWops.nil ?_
    refine AW.seq ?_
    refine AW.block ?_
    refine AW.seq ?_
    refine AW.region ?_
    refine s_move (d := (sc (.bool r6.2.1))) rfl ?_
    refine s_not rfl ?_
    refine s_assign (d := (sc (.bool (!r6.2.1)))) rfl ?_
    refine AWops.nil ?_
    by_cases c7 : r6.2.1 = true
    · replace h := (if_pos c7).symm.trans h
      refine AW.cond_no rfl (by rw [c7] <;> rfl) ?_
      refine AW.seqJ (fun st => ∃ (x8 : Bool), wire_Reader_Int.j1 ql0 x8 a1 a2 x4 x5 r6 = some r ∧ st = ⟨66, (upd 66 (upd 66 (upd 66 (upd 66 (upd 66 (upd 66 (upd 66 topF 0 (D.one (C.ref 0 0))) 1 (sc (.int .i64 a1))) 2 (sc (.int .i64 a2))) 7 (sc (.int .u64 x4))) 8 (sc (.int .i64 x5))) 9 (sc (.int .u8 r6.1))) 22 (sc (.bool x8))), [(some (AObj.cells false [(C.p true (.v (.bool r6.2.2.made))), (C.p false (.sl r6.2.2.b.length (r6.2.2.b.flatMap e_u8))), (C.p true (.v (.int .i64 r6.2.2.err)))]))]⟩) ?_ ?_
      · refine AW.seq ?_
        refine AW.region ?_
        refine s_move (d := (sc (.int .i64 x5))) rfl ?_
        refine s_binI (v := (.bool (decide (x5 > 0)))) rfl rfl rfl ?_
        refine s_move (d := (sc (.bool (decide (x5 > 0))))) rfl ?_
        by_cases c17 : (decide (x5 > 0)) = true
        · replace h := (if_pos c17).symm.trans h
          refine AWops.guard_yes rfl (Nat.le_of_ble_eq_true rfl) rfl c17 ?_
          refine s_move (d := (sc (.int .u8 r6.1))) rfl ?_
          refine AWops.guard_yes rfl (Nat.le_of_ble_eq_true rfl) rfl c17 ?_
          refine s_binI (v := (.bool (r6.1 == 0))) rfl rfl rfl ?_
          refine s_pick_yes (d := (sc (.bool (r6.1 == 0)))) rfl c17 rfl ?_
          refine s_assign (d := (sc (.bool (r6.1 == 0)))) rfl ?_
          refine AWops.nil ?_
          by_cases c18 : (r6.1 == 0) = true
          · replace h := (if_pos c18).symm.trans h
            refine AW.cond_yes rfl c18 ?_
            refine AW.skip ?_
            exact ⟨⟨66, (upd 66 (upd 66 (upd 66 (upd 66 (upd 66 (upd 66 (upd 66 topF 0 (D.one (C.ref 0 0))) 1 (sc (.int .i64 a1))) 2 (sc (.int .i64 a2))) 7 (sc (.int .u64 x4))) 8 (sc (.int .i64 x5))) 9 (sc (.int .u8 r6.1))) 22 (sc (.bool (r6.1 == 0)))), [(some (AObj.cells false [(C.p true (.v (.bool r6.2.2.made))), (C.p false (.sl r6.2.2.b.length (r6.2.2.b.flatMap e_u8))), (C.p true (.v (.int .i64 r6.2.2.err)))]))]⟩, (Weak.gen (kk := 1) [0] [] hx rfl (by decide) (by decide) rfl rfl rfl (le_upd (le_upd (le_upd (le_upd (le_upd (le_upd (le_upd (le_top _) (.t (.one (.ref rfl)))) (.t (.one .sc))) (.t (.one .sc))) (.t (.one .sc))) (.t (.one .sc))) (.t (.one .sc))) (.t (.one .sc))) (All2.cons (.cells (fun h => h) (All2.cons .sc (All2.cons .same (All2.cons .sc All2.nil)))) All2.nil)), (r6.1 == 0), h, rfl⟩
          · replace h := (if_neg c18).symm.trans h
            replace c18 := Bool.eq_false_iff.mpr c18
            refine AW.cond_no rfl c18 ?_
            refine AW.region ?_
            refine s_move (d := (sc (.int .i64 x5))) rfl ?_
            refine s_binI (v := (.bool (x5 == 9))) rfl rfl rfl ?_
            refine s_move (d := (sc (.bool (x5 == 9)))) rfl ?_
            by_cases c19 : (x5 == 9) = true
            · replace h := (if_pos c19).symm.trans h
              refine AWops.guard_yes rfl (Nat.le_of_ble_eq_true rfl) rfl c19 ?_
              refine s_move (d := (sc (.int .u8 r6.1))) rfl ?_
              refine AWops.guard_yes rfl (Nat.le_of_ble_eq_true rfl) rfl c19 ?_
              refine s_binI (v := (.bool (decide (r6.1 > 1)))) rfl rfl rfl ?_
              refine s_pick_yes (d := (sc (.bool (decide (r6.1 > 1))))) rfl c19 rfl ?_
              refine s_assign (d := (sc (.bool (decide (r6.1 > 1))))) rfl ?_
              refine AWops.nil ?_
              exact ⟨⟨66, (upd 66 (upd 66 (upd 66 (upd 66 (upd 66 (upd 66 (upd 66 topF 0 (D.one (C.ref 0 0))) 1 (sc (.int .i64 a1))) 2 (sc (.int .i64 a2))) 7 (sc (.int .u64 x4))) 8 (sc (.int .i64 x5))) 9 (sc (.int .u8 r6.1))) 22 (sc (.bool (decide (r6.1 > 1))))), [(some (AObj.cells false [(C.p true (.v (.bool r6.2.2.made))), (C.p false (.sl r6.2.2.b.length (r6.2.2.b.flatMap e_u8))), (C.p true (.v (.int .i64 r6.2.2.err)))]))]⟩, (Weak.gen (kk := 1) [0] [] hx rfl (by decide) (by decide) rfl rfl rfl (le_upd (le_upd (le_upd (le_upd (le_upd (le_upd (le_upd (le_top _) (.t (.one (.ref rfl)))) (.t (.one .sc))) (.t (.one .sc))) (.t (.one .sc))) (.t (.one .sc))) (.t (.one .sc))) (.t (.one .sc))) (All2.cons (.cells (fun h => h) (All2.cons .sc (All2.cons .same (All2.cons .sc All2.nil)))) All2.nil)), decide (r6.1 > 1), h, rfl⟩
            · replace h := (if_neg c19).symm.trans h
              replace c19 := Bool.eq_false_iff.mpr c19
              refine AWops.guard_no rfl (Nat.le_of_ble_eq_true rfl) rfl c19 ?_
              refine AWops.guard_no rfl (Nat.le_of_ble_eq_true rfl) rfl c19 ?_
              refine s_pick_no (d := (sc (.bool false))) rfl c19 rfl ?_
              refine s_assign (d := (sc (.bool false))) rfl ?_
              refine AWops.nil ?_
              exact ⟨⟨66, (upd 66 (upd 66 (upd 66 (upd 66 (upd 66 (upd 66 (upd 66 topF 0 (D.one (C.ref 0 0))) 1 (sc (.int .i64 a1))) 2 (sc (.int .i64 a2))) 7 (sc (.int .u64 x4))) 8 (sc (.int .i64 x5))) 9 (sc (.int .u8 r6.1))) 22 (sc (.bool false))), [(some (AObj.cells false [(C.p true (.v (.bool r6.2.2.made))), (C.p false (.sl r6.2.2.b.length (r6.2.2.b.flatMap e_u8))), (C.p true (.v (.int .i64 r6.2.2.err)))]))]⟩, (Weak.gen (kk := 1) [0] [] hx rfl (by decide) (by decide) rfl rfl rfl (le_upd (le_upd (le_upd (le_upd (le_upd (le_upd (le_upd (le_top _) (.t (.one (.ref rfl)))) (.t (.one .sc))) (.t (.one .sc))) (.t (.one .sc))) (.t (.one .sc))) (.t (.one .sc))) (.t (.one .sc))) (All2.cons (.cells (fun h => h) (All2.cons .sc (All2.cons .same (All2.cons .sc All2.nil)))) All2.nil)), false, h, rfl⟩
        · replace h := (if_neg c17).symm.trans h
          replace c17 := Bool.eq_false_iff.mpr c17
          refine AWops.guard_no rfl (Nat.le_of_ble_eq_true rfl) rfl c17 ?_
          refine AWops.guard_no rfl (Nat.le_of_ble_eq_true rfl) rfl c17 ?_
          refine s_pick_no (d := (sc (.bool false))) rfl c17 rfl ?_
          refine s_assign (d := (sc (.bool false))) rfl ?_
          refine AWops.nil ?_
          refine AW.cond_no rfl rfl ?_
          refine AW.region ?_
          refine s_move (d := (sc (.int .i64 x5))) rfl ?_
          refine s_binI (v := (.bool (x5 == 9))) rfl rfl rfl ?_
          refine s_move (d := (sc (.bool (x5 == 9)))) rfl ?_
          by_cases c20 : (x5 == 9) = true
          · replace h := (if_pos c20).symm.trans h
            refine AWops.guard_yes rfl (Nat.le_of_ble_eq_true rfl) rfl c20 ?_
            refine s_move (d := (sc (.int .u8 r6.1))) rfl ?_
            refine AWops.guard_yes rfl (Nat.le_of_ble_eq_true rfl) rfl c20 ?_
            refine s_binI (v := (.bool (decide (r6.1 > 1)))) rfl rfl rfl ?_
            refine s_pick_yes (d := (sc (.bool (decide (r6.1 > 1))))) rfl c20 rfl ?_
            refine s_assign (d := (sc (.bool (decide (r6.1 > 1))))) rfl ?_
            refine AWops.nil ?_
            exact ⟨⟨66, (upd 66 (upd 66 (upd 66 (upd 66 (upd 66 (upd 66 (upd 66 topF 0 (D.one (C.ref 0 0))) 1 (sc (.int .i64 a1))) 2 (sc (.int .i64 a2))) 7 (sc (.int .u64 x4))) 8 (sc (.int .i64 x5))) 9 (sc (.int .u8 r6.1))) 22 (sc (.bool (decide (r6.1 > 1))))), [(some (AObj.cells false [(C.p true (.v (.bool r6.2.2.made))), (C.p false (.sl r6.2.2.b.length (r6.2.2.b.flatMap e_u8))), (C.p true (.v (.int .i64 r6.2.2.err)))]))]⟩, (Weak.gen (kk := 1) [0] [] hx rfl (by decide) (by decide) rfl rfl rfl (le_upd (le_upd (le_upd (le_upd (le_upd (le_upd (le_upd (le_top _) (.t (.one (.ref rfl)))) (.t (.one .sc))) (.t (.one .sc))) (.t (.one .sc))) (.t (.one .sc))) (.t (.one .sc))) (.t (.one .sc))) (All2.cons (.cells (fun h => h) (All2.cons .sc (All2.cons .same (All2.cons .sc All2.nil)))) All2.nil)), decide (r6.1 > 1), h, rfl⟩
          · replace h := (if_neg c20).symm.trans h
            replace c20 := Bool.eq_false_iff.mpr c20
            refine AWops.guard_no rfl (Nat.le_of_ble_eq_true rfl) rfl c20 ?_
            refine AWops.guard_no rfl (Nat.le_of_ble_eq_true rfl) rfl c20 ?_
            refine s_pick_no (d := (sc (.bool false))) rfl c20 rfl ?_
            refine s_assign (d := (sc (.bool false))) rfl ?_
            refine AWops.nil ?_
            exact ⟨⟨66, (upd 66 (upd 66 (upd 66 (upd 66 (upd 66 (upd 66 (upd 66 topF 0 (D.one (C.ref 0 0))) 1 (sc (.int .i64 a1))) 2 (sc (.int .i64 a2))) 7 (sc (.int .u64 x4))) 8 (sc (.int .i64 x5))) 9 (sc (.int .u8 r6.1))) 22 (sc (.bool false))), [(some (AObj.cells false [(C.p true (.v (.bool r6.2.2.made))), (C.p false (.sl r6.2.2.b.length (r6.2.2.b.flatMap e_u8))), (C.p true (.v (.int .i64 r6.2.2.err)))]))]⟩, (Weak.gen (kk := 1) [0] [] hx rfl (by decide) (by decide) rfl rfl rfl (le_upd (le_upd (le_upd (le_upd (le_upd (le_upd (le_upd (le_top _) (.t (.one (.ref rfl)))) (.t (.one .sc))) (.t (.one .sc))) (.t (.one .sc))) (.t (.one .sc))) (.t (.one .sc))) (.t (.one .sc))) (All2.cons (.cells (fun h => h) (All2.cons .sc (All2.cons .same (All2.cons .sc All2.nil)))) All2.nil)), false, h, rfl⟩
      · rintro st ⟨x8, h, rfl⟩
        cases ql0 with
        | zero => exact absurd h (by simp [wire_Reader_Int.j1])
        | succ qj1 =>
          replace h := (wire_Reader_Int.j1.eq_2 _ _ _ _ _ _ _).symm.trans h
          by_cases c9 : x8 = true
          · replace h := (if_pos c9).symm.trans h
            refine AW.cond_yes rfl c9 ?_
            refine AW.seq ?_
            refine AW.region ?_
            refine s_move (d := (D.one (C.ref 0 0))) rfl ?_
            obtain ⟨r10, er10, h⟩ := Option.bind_eq_some_iff.mp h
            refine s_call (ρ := [0]) (br := false) (H2 := [(some (AObj.cells false [(C.p true (.v (.bool r10.made))), (C.p false (.sl r10.b.length (r10.b.flatMap e_u8))), (C.p true (.v (.int .i64 r10.err)))]))]) (d := (D.tup [])) F.ca_46 rfl rfl (All2.cons (.one (.ref rfl)) (All2.cons (.one .sc) All2.nil)) (All2.cons (.cells (All2.cons .sc (All2.cons .imm (All2.cons .sc All2.nil)))) All2.nil) (by decide) rfl (wire_Reader_fail.meets _ r6.2.2 5 r10 er10) (.inl rfl) rfl rfl ?_
            refine AWops.nil ?_
            refine AW.seq ?_
            refine AW.region ?_
            refine s_assign (d := (sc (.int .i64 0))) rfl ?_
            refine AWops.nil ?_
            refine AW.ret ?_
            obtain rfl := Option.some.inj h
            exact ⟨_, rfl, (Weak.gen (kk := 1) [0] [] rfl rfl (by decide) (by decide) rfl rfl rfl (le_upd (le_top _) (.t (.one .sc))) (All2.cons (.cells (fun h => h) (All2.cons .sc (All2.cons .same (All2.cons .sc All2.nil)))) All2.nil))⟩
          · replace h := (if_neg c9).symm.trans h
            replace c9 := Bool.eq_false_iff.mpr c9
            refine AW.cond_no rfl c9 ?_
            refine AW.skip ?_
            refine AW.seq ?_
            refine AW.region ?_
            refine s_move (d := (sc (.int .u64 x4))) rfl ?_
            refine s_move (d := (sc (.int .u8 r6.1))) rfl ?_
            refine s_binI (v := (.int .u8 (Go.bits .and .u8 r6.1 127))) rfl rfl rfl ?_
            refine s_convI F.u_5 F.u_60 rfl ?_
            refine s_move (d := (sc (.int .i64 x5))) rfl ?_
            refine s_binI (v := (.int .i64 (IntKind.i64.wrap (7 * x5)))) rfl rfl rfl ?_
            by_cases c11 : (decide (0 ≤ (IntKind.i64.wrap (7 * x5)))) = true
            · replace h := (if_pos c11).symm.trans h
              refine s_shift (v := (.int .u64 (IntKind.u64.wrap ((IntKind.u64.wrap (Go.bits .and .u8 r6.1 127)) * 2 ^ (min (IntKind.i64.wrap (7 * x5)).toNat 64))))) rfl rfl (if_neg (by have := of_decide_eq_true c11; omega)) ?_
              refine s_binI (v := (.int .u64 (Go.bits .or .u64 x4 (IntKind.u64.wrap ((IntKind.u64.wrap (Go.bits .and .u8 r6.1 127)) * 2 ^ (min (IntKind.i64.wrap (7 * x5)).toNat 64)))))) rfl rfl rfl ?_
              refine s_assign (d := (sc (.int .u64 (Go.bits .or .u64 x4 (IntKind.u64.wrap ((IntKind.u64.wrap (Go.bits .and .u8 r6.1 127)) * 2 ^ (min (IntKind.i64.wrap (7 * x5)).toNat 64))))))) rfl ?_
              refine AWops.nil ?_
              refine AW.seq ?_
              refine AW.region ?_
              refine s_move (d := (sc (.int .u8 r6.1))) rfl ?_
              refine s_binI (v := (.bool (decide (r6.1 < 128)))) rfl rfl rfl ?_
              refine AWops.nil ?_
              by_cases c12 : (decide (r6.1 < 128)) = true
              · replace h := (if_pos c12).symm.trans h
                refine AW.cond_yes rfl c12 ?_
                refine AW.exit ?_
                refine AW.seq ?_
                refine AW.region ?_
                refine s_move (d := (sc (.int .u64 (Go.bits .or .u64 x4 (IntKind.u64.wrap ((IntKind.u64.wrap (Go.bits .and .u8 r6.1 127)) * 2 ^ (min (IntKind.i64.wrap (7 * x5)).toNat 64))))))) rfl ?_
                refine s_shift (v := (.int .u64 (Int.fdiv (Go.bits .or .u64 x4 (IntKind.u64.wrap ((IntKind.u64.wrap (Go.bits .and .u8 r6.1 127)) * 2 ^ (min (IntKind.i64.wrap (7 * x5)).toNat 64)))) (2 ^ 1)))) rfl rfl rfl ?_
                refine s_convI F.u_60 F.u_3 rfl ?_
                refine s_move (d := (sc (.int .u64 (Go.bits .or .u64 x4 (IntKind.u64.wrap ((IntKind.u64.wrap (Go.bits .and .u8 r6.1 127)) * 2 ^ (min (IntKind.i64.wrap (7 * x5)).toNat 64))))))) rfl ?_
                refine s_binI (v := (.int .u64 (Go.bits .and .u64 (Go.bits .or .u64 x4 (IntKind.u64.wrap ((IntKind.u64.wrap (Go.bits .and .u8 r6.1 127)) * 2 ^ (min (IntKind.i64.wrap (7 * x5)).toNat 64)))) 1))) rfl rfl rfl ?_
                refine s_convI F.u_60 F.u_3 rfl ?_
                refine s_unI (v := (.int .i64 (IntKind.i64.wrap (0 - (IntKind.i64.wrap (Go.bits .and .u64 (Go.bits .or .u64 x4 (IntKind.u64.wrap ((IntKind.u64.wrap (Go.bits .and .u8 r6.1 127)) * 2 ^ (min (IntKind.i64.wrap (7 * x5)).toNat 64)))) 1)))))) rfl rfl ?_
                refine s_binI (v := (.int .i64 (Go.bits .xor .i64 (IntKind.i64.wrap (Int.fdiv (Go.bits .or .u64 x4 (IntKind.u64.wrap ((IntKind.u64.wrap (Go.bits .and .u8 r6.1 127)) * 2 ^ (min (IntKind.i64.wrap (7 * x5)).toNat 64)))) (2 ^ 1))) (IntKind.i64.wrap (0 - (IntKind.i64.wrap (Go.bits .and .u64 (Go.bits .or .u64 x4 (IntKind.u64.wrap ((IntKind.u64.wrap (Go.bits .and .u8 r6.1 127)) * 2 ^ (min (IntKind.i64.wrap (7 * x5)).toNat 64)))) 1))))))) rfl rfl rfl ?_
                refine s_assign (d := (sc (.int .i64 (Go.bits .xor .i64 (IntKind.i64.wrap (Int.fdiv (Go.bits .or .u64 x4 (IntKind.u64.wrap ((IntKind.u64.wrap (Go.bits .and .u8 r6.1 127)) * 2 ^ (min (IntKind.i64.wrap (7 * x5)).toNat 64)))) (2 ^ 1))) (IntKind.i64.wrap (0 - (IntKind.i64.wrap (Go.bits .and .u64 (Go.bits .or .u64 x4 (IntKind.u64.wrap ((IntKind.u64.wrap (Go.bits .and .u8 r6.1 127)) * 2 ^ (min (IntKind.i64.wrap (7 * x5)).toNat 64)))) 1)))))))) rfl ?_
                refine AWops.nil ?_
                refine AW.seq ?_
                refine AW.seq ?_
                refine AW.region ?_
                refine s_move (d := (sc (.int .i64 (Go.bits .xor .i64 (IntKind.i64.wrap (Int.fdiv (Go.bits .or .u64 x4 (IntKind.u64.wrap ((IntKind.u64.wrap (Go.bits .and .u8 r6.1 127)) * 2 ^ (min (IntKind.i64.wrap (7 * x5)).toNat 64)))) (2 ^ 1))) (IntKind.i64.wrap (0 - (IntKind.i64.wrap (Go.bits .and .u64 (Go.bits .or .u64 x4 (IntKind.u64.wrap ((IntKind.u64.wrap (Go.bits .and .u8 r6.1 127)) * 2 ^ (min (IntKind.i64.wrap (7 * x5)).toNat 64)))) 1)))))))) rfl ?_
                refine s_move (d := (sc (.int .i64 a1))) rfl ?_
                refine s_binI (v := (.bool (decide ((Go.bits .xor .i64 (IntKind.i64.wrap (Int.fdiv (Go.bits .or .u64 x4 (IntKind.u64.wrap ((IntKind.u64.wrap (Go.bits .and .u8 r6.1 127)) * 2 ^ (min (IntKind.i64.wrap (7 * x5)).toNat 64)))) (2 ^ 1))) (IntKind.i64.wrap (0 - (IntKind.i64.wrap (Go.bits .and .u64 (Go.bits .or .u64 x4 (IntKind.u64.wrap ((IntKind.u64.wrap (Go.bits .and .u8 r6.1 127)) * 2 ^ (min (IntKind.i64.wrap (7 * x5)).toNat 64)))) 1))))) < a1)))) rfl rfl rfl ?_
                refine s_move (d := (sc (.bool (decide ((Go.bits .xor .i64 (IntKind.i64.wrap (Int.fdiv (Go.bits .or .u64 x4 (IntKind.u64.wrap ((IntKind.u64.wrap (Go.bits .and .u8 r6.1 127)) * 2 ^ (min (IntKind.i64.wrap (7 * x5)).toNat 64)))) (2 ^ 1))) (IntKind.i64.wrap (0 - (IntKind.i64.wrap (Go.bits .and .u64 (Go.bits .or .u64 x4 (IntKind.u64.wrap ((IntKind.u64.wrap (Go.bits .and .u8 r6.1 127)) * 2 ^ (min (IntKind.i64.wrap (7 * x5)).toNat 64)))) 1))))) < a1))))) rfl ?_
                by_cases c13 : (decide ((Go.bits .xor .i64 (IntKind.i64.wrap (Int.fdiv (Go.bits .or .u64 x4 (IntKind.u64.wrap ((IntKind.u64.wrap (Go.bits .and .u8 r6.1 127)) * 2 ^ (min (IntKind.i64.wrap (7 * x5)).toNat 64)))) (2 ^ 1))) (IntKind.i64.wrap (0 - (IntKind.i64.wrap (Go.bits .and .u64 (Go.bits .or .u64 x4 (IntKind.u64.wrap ((IntKind.u64.wrap (Go.bits .and .u8 r6.1 127)) * 2 ^ (min (IntKind.i64.wrap (7 * x5)).toNat 64)))) 1))))) < a1)) = true
                · replace h := (if_pos c13).symm.trans h
                  refine AWops.guard_no rfl (Nat.le_of_ble_eq_true rfl) rfl c13 ?_
                  refine AWops.guard_no rfl (Nat.le_of_ble_eq_true rfl) rfl c13 ?_
                  refine AWops.guard_no rfl (Nat.le_of_ble_eq_true rfl) rfl c13 ?_
                  refine s_pick_yes (d := (sc (.bool true))) rfl c13 rfl ?_
                  refine AWops.nil ?_
                  refine AW.cond_yes rfl rfl ?_
                  refine AW.seq ?_
                  refine AW.region ?_
                  refine s_move (d := (D.one (C.ref 0 0))) rfl ?_
                  obtain ⟨r14, er14, h⟩ := Option.bind_eq_some_iff.mp h
                  refine s_call (ρ := [0]) (br := false) (H2 := [(some (AObj.cells false [(C.p true (.v (.bool r14.made))), (C.p false (.sl r14.b.length (r14.b.flatMap e_u8))), (C.p true (.v (.int .i64 r14.err)))]))]) (d := (D.tup [])) F.ca_46 rfl rfl (All2.cons (.one (.ref rfl)) (All2.cons (.one .sc) All2.nil)) (All2.cons (.cells (All2.cons .sc (All2.cons .imm (All2.cons .sc All2.nil)))) All2.nil) (by decide) rfl (wire_Reader_fail.meets _ r6.2.2 4 r14 er14) (.inl rfl) rfl rfl ?_
                  refine AWops.nil ?_
                  refine AW.seq ?_
                  refine AW.region ?_
                  refine s_assign (d := (sc (.int .i64 0))) rfl ?_
                  refine AWops.nil ?_
                  refine AW.ret ?_
                  obtain rfl := Option.some.inj h
                  exact ⟨_, rfl, (Weak.gen (kk := 1) [0] [] rfl rfl (by decide) (by decide) rfl rfl rfl (le_upd (le_top _) (.t (.one .sc))) (All2.cons (.cells (fun h => h) (All2.cons .sc (All2.cons .same (All2.cons .sc All2.nil)))) All2.nil))⟩
                · replace h := (if_neg c13).symm.trans h
                  replace c13 := Bool.eq_false_iff.mpr c13
                  refine AWops.guard_yes rfl (Nat.le_of_ble_eq_true rfl) rfl c13 ?_
                  refine s_move (d := (sc (.int .i64 (Go.bits .xor .i64 (IntKind.i64.wrap (Int.fdiv (Go.bits .or .u64 x4 (IntKind.u64.wrap ((IntKind.u64.wrap (Go.bits .and .u8 r6.1 127)) * 2 ^ (min (IntKind.i64.wrap (7 * x5)).toNat 64)))) (2 ^ 1))) (IntKind.i64.wrap (0 - (IntKind.i64.wrap (Go.bits .and .u64 (Go.bits .or .u64 x4 (IntKind.u64.wrap ((IntKind.u64.wrap (Go.bits .and .u8 r6.1 127)) * 2 ^ (min (IntKind.i64.wrap (7 * x5)).toNat 64)))) 1)))))))) rfl ?_
                  refine AWops.guard_yes rfl (Nat.le_of_ble_eq_true rfl) rfl c13 ?_
                  refine s_move (d := (sc (.int .i64 a2))) rfl ?_
                  refine AWops.guard_yes rfl (Nat.le_of_ble_eq_true rfl) rfl c13 ?_
                  refine s_binI (v := (.bool (decide ((Go.bits .xor .i64 (IntKind.i64.wrap (Int.fdiv (Go.bits .or .u64 x4 (IntKind.u64.wrap ((IntKind.u64.wrap (Go.bits .and .u8 r6.1 127)) * 2 ^ (min (IntKind.i64.wrap (7 * x5)).toNat 64)))) (2 ^ 1))) (IntKind.i64.wrap (0 - (IntKind.i64.wrap (Go.bits .and .u64 (Go.bits .or .u64 x4 (IntKind.u64.wrap ((IntKind.u64.wrap (Go.bits .and .u8 r6.1 127)) * 2 ^ (min (IntKind.i64.wrap (7 * x5)).toNat 64)))) 1))))) > a2)))) rfl rfl rfl ?_
                  refine s_pick_no (d := (sc (.bool (decide ((Go.bits .xor .i64 (IntKind.i64.wrap (Int.fdiv (Go.bits .or .u64 x4 (IntKind.u64.wrap ((IntKind.u64.wrap (Go.bits .and .u8 r6.1 127)) * 2 ^ (min (IntKind.i64.wrap (7 * x5)).toNat 64)))) (2 ^ 1))) (IntKind.i64.wrap (0 - (IntKind.i64.wrap (Go.bits .and .u64 (Go.bits .or .u64 x4 (IntKind.u64.wrap ((IntKind.u64.wrap (Go.bits .and .u8 r6.1 127)) * 2 ^ (min (IntKind.i64.wrap (7 * x5)).toNat 64)))) 1))))) > a2))))) rfl c13 rfl ?_
                  refine AWops.nil ?_
                  by_cases c15 : (decide ((Go.bits .xor .i64 (IntKind.i64.wrap (Int.fdiv (Go.bits .or .u64 x4 (IntKind.u64.wrap ((IntKind.u64.wrap (Go.bits .and .u8 r6.1 127)) * 2 ^ (min (IntKind.i64.wrap (7 * x5)).toNat 64)))) (2 ^ 1))) (IntKind.i64.wrap (0 - (IntKind.i64.wrap (Go.bits .and .u64 (Go.bits .or .u64 x4 (IntKind.u64.wrap ((IntKind.u64.wrap (Go.bits .and .u8 r6.1 127)) * 2 ^ (min (IntKind.i64.wrap (7 * x5)).toNat 64)))) 1))))) > a2)) = true
                  · replace h := (if_pos c15).symm.trans h
                    refine AW.cond_yes rfl c15 ?_
                    refine AW.seq ?_
                    refine AW.region ?_
                    refine s_move (d := (D.one (C.ref 0 0))) rfl ?_
                    obtain ⟨r16, er16, h⟩ := Option.bind_eq_some_iff.mp h
                    refine s_call (ρ := [0]) (br := false) (H2 := [(some (AObj.cells false [(C.p true (.v (.bool r16.made))), (C.p false (.sl r16.b.length (r16.b.flatMap e_u8))), (C.p true (.v (.int .i64 r16.err)))]))]) (d := (D.tup [])) F.ca_46 rfl rfl (All2.cons (.one (.ref rfl)) (All2.cons (.one .sc) All2.nil)) (All2.cons (.cells (All2.cons .sc (All2.cons .imm (All2.cons .sc All2.nil)))) All2.nil) (by decide) rfl (wire_Reader_fail.meets _ r6.2.2 4 r16 er16) (.inl rfl) rfl rfl ?_
                    refine AWops.nil ?_
                    refine AW.seq ?_
                    refine AW.region ?_
                    refine s_assign (d := (sc (.int .i64 0))) rfl ?_
                    refine AWops.nil ?_
                    refine AW.ret ?_
                    obtain rfl := Option.some.inj h
                    exact ⟨_, rfl, (Weak.gen (kk := 1) [0] [] rfl rfl (by decide) (by decide) rfl rfl rfl (le_upd (le_top _) (.t (.one .sc))) (All2.cons (.cells (fun h => h) (All2.cons .sc (All2.cons .same (All2.cons .sc All2.nil)))) All2.nil))⟩
                  · replace h := (if_neg c15).symm.trans h
                    replace c15 := Bool.eq_false_iff.mpr c15
                    refine AW.cond_no rfl c15 ?_
                    refine AW.skip ?_
                    refine AW.seq ?_
                    refine AW.region ?_
                    refine s_move (d := (sc (.int .i64 (Go.bits .xor .i64 (IntKind.i64.wrap (Int.fdiv (Go.bits .or .u64 x4 (IntKind.u64.wrap ((IntKind.u64.wrap (Go.bits .and .u8 r6.1 127)) * 2 ^ (min (IntKind.i64.wrap (7 * x5)).toNat 64)))) (2 ^ 1))) (IntKind.i64.wrap (0 - (IntKind.i64.wrap (Go.bits .and .u64 (Go.bits .or .u64 x4 (IntKind.u64.wrap ((IntKind.u64.wrap (Go.bits .and .u8 r6.1 127)) * 2 ^ (min (IntKind.i64.wrap (7 * x5)).toNat 64)))) 1)))))))) rfl ?_
                    refine s_assign (d := (sc (.int .i64 (Go.bits .xor .i64 (IntKind.i64.wrap (Int.fdiv (Go.bits .or .u64 x4 (IntKind.u64.wrap ((IntKind.u64.wrap (Go.bits .and .u8 r6.1 127)) * 2 ^ (min (IntKind.i64.wrap (7 * x5)).toNat 64)))) (2 ^ 1))) (IntKind.i64.wrap (0 - (IntKind.i64.wrap (Go.bits .and .u64 (Go.bits .or .u64 x4 (IntKind.u64.wrap ((IntKind.u64.wrap (Go.bits .and .u8 r6.1 127)) * 2 ^ (min (IntKind.i64.wrap (7 * x5)).toNat 64)))) 1)))))))) rfl ?_
                    refine AWops.nil ?_
                    refine AW.ret ?_
                    obtain rfl := Option.some.inj h
                    exact ⟨_, rfl, (Weak.gen (kk := 1) [0] [] rfl rfl (by decide) (by decide) rfl rfl rfl (le_upd (le_top _) (.t (.one .sc))) (All2.cons (.cells (fun h => h) (All2.cons .sc (All2.cons .same (All2.cons .sc All2.nil)))) All2.nil))⟩
              · replace h := (if_neg c12).symm.trans h
                replace c12 := Bool.eq_false_iff.mpr c12
                refine AW.cond_no rfl c12 ?_
                refine AW.skip ?_
                refine AW.region ?_
                refine s_move (d := (sc (.int .i64 x5))) rfl ?_
                refine s_binI (v := (.int .i64 (IntKind.i64.wrap (x5 + 1)))) rfl rfl rfl ?_
                refine s_assign (d := (sc (.int .i64 (IntKind.i64.wrap (x5 + 1))))) rfl ?_
                refine AWops.nil ?_
                exact ⟨_, ⟨66, (upd 66 (upd 66 (upd 66 (upd 66 (upd 66 topF 0 (D.one (C.ref 0 0))) 1 (sc (.int .i64 a1))) 2 (sc (.int .i64 a2))) 7 (sc (.int .u64 (Go.bits .or .u64 x4 (IntKind.u64.wrap ((IntKind.u64.wrap (Go.bits .and .u8 r6.1 127)) * 2 ^ (min (IntKind.i64.wrap (7 * x5)).toNat 64))))))) 8 (sc (.int .i64 (IntKind.i64.wrap (x5 + 1))))), [(some (AObj.cells false [(C.p true (.v (.bool r6.2.2.made))), (C.p false (.sl r6.2.2.b.length (r6.2.2.b.flatMap e_u8))), (C.p true (.v (.int .i64 r6.2.2.err)))]))]⟩, by omega, (Weak.gen (kk := 1) [0] [] hx rfl (by decide) (by decide) rfl rfl rfl (le_upd (le_upd (le_upd (le_upd (le_upd (le_top _) (.t (.one (.ref rfl)))) (.t (.one .sc))) (.t (.one .sc))) (.t (.one .sc))) (.t (.one .sc))) (All2.cons (.cells (fun h => h) (All2.cons .sc (All2.cons .same (All2.cons .sc All2.nil)))) All2.nil)), by omega, r6.2.2.made, r6.2.2.b, r6.2.2.err, Go.bits .or .u64 x4 (IntKind.u64.wrap ((IntKind.u64.wrap (Go.bits .and .u8 r6.1 127)) * 2 ^ (min (IntKind.i64.wrap (7 * x5)).toNat 64))), IntKind.i64.wrap (x5 + 1), h, rfl⟩
            · replace h := (if_neg c11).symm.trans h
              cases h
    · replace h := (if_neg c7).symm.trans h
      replace c7 := Bool.eq_false_iff.mpr c7
      refine AW.cond_yes rfl (by rw [c7] <;> rfl) ?_
      refine AW.seq ?_
      refine AW.region ?_
      refine s_assign (d := (sc (.int .i64 0))) rfl ?_
      refine AWops.nil ?_
      refine AW.ret ?_
      obtain rfl := Option.some.inj h
      exact ⟨_, rfl, (Weak.gen (kk := 1) [0] [] rfl rfl (by decide) (by decide) rfl rfl rfl (le_upd (le_top _) (.t (.one .sc))) (All2.cons (.cells (fun h => h) (All2.cons .sc (All2.cons .same (All2.cons .sc All2.nil)))) All2.nil))⟩
def wire_Reader_Text.f (k : Nat) (p0 : wire_Reader) (a1 : Int) : Option (ByteArray × wire_Reader) := (wire_Reader_Int.f k p0 0 a1).bind fun r1 => (wire_Reader_none.f k r1.2).bind fun r2 => if r2.1 = true then (some ((⟨#[]⟩ : ByteArray), r2.2)) else (if (r2.2.err != 0) = true then (some ((⟨#[]⟩ : ByteArray), r2.2)) else (if (decide (r1.1 > (r2.2.b.length : Int))) = true then ((wire_Reader_fail.f k r2.2 3).bind fun r6 => some ((⟨#[]⟩ : ByteArray), r6)) else (if (decide (0 ≤ 0 ∧ 0 ≤ r1.1 ∧ r1.1 ≤ (r2.2.b.length : Int))) = true then (if (decide (0 ≤ r1.1 ∧ r1.1 ≤ (r2.2.b.length : Int) ∧ (r2.2.b.length : Int) ≤ (r2.2.b.length : Int))) = true then (some (ofNums (sub r2.2.b 0 r1.1), (⟨r2.2.made, sub r2.2.b r1.1 (r2.2.b.length : Int), r2.2.err⟩ : wire_Reader))) else none) else none)))
theorem wire_Reader_Text.meets (k : Nat) (p0 : wire_Reader) (a1 : Int) (r : ByteArray × wire_Reader) (h : wire_Reader_Text.f k p0 a1 = some r) : Meets Try.prog 27 [(D.one (C.ref 0 0)), (sc (.int .i64 a1))] [(some (AObj.cells false [(C.p true (.v (.bool p0.made))), (C.p false (.sl p0.b.length (p0.b.flatMap e_u8))), (C.p true (.v (.int .i64 p0.err)))]))] (sc (.string r.1)) [(some (AObj.cells false [(C.p true (.v (.bool r.2.made))), (C.p false (.sl r.2.b.length (r.2.b.flatMap e_u8))), (C.p true (.v (.int .i64 r.2.err)))]))] := by
  unfold wire_Reader_Text.f at h
  refine Meets.of_body (n := 47) Try.func27 rfl rfl (Nat.le_of_ble_eq_true rfl) fun x hx => ?_
  replace hx : x.k = 1 := hx
  show AW _ x _ _ ⟨47, fr0 [(D.one (C.ref 0 0)), (sc (.int .i64 a1))], [(some (AObj.cells false [(C.p true (.v (.bool p0.made))), (C.p false (.sl p0.b.length (p0.b.flatMap e_u8))), (C.p true (.v (.int .i64 p0.err)))]))]⟩
  refine AW.seq ?_
  refine AW.region ?_
  refine s_assign (d := (sc (.string (⟨#[]⟩ : ByteArray)))) rfl ?_
  refine AWops.nil ?_
  refine AW.seq ?_
  refine AW.region ?_
  refine s_move (d := (D.one (C.ref 0 0))) rfl ?_
  refine s_move (d := (sc (.int .i64 a1))) rfl ?_
  obtain ⟨r1, er1, h⟩ := Option.bind_eq_some_iff.mp h
  refine s_call (ρ := [0]) (br := false) (H2 := [(some (AObj.cells false [(C.p true (.v (.bool r1.2.made))), (C.p false (.sl r1.2.b.length (r1.2.b.flatMap e_u8))), (C.p true (.v (.int .i64 r1.2.err)))]))]) (d := (sc (.int .i64 r1.1))) F.ca_26 rfl rfl (All2.cons (.one (.ref rfl)) (All2.cons (.one .sc) (All2.cons (.one .sc) All2.nil))) (All2.cons (.cells (All2.cons .sc (All2.cons .imm (All2.cons .sc All2.nil)))) All2.nil) (by decide) rfl (wire_Reader_Int.meets _ p0 0 a1 r1 er1) (.inl rfl) rfl rfl ?_
  refine s_assign (d := (sc (.int .i64 r1.1))) rfl ?_
  refine AWops.nil ?_
  refine AW.seq ?_
  refine AW.block ?_
  refine AW.seq ?_
  refine AW.region ?_
  refine s_move (d := (D.one (C.ref 0 0))) rfl ?_
  obtain ⟨r2, er2, h⟩ := Option.bind_eq_some_iff.mp h
  refine s_call (ρ := [0]) (br := false) (H2 := [(some (AObj.cells false [(C.p true (.v (.bool r2.2.made))), (C.p false (.sl r2.2.b.length (r2.2.b.flatMap e_u8))), (C.p true (.v (.int .i64 r2.2.err)))]))]) (d := (sc (.bool r2.1))) F.ca_47 rfl rfl (All2.cons (.one (.ref rfl)) All2.nil) (All2.cons (.cells (All2.cons .sc (All2.cons .imm (All2.cons .sc All2.nil)))) All2.nil) (by decide) rfl (wire_Reader_none.meets _ r1.2 r2 er2) (.inl rfl) rfl rfl ?_
  refine s_move (d := (sc (.bool r2.1))) rfl ?_
  by_cases c3 : r2.1 = true
  · replace h := (if_pos c3).symm.trans h
    refine AWops.guard_no rfl (Nat.le_of_ble_eq_true rfl) rfl c3 ?_
    refine AWops.guard_no rfl (Nat.le_of_ble_eq_true rfl) rfl c3 ?_
    refine AWops.guard_no rfl (Nat.le_of_ble_eq_true rfl) rfl c3 ?_
    refine AWops.guard_no rfl (Nat.le_of_ble_eq_true rfl) rfl c3 ?_
    refine AWops.guard_no rfl (Nat.le_of_ble_eq_true rfl) rfl c3 ?_
    refine s_pick_yes (d := (sc (.bool true))) rfl c3 rfl ?_
    refine s_assign (d := (sc (.bool true))) rfl ?_
    refine AWops.nil ?_
    refine AW.cond_yes rfl rfl ?_
    refine AW.seq ?_
    refine AW.region ?_
    refine s_assign (d := (sc (.string (⟨#[]⟩ : ByteArray)))) rfl ?_
    refine AWops.nil ?_
    refine AW.ret ?_
    obtain rfl := Option.some.inj h
    exact ⟨_, rfl, (Weak.gen (kk := 1) [0] [] rfl rfl (by decide) (by decide) rfl rfl rfl (le_upd (le_top _) (.t (.one .sc))) (All2.cons (.cells (fun h => h) (All2.cons .sc (All2.cons .same (All2.cons .sc All2.nil)))) All2.nil))⟩
  · replace h := (if_neg c3).symm.trans h
    replace c3 := Bool.eq_false_iff.mpr c3
    refine AWops.guard_yes rfl (Nat.le_of_ble_eq_true rfl) rfl c3 ?_
    refine s_move (d := (D.one (C.ref 0 0))) rfl ?_
    refine AWops.guard_yes rfl (Nat.le_of_ble_eq_true rfl) rfl c3 ?_
    refine s_nilCheck (d := (D.one (C.ref 0 0))) rfl (.inl ⟨_, _, rfl⟩) ?_
    refine AWops.guard_yes rfl (Nat.le_of_ble_eq_true rfl) rfl c3 ?_
    refine s_fieldRef F.fo_49_2 (by decide) rfl ?_
    refine AWops.guard_yes rfl (Nat.le_of_ble_eq_true rfl) rfl c3 ?_
    refine s_load1 (c' := (C.p true (.v (.int .i64 r2.2.err)))) F.ag_42 rfl rfl ?_
    refine AWops.guard_yes rfl (Nat.le_of_ble_eq_true rfl) rfl c3 ?_
    refine s_binI (v := (.bool (r2.2.err != 0))) rfl rfl rfl ?_
    refine s_pick_no (d := (sc (.bool (r2.2.err != 0)))) rfl c3 rfl ?_
    refine s_assign (d := (sc (.bool (r2.2.err != 0)))) rfl ?_
    refine AWops.nil ?_
    by_cases c4 : (r2.2.err != 0) = true
    · replace h := (if_pos c4).symm.trans h
      refine AW.cond_yes rfl c4 ?_
      refine AW.seq ?_
      refine AW.region ?_
      refine s_assign (d := (sc (.string (⟨#[]⟩ : ByteArray)))) rfl ?_
      refine AWops.nil ?_
      refine AW.ret ?_
      obtain rfl := Option.some.inj h
      exact ⟨_, rfl, (Weak.gen (kk := 1) [0] [] rfl rfl (by decide) (by decide) rfl rfl rfl (le_upd (le_top _) (.t (.one .sc))) (All2.cons (.cells (fun h => h) (All2.cons .sc (All2.cons .same (All2.cons .sc All2.nil)))) All2.nil))⟩
    · replace h := (if_neg c4).symm.trans h
      replace c4 := Bool.eq_false_iff.mpr c4
      refine AW.cond_no rfl c4 ?_
      refine AW.seq ?_
      refine AW.region ?_
      refine s_move (d := (sc (.int .i64 r1.1))) rfl ?_
      refine s_move (d := (D.one (C.ref 0 0))) rfl ?_
      refine s_nilCheck (d := (D.one (C.ref 0 0))) rfl (.inl ⟨_, _, rfl⟩) ?_
      refine s_fieldRef F.fo_49_1 (by decide) rfl ?_
      refine s_load1 (c' := (C.p false (.sl r2.2.b.length (r2.2.b.flatMap e_u8)))) F.ag_22 rfl rfl ?_
      refine s_len (n := r2.2.b.length) F.u_22 rfl (.inr ⟨(fun _ _ h => by cases h), ⟨_, rfl⟩⟩) ?_
      refine s_binI (v := (.bool (decide (r1.1 > (r2.2.b.length : Int))))) rfl rfl rfl ?_
      refine s_assign (d := (sc (.bool (decide (r1.1 > (r2.2.b.length : Int)))))) rfl ?_
      refine AWops.nil ?_
      by_cases c5 : (decide (r1.1 > (r2.2.b.length : Int))) = true
      · replace h := (if_pos c5).symm.trans h
        refine AW.cond_yes rfl c5 ?_
        refine AW.seq ?_
        refine AW.region ?_
        refine s_move (d := (D.one (C.ref 0 0))) rfl ?_
        obtain ⟨r6, er6, h⟩ := Option.bind_eq_some_iff.mp h
        refine s_call (ρ := [0]) (br := false) (H2 := [(some (AObj.cells false [(C.p true (.v (.bool r6.made))), (C.p false (.sl r6.b.length (r6.b.flatMap e_u8))), (C.p true (.v (.int .i64 r6.err)))]))]) (d := (D.tup [])) F.ca_46 rfl rfl (All2.cons (.one (.ref rfl)) (All2.cons (.one .sc) All2.nil)) (All2.cons (.cells (All2.cons .sc (All2.cons .imm (All2.cons .sc All2.nil)))) All2.nil) (by decide) rfl (wire_Reader_fail.meets _ r2.2 3 r6 er6) (.inl rfl) rfl rfl ?_
        refine AWops.nil ?_
        refine AW.seq ?_
        refine AW.region ?_
        refine s_assign (d := (sc (.string (⟨#[]⟩ : ByteArray)))) rfl ?_
        refine AWops.nil ?_
        refine AW.ret ?_
        obtain rfl := Option.some.inj h
        exact ⟨_, rfl, (Weak.gen (kk := 1) [0] [] rfl rfl (by decide) (by decide) rfl rfl rfl (le_upd (le_top _) (.t (.one .sc))) (All2.cons (.cells (fun h => h) (All2.cons .sc (All2.cons .same (All2.cons .sc All2.nil)))) All2.nil))⟩
      · replace h := (if_neg c5).symm.trans h
        replace c5 := Bool.eq_false_iff.mpr c5
        refine AW.cond_no rfl c5 ?_
        refine AW.skip ?_
        refine AW.seq ?_
        refine AW.region ?_
        refine s_move (d := (D.one (C.ref 0 0))) rfl ?_
        refine s_nilCheck (d := (D.one (C.ref 0 0))) rfl (.inl ⟨_, _, rfl⟩) ?_
        refine s_fieldRef F.fo_49_1 (by decide) rfl ?_
        refine s_load1 (c' := (C.p false (.sl r2.2.b.length (r2.2.b.flatMap e_u8)))) F.ag_22 rfl rfl ?_
        refine s_move (d := (sc (.int .i64 r1.1))) rfl ?_
        by_cases c7 : (decide (0 ≤ 0 ∧ 0 ≤ r1.1 ∧ r1.1 ≤ (r2.2.b.length : Int))) = true
        · replace h := (if_pos c7).symm.trans h
          have dc7 := of_decide_eq_true c7
          refine t_sliceImm (a := 0) (b := r1.1) F.u_22 F.sz_5 e_u8_len rfl (by omega) (by omega) (by omega) .no (.yes rfl (by omega) rfl) ?_
          refine t_toStr (xs := sub r2.2.b 0 r1.1) F.u_22 F.u_5 F.u_9 .imm ?_
          refine s_assign (d := (sc (.string (ofNums (sub r2.2.b 0 r1.1))))) rfl ?_
          refine AWops.nil ?_
          refine AW.seq ?_
          refine AW.region ?_
          refine s_move (d := (D.one (C.ref 0 0))) rfl ?_
          refine s_move (d := (D.one (C.ref 0 0))) rfl ?_
          refine s_nilCheck (d := (D.one (C.ref 0 0))) rfl (.inl ⟨_, _, rfl⟩) ?_
          refine s_fieldRef F.fo_49_1 (by decide) rfl ?_
          refine s_load1 (c' := (C.p false (.sl r2.2.b.length (r2.2.b.flatMap e_u8)))) F.ag_22 rfl rfl ?_
          refine s_move (d := (sc (.int .i64 r1.1))) rfl ?_
          by_cases c8 : (decide (0 ≤ r1.1 ∧ r1.1 ≤ (r2.2.b.length : Int) ∧ (r2.2.b.length : Int) ≤ (r2.2.b.length : Int))) = true
          · replace h := (if_pos c8).symm.trans h
            have dc8 := of_decide_eq_true c8
            refine t_sliceImm (a := r1.1) (b := (r2.2.b.length : Int)) F.u_22 F.sz_5 e_u8_len rfl (by omega) (by omega) (by omega) (.yes rfl (by omega) rfl) .no ?_
            refine s_nilCheck (d := (D.one (C.ref 0 0))) rfl (.inl ⟨_, _, rfl⟩) ?_
            refine s_fieldRef F.fo_49_1 (by decide) rfl ?_
            refine s_store (cs' := [(C.p true (.v (.bool r2.2.made))), (C.p false (.sl (sub r2.2.b r1.1 (r2.2.b.length : Int)).length ((sub r2.2.b r1.1 (r2.2.b.length : Int)).flatMap e_u8))), (C.p true (.v (.int .i64 r2.2.err)))]) rfl rfl rfl (List.cons_ne_nil _ _) rfl F.sz_22 (Nat.le_of_ble_eq_true rfl) rfl ?_
            refine AWops.nil ?_
            refine AW.seq ?_
            refine AW.region ?_
            refine s_move (d := (sc (.string (ofNums (sub r2.2.b 0 r1.1))))) rfl ?_
            refine s_assign (d := (sc (.string (ofNums (sub r2.2.b 0 r1.1))))) rfl ?_
            refine AWops.nil ?_
            refine AW.ret ?_
            obtain rfl := Option.some.inj h
            exact ⟨_, rfl, (Weak.gen (kk := 1) [0] [] rfl rfl (by decide) (by decide) rfl rfl rfl (le_upd (le_top _) (.t (.one .sc))) (All2.cons (.cells (fun h => h) (All2.cons .sc (All2.cons .same (All2.cons .sc All2.nil)))) All2.nil))⟩
          · replace h := (if_neg c8).symm.trans h
            cases h
        · replace h := (if_neg c7).symm.trans h
          cases h
def wire_Reader_Flag.f (k : Nat) (p0 : wire_Reader) : Option (Bool × wire_Reader) := (wire_Reader_byte.f k p0).bind fun r1 => if r1.2.1 = true then (if (decide (r1.1 > 1)) = true then ((wire_Reader_fail.f k r1.2.2 5).bind fun r4 => some ((r1.1 == 1), r4)) else (some ((r1.1 == 1), r1.2.2))) else (some (false, r1.2.2))
theorem wire_Reader_Flag.meets (k : Nat) (p0 : wire_Reader) (r : Bool × wire_Reader) (h : wire_Reader_Flag.f k p0 = some r) : Meets Try.prog 28 [(D.one (C.ref 0 0))] [(some (AObj.cells false [(C.p true (.v (.bool p0.made))), (C.p false (.sl p0.b.length (p0.b.flatMap e_u8))), (C.p true (.v (.int .i64 p0.err)))]))] (sc (.bool r.1)) [(some (AObj.cells false [(C.p true (.v (.bool r.2.made))), (C.p false (.sl r.2.b.length (r.2.b.flatMap e_u8))), (C.p true (.v (.int .i64 r.2.err)))]))] := by
  unfold wire_Reader_Flag.f at h
  refine Meets.of_body (n := 22) Try.func28 rfl rfl (Nat.le_of_ble_eq_true rfl) fun x hx => ?_
  replace hx : x.k = 1 := hx
  show AW _ x _ _ ⟨22, fr0 [(D.one (C.ref 0 0))], [(some (AObj.cells false [(C.p true (.v (.bool p0.made))), (C.p false (.sl p0.b.length (p0.b.flatMap e_u8))), (C.p true (.v (.int .i64 p0.err)))]))]⟩
  refine AW.seq ?_
  refine AW.region ?_
  refine s_assign (d := (sc (.bool false))) rfl ?_
  refine AWops.nil ?_
  refine AW.seq ?_
  refine AW.region ?_
  refine s_move (d := (D.one (C.ref 0 0))) rfl ?_
  obtain ⟨r1, er1, h⟩ := Option.bind_eq_some_iff.mp h
  refine s_call (ρ := [0]) (br := false) (H2 := [(some (AObj.cells false [(C.p true (.v (.bool r1.2.2.made))), (C.p false (.sl r1.2.2.b.length (r1.2.2.b.flatMap e_u8))), (C.p true (.v (.int .i64 r1.2.2.err)))]))]) (d := (D.tup [(sc (.int .u8 r1.1)), (sc (.bool r1.2.1))])) F.ca_45 rfl rfl (All2.cons (.one (.ref rfl)) All2.nil) (All2.cons (.cells (All2.cons .sc (All2.cons .imm (All2.cons .sc All2.nil)))) All2.nil) (by decide) rfl (wire_Reader_byte.meets _ p0 r1 er1) (.inl rfl) rfl rfl ?_
  refine s_move (d := (D.tup [(sc (.int .u8 r1.1)), (sc (.bool r1.2.1))])) rfl ?_
  refine s_extract (d := (sc (.int .u8 r1.1))) rfl rfl ?_
  refine s_extract (d := (sc (.bool r1.2.1))) rfl rfl ?_
  refine s_assign (d := (sc (.int .u8 r1.1))) rfl ?_
  refine s_assign (d := (sc (.bool r1.2.1))) rfl ?_
  refine AWops.nil ?_
  refine AW.seq ?_
  refine AW.seq ?_
  refine AW.region ?_
  refine s_move (d := (sc (.bool r1.2.1))) rfl ?_
  refine s_move (d := (sc (.bool r1.2.1))) rfl ?_
  by_cases c2 : r1.2.1 = true
  · replace h := (if_pos c2).symm.trans h
    refine AWops.guard_yes rfl (Nat.le_of_ble_eq_true rfl) rfl c2 ?_
    refine s_move (d := (sc (.int .u8 r1.1))) rfl ?_
    refine AWops.guard_yes rfl (Nat.le_of_ble_eq_true rfl) rfl c2 ?_
    refine s_binI (v := (.bool (decide (r1.1 > 1)))) rfl rfl rfl ?_
    refine s_pick_yes (d := (sc (.bool (decide (r1.1 > 1))))) rfl c2 rfl ?_
    refine AWops.nil ?_
    by_cases c3 : (decide (r1.1 > 1)) = true
    · replace h := (if_pos c3).symm.trans h
      refine AW.cond_yes rfl c3 ?_
      refine AW.region ?_
      refine s_move (d := (D.one (C.ref 0 0))) rfl ?_
      obtain ⟨r4, er4, h⟩ := Option.bind_eq_some_iff.mp h
      refine s_call (ρ := [0]) (br := false) (H2 := [(some (AObj.cells false [(C.p true (.v (.bool r4.made))), (C.p false (.sl r4.b.length (r4.b.flatMap e_u8))), (C.p true (.v (.int .i64 r4.err)))]))]) (d := (D.tup [])) F.ca_46 rfl rfl (All2.cons (.one (.ref rfl)) (All2.cons (.one .sc) All2.nil)) (All2.cons (.cells (All2.cons .sc (All2.cons .imm (All2.cons .sc All2.nil)))) All2.nil) (by decide) rfl (wire_Reader_fail.meets _ r1.2.2 5 r4 er4) (.inl rfl) rfl rfl ?_
      refine AWops.nil ?_
      refine AW.seq ?_
      refine AW.region ?_
      refine s_move (d := (sc (.bool r1.2.1))) rfl ?_
      refine s_move (d := (sc (.bool r1.2.1))) rfl ?_
      refine AWops.guard_yes rfl (Nat.le_of_ble_eq_true rfl) rfl c2 ?_
      refine s_move (d := (sc (.int .u8 r1.1))) rfl ?_
      refine AWops.guard_yes rfl (Nat.le_of_ble_eq_true rfl) rfl c2 ?_
      refine s_binI (v := (.bool (r1.1 == 1))) rfl rfl rfl ?_
      refine s_pick_yes (d := (sc (.bool (r1.1 == 1)))) rfl c2 rfl ?_
      refine s_assign (d := (sc (.bool (r1.1 == 1)))) rfl ?_
      refine AWops.nil ?_
      refine AW.ret ?_
      obtain rfl := Option.some.inj h
      exact ⟨_, rfl, (Weak.gen (kk := 1) [0] [] rfl rfl (by decide) (by decide) rfl rfl rfl (le_upd (le_top _) (.t (.one .sc))) (All2.cons (.cells (fun h => h) (All2.cons .sc (All2.cons .same (All2.cons .sc All2.nil)))) All2.nil))⟩
    · replace h := (if_neg c3).symm.trans h
      replace c3 := Bool.eq_false_iff.mpr c3
      refine AW.cond_no rfl c3 ?_
      refine AW.skip ?_
      refine AW.seq ?_
      refine AW.region ?_
      refine s_move (d := (sc (.bool r1.2.1))) rfl ?_
      refine s_move (d := (sc (.bool r1.2.1))) rfl ?_
      refine AWops.guard_yes rfl (Nat.le_of_ble_eq_true rfl) rfl c2 ?_
      refine s_move (d := (sc (.int .u8 r1.1))) rfl ?_
      refine AWops.guard_yes rfl (Nat.le_of_ble_eq_true rfl) rfl c2 ?_
      refine s_binI (v := (.bool (r1.1 == 1))) rfl rfl rfl ?_
      refine s_pick_yes (d := (sc (.bool (r1.1 == 1)))) rfl c2 rfl ?_
      refine s_assign (d := (sc (.bool (r1.1 == 1)))) rfl ?_
      refine AWops.nil ?_
      refine AW.ret ?_
      obtain rfl := Option.some.inj h
      exact ⟨_, rfl, (Weak.gen (kk := 1) [0] [] rfl rfl (by decide) (by decide) rfl rfl rfl (le_upd (le_top _) (.t (.one .sc))) (All2.cons (.cells (fun h => h) (All2.cons .sc (All2.cons .same (All2.cons .sc All2.nil)))) All2.nil))⟩
  · replace h := (if_neg c2).symm.trans h
    replace c2 := Bool.eq_false_iff.mpr c2
    refine AWops.guard_no rfl (Nat.le_of_ble_eq_true rfl) rfl c2 ?_
    refine AWops.guard_no rfl (Nat.le_of_ble_eq_true rfl) rfl c2 ?_
    refine s_pick_no (d := (sc (.bool false))) rfl c2 rfl ?_
    refine AWops.nil ?_
    refine AW.cond_no rfl rfl ?_
    refine AW.skip ?_
    refine AW.seq ?_
    refine AW.region ?_
    refine s_move (d := (sc (.bool r1.2.1))) rfl ?_
    refine s_move (d := (sc (.bool r1.2.1))) rfl ?_
    refine AWops.guard_no rfl (Nat.le_of_ble_eq_true rfl) rfl c2 ?_
    refine AWops.guard_no rfl (Nat.le_of_ble_eq_true rfl) rfl c2 ?_
    refine s_pick_no (d := (sc (.bool false))) rfl c2 rfl ?_
    refine s_assign (d := (sc (.bool false))) rfl ?_
    refine AWops.nil ?_
    refine AW.ret ?_
    obtain rfl := Option.some.inj h
    exact ⟨_, rfl, (Weak.gen (kk := 1) [0] [] rfl rfl (by decide) (by decide) rfl rfl rfl (le_upd (le_top _) (.t (.one .sc))) (All2.cons (.cells (fun h => h) (All2.cons .sc (All2.cons .same (All2.cons .sc All2.nil)))) All2.nil))⟩
def wire_Reader_Err.f (k : Nat) (p0 : wire_Reader) : Option (Int × wire_Reader) := (wire_Reader_none.f k p0).bind fun r1 => if r1.1 = true then (some (2, r1.2)) else (some (r1.2.err, r1.2))
theorem wire_Reader_Err.meets (k : Nat) (p0 : wire_Reader) (r : Int × wire_Reader) (h : wire_Reader_Err.f k p0 = some r) : Meets Try.prog 30 [(D.one (C.ref 0 0))] [(some (AObj.cells false [(C.p true (.v (.bool p0.made))), (C.p false (.sl p0.b.length (p0.b.flatMap e_u8))), (C.p true (.v (.int .i64 p0.err)))]))] (sc (.int .i64 r.1)) [(some (AObj.cells false [(C.p true (.v (.bool r.2.made))), (C.p false (.sl r.2.b.length (r.2.b.flatMap e_u8))), (C.p true (.v (.int .i64 r.2.err)))]))] := by
  unfold wire_Reader_Err.f at h
  refine Meets.of_body (n := 9) Try.func30 rfl rfl (Nat.le_of_ble_eq_true rfl) fun x hx => ?_
  replace hx : x.k = 1 := hx
  show AW _ x _ _ ⟨9, fr0 [(D.one (C.ref 0 0))], [(some (AObj.cells false [(C.p true (.v (.bool p0.made))), (C.p false (.sl p0.b.length (p0.b.flatMap e_u8))), (C.p true (.v (.int .i64 p0.err)))]))]⟩
  refine AW.seq ?_
  refine AW.region ?_
  refine s_assign (d := (sc (.int .i64 0))) rfl ?_
  refine AWops.nil ?_
  refine AW.seq ?_
  refine AW.seq ?_
  refine AW.region ?_
  refine s_move (d := (D.one (C.ref 0 0))) rfl ?_
  obtain ⟨r1, er1, h⟩ := Option.bind_eq_some_iff.mp h
  refine s_call (ρ := [0]) (br := false) (H2 := [(some (AObj.cells false [(C.p true (.v (.bool r1.2.made))), (C.p false (.sl r1.2.b.length (r1.2.b.flatMap e_u8))), (C.p true (.v (.int .i64 r1.2.err)))]))]) (d := (sc (.bool r1.1))) F.ca_47 rfl rfl (All2.cons (.one (.ref rfl)) All2.nil) (All2.cons (.cells (All2.cons .sc (All2.cons .imm (All2.cons .sc All2.nil)))) All2.nil) (by decide) rfl (wire_Reader_none.meets _ p0 r1 er1) (.inl rfl) rfl rfl ?_
  refine AWops.nil ?_
  by_cases c2 : r1.1 = true
  · replace h := (if_pos c2).symm.trans h
    refine AW.cond_yes rfl c2 ?_
    refine AW.seq ?_
    refine AW.region ?_
    refine s_assign (d := (sc (.int .i64 2))) rfl ?_
    refine AWops.nil ?_
    refine AW.ret ?_
    obtain rfl := Option.some.inj h
    exact ⟨_, rfl, (Weak.gen (kk := 1) [0] [] rfl rfl (by decide) (by decide) rfl rfl rfl (le_upd (le_top _) (.t (.one .sc))) (All2.cons (.cells (fun h => h) (All2.cons .sc (All2.cons .same (All2.cons .sc All2.nil)))) All2.nil))⟩
  · replace h := (if_neg c2).symm.trans h
    replace c2 := Bool.eq_false_iff.mpr c2
    refine AW.cond_no rfl c2 ?_
    refine AW.skip ?_
    refine AW.seq ?_
    refine AW.region ?_
    refine s_move (d := (D.one (C.ref 0 0))) rfl ?_
    refine s_nilCheck (d := (D.one (C.ref 0 0))) rfl (.inl ⟨_, _, rfl⟩) ?_
    refine s_fieldRef F.fo_49_2 (by decide) rfl ?_
    refine s_load1 (c' := (C.p true (.v (.int .i64 r1.2.err)))) F.ag_42 rfl rfl ?_
    refine s_assign (d := (sc (.int .i64 r1.2.err))) rfl ?_
    refine AWops.nil ?_
    refine AW.ret ?_
    obtain rfl := Option.some.inj h
    exact ⟨_, rfl, (Weak.gen (kk := 1) [0] [] rfl rfl (by decide) (by decide) rfl rfl rfl (le_upd (le_top _) (.t (.one .sc))) (All2.cons (.cells (fun h => h) (All2.cons .sc (All2.cons .same (All2.cons .sc All2.nil)))) All2.nil))⟩
def wire_Reader_Left.f (k : Nat) (p0 : wire_Reader) : Option (Int × wire_Reader) := (wire_Reader_none.f k p0).bind fun r1 => if r1.1 = true then (some (0, r1.2)) else (some ((r1.2.b.length : Int), r1.2))
theorem wire_Reader_Left.meets (k : Nat) (p0 : wire_Reader) (r : Int × wire_Reader) (h : wire_Reader_Left.f k p0 = some r) : Meets Try.prog 29 [(D.one (C.ref 0 0))] [(some (AObj.cells false [(C.p true (.v (.bool p0.made))), (C.p false (.sl p0.b.length (p0.b.flatMap e_u8))), (C.p true (.v (.int .i64 p0.err)))]))] (sc (.int .i64 r.1)) [(some (AObj.cells false [(C.p true (.v (.bool r.2.made))), (C.p false (.sl r.2.b.length (r.2.b.flatMap e_u8))), (C.p true (.v (.int .i64 r.2.err)))]))] := by
  unfold wire_Reader_Left.f at h
  refine Meets.of_body (n := 10) Try.func29 rfl rfl (Nat.le_of_ble_eq_true rfl) fun x hx => ?_
  replace hx : x.k = 1 := hx
  show AW _ x _ _ ⟨10, fr0 [(D.one (C.ref 0 0))], [(some (AObj.cells false [(C.p true (.v (.bool p0.made))), (C.p false (.sl p0.b.length (p0.b.flatMap e_u8))), (C.p true (.v (.int .i64 p0.err)))]))]⟩
  refine AW.seq ?_
  refine AW.region ?_
  refine s_assign (d := (sc (.int .i64 0))) rfl ?_
  refine AWops.nil ?_
  refine AW.seq ?_
  refine AW.seq ?_
  refine AW.region ?_
  refine s_move (d := (D.one (C.ref 0 0))) rfl ?_
  obtain ⟨r1, er1, h⟩ := Option.bind_eq_some_iff.mp h
  refine s_call (ρ := [0]) (br := false) (H2 := [(some (AObj.cells false [(C.p true (.v (.bool r1.2.made))), (C.p false (.sl r1.2.b.length (r1.2.b.flatMap e_u8))), (C.p true (.v (.int .i64 r1.2.err)))]))]) (d := (sc (.bool r1.1))) F.ca_47 rfl rfl (All2.cons (.one (.ref rfl)) All2.nil) (All2.cons (.cells (All2.cons .sc (All2.cons .imm (All2.cons .sc All2.nil)))) All2.nil) (by decide) rfl (wire_Reader_none.meets _ p0 r1 er1) (.inl rfl) rfl rfl ?_
  refine AWops.nil ?_
  by_cases c2 : r1.1 = true
  · replace h := (if_pos c2).symm.trans h
    refine AW.cond_yes rfl c2 ?_
    refine AW.seq ?_
    refine AW.region ?_
    refine s_assign (d := (sc (.int .i64 0))) rfl ?_
    refine AWops.nil ?_
    refine AW.ret ?_
    obtain rfl := Option.some.inj h
    exact ⟨_, rfl, (Weak.gen (kk := 1) [0] [] rfl rfl (by decide) (by decide) rfl rfl rfl (le_upd (le_top _) (.t (.one .sc))) (All2.cons (.cells (fun h => h) (All2.cons .sc (All2.cons .same (All2.cons .sc All2.nil)))) All2.nil))⟩
  · replace h := (if_neg c2).symm.trans h
    replace c2 := Bool.eq_false_iff.mpr c2
    refine AW.cond_no rfl c2 ?_
    refine AW.skip ?_
    refine AW.seq ?_
    refine AW.region ?_
    refine s_move (d := (D.one (C.ref 0 0))) rfl ?_
    refine s_nilCheck (d := (D.one (C.ref 0 0))) rfl (.inl ⟨_, _, rfl⟩) ?_
    refine s_fieldRef F.fo_49_1 (by decide) rfl ?_
    refine s_load1 (c' := (C.p false (.sl r1.2.b.length (r1.2.b.flatMap e_u8)))) F.ag_22 rfl rfl ?_
    refine s_len (n := r1.2.b.length) F.u_22 rfl (.inr ⟨(fun _ _ h => by cases h), ⟨_, rfl⟩⟩) ?_
    refine s_assign (d := (sc (.int .i64 (r1.2.b.length : Int)))) rfl ?_
    refine AWops.nil ?_
    refine AW.ret ?_
    obtain rfl := Option.some.inj h
    exact ⟨_, rfl, (Weak.gen (kk := 1) [0] [] rfl rfl (by decide) (by decide) rfl rfl rfl (le_upd (le_top _) (.t (.one .sc))) (All2.cons (.cells (fun h => h) (All2.cons .sc (All2.cons .same (All2.cons .sc All2.nil)))) All2.nil))⟩
def dossierlaw02_WireBack.f (k : Nat) (a0 : Int) (a1 : ByteArray) (a2 : Bool) (a3 : List Int) : Option Bool := if (decide (0 ≤ 0 ∧ 0 ≤ (if 3000 < (a1.size : Int) then 3000 else (a1.size : Int)) ∧ (if 3000 < (a1.size : Int) then 3000 else (a1.size : Int)) ≤ (a1.size : Int))) = true then ((wire_Int.f k ([] : List Int) a0).bind fun r2 => (wire_Text.f k r2 (a1.extract 0 (if 3000 < (a1.size : Int) then 3000 else (a1.size : Int)).toNat)).bind fun r3 => (wire_Flag.f k r3 a2).bind fun r4 => if (decide (r4.length + a3.length ≤ 140737488355328)) = true then ((wire_Open.f k (r4 ++ a3)).bind fun r6 => (wire_Reader_Int.f k r6 (-9223372036854775808) 9223372036854775807).bind fun r7 => if (r7.1 != a0) = true then (some false) else ((wire_Reader_Text.f k r7.2 3000).bind fun r9 => if (r9.1.toList == (a1.extract 0 (if 3000 < (a1.size : Int) then 3000 else (a1.size : Int)).toNat).toList) = true then ((wire_Reader_Flag.f k r9.2).bind fun r11 => if (r11.1 == a2) = true then ((wire_Reader_Err.f k r11.2).bind fun r13 => if (r13.1 != 0) = true then (some false) else ((wire_Reader_Left.f k r13.2).bind fun r15 => if (r15.1 != (a3.length : Int)) = true then (some false) else ((wire_Open.f k a3).bind fun r17 => (wire_Reader_Int.f k r17 (-9223372036854775808) 9223372036854775807).bind fun r18 => (wire_Reader_Text.f k r18.2 1048576).bind fun r19 => (wire_Reader_Err.f k r19.2).bind fun r20 => if (r20.1 != 0) = true then ((dossierlaw02_awake.f k).bind fun r22 => some r22) else ((wire_Reader_Left.f k r20.2).bind fun r23 => if (decide (r23.1 > (a3.length : Int))) = true then ((dossierlaw02_awake.f k).bind fun r25 => some r25) else ((wire_Int.f k ([] : List Int) r18.1).bind fun r26 => (wire_Text.f k r26 r19.1).bind fun r27 => (wire_Reader_Left.f k r23.2).bind fun r28 => if (decide (0 ≤ 0 ∧ 0 ≤ (IntKind.i64.wrap ((a3.length : Int) - r28.1)) ∧ (IntKind.i64.wrap ((a3.length : Int) - r28.1)) ≤ (a3.length : Int))) = true then ((bytes_Equal.f k r27 (sub a3 0 (IntKind.i64.wrap ((a3.length : Int) - r28.1)))).bind fun r30 => if r30 = true then ((dossierlaw02_awake.f k).bind fun r32 => some r32) else (some false)) else none))))) else (some false)) else (some false))) else none) else none
theorem dossierlaw02_WireBack.meets (k : Nat) (a0 : Int) (a1 : ByteArray) (a2 : Bool) (a3 : List Int) (r : Bool) (h : dossierlaw02_WireBack.f k a0 a1 a2 a3 = some r) : Meets Try.prog 6 [(sc (.int .i64 a0)), (sc (.string a1)), (sc (.bool a2)), (D.one (C.p false (.sl a3.length (a3.flatMap e_u8))))] [] (sc (.bool r)) [] := by
  unfold dossierlaw02_WireBack.f at h
  refine Meets.of_body (n := 84) Try.func6 rfl rfl (Nat.le_of_ble_eq_true rfl) fun x hx => ?_
  replace hx : x.k = 0 := hx
  show AW _ x _ _ ⟨84, fr0 [(sc (.int .i64 a0)), (sc (.string a1)), (sc (.bool a2)), (D.one (C.p false (.sl a3.length (a3.flatMap e_u8))))], []⟩
  refine AW.seq ?_
  refine AW.region ?_
  refine s_assign (d := (sc (.bool false))) rfl ?_
  refine AWops.nil ?_
  refine AW.seq ?_
  refine AW.region ?_
  refine s_move (d := (sc (.string a1))) rfl ?_
  refine s_move (d := (sc (.string a1))) rfl ?_
  refine s_len (n := a1.size) F.u_9 rfl (.inl ⟨⟨_, _, rfl⟩, rfl⟩) ?_
  refine s_min2 (r := (if 3000 < (a1.size : Int) then 3000 else (a1.size : Int))) rfl rfl rfl ?_
  by_cases c1 : (decide (0 ≤ 0 ∧ 0 ≤ (if 3000 < (a1.size : Int) then 3000 else (a1.size : Int)) ∧ (if 3000 < (a1.size : Int) then 3000 else (a1.size : Int)) ≤ (a1.size : Int))) = true
  · replace h := (if_pos c1).symm.trans h
    have dc1 := of_decide_eq_true c1
    refine s_sliceStr F.u_9 rfl .no (.yes rfl (by omega) rfl) (by omega) (by omega) ?_
    refine s_assign (d := (sc (.string (a1.extract 0 (if 3000 < (a1.size : Int) then 3000 else (a1.size : Int)).toNat)))) rfl ?_
    refine AWops.nil ?_
    refine AW.seq ?_
    refine AW.region ?_
    refine s_move (d := (sc (.int .i64 a0))) rfl ?_
    obtain ⟨r2, er2, h⟩ := Option.bind_eq_some_iff.mp h
    refine s_call (ρ := []) (br := false) (H2 := [(some (AObj.cells true (rowC e_u8 r2)))]) (d := (D.one (C.own 0 0 r2.length 1))) F.ca_11 rfl rfl (All2.cons (.one .nil) (All2.cons (.one .sc) All2.nil)) All2.nil (by decide) rfl (wire_Int.meets _ ([] : List Int) a0 r2 er2) (.inl rfl) (by first | rfl | (simp only [mergeH, mergeAt, mergeObj, renO, ren_row, List.drop_succ_cons, List.drop_zero, List.map_cons, List.map_nil, Option.map_some, Option.map_none, List.length_cons, List.length_nil, Nat.zero_add, List.append_assoc, List.cons_append, List.nil_append]; done) | (simp only [mergeH, mergeAt, mergeObj, renO, ren_row, List.drop_succ_cons, List.drop_zero, List.map_cons, List.map_nil, Option.map_some, Option.map_none, List.length_cons, List.length_nil, Nat.zero_add, List.append_assoc, List.cons_append, List.nil_append]; rfl)) rfl ?_
    refine s_move (d := (sc (.string (a1.extract 0 (if 3000 < (a1.size : Int) then 3000 else (a1.size : Int)).toNat)))) rfl ?_
    obtain ⟨r3, er3, h⟩ := Option.bind_eq_some_iff.mp h
    refine s_call (ρ := []) (br := true) (H2 := [(some (AObj.cells true (rowC e_u8 r2))), (some (AObj.cells true (rowC e_u8 r3)))]) (d := (D.one (C.own 1 0 r3.length 1))) F.ca_13 rfl rfl (All2.cons (.one (LendC.bor e_u8_len rfl rfl rfl)) (All2.cons (.one .sc) All2.nil)) All2.nil (by decide) rfl (wire_Text.meets _ r2 (a1.extract 0 (if 3000 < (a1.size : Int) then 3000 else (a1.size : Int)).toNat) r3 er3) (.inr ⟨rfl, by simp [frH, frC, fr_row e_u8_fr]⟩) (by first | rfl | (simp only [mergeH, mergeAt, mergeObj, renO, ren_row, List.drop_succ_cons, List.drop_zero, List.map_cons, List.map_nil, Option.map_some, Option.map_none, List.length_cons, List.length_nil, Nat.zero_add, List.append_assoc, List.cons_append, List.nil_append]; done) | (simp only [mergeH, mergeAt, mergeObj, renO, ren_row, List.drop_succ_cons, List.drop_zero, List.map_cons, List.map_nil, Option.map_some, Option.map_none, List.length_cons, List.length_nil, Nat.zero_add, List.append_assoc, List.cons_append, List.nil_append]; rfl)) rfl ?_
    refine s_move (d := (sc (.bool a2))) rfl ?_
    obtain ⟨r4, er4, h⟩ := Option.bind_eq_some_iff.mp h
    refine s_call (ρ := []) (br := true) (H2 := [(some (AObj.cells true (rowC e_u8 r2))), (some (AObj.cells true (rowC e_u8 r3))), (some (AObj.cells true (rowC e_u8 r4)))]) (d := (D.one (C.own 2 0 r4.length 1))) F.ca_15 rfl rfl (All2.cons (.one (LendC.bor e_u8_len rfl rfl rfl)) (All2.cons (.one .sc) All2.nil)) All2.nil (by decide) rfl (wire_Flag.meets _ r3 a2 r4 er4) (.inr ⟨rfl, by simp [frH, frC, fr_row e_u8_fr]⟩) (by first | rfl | (simp only [mergeH, mergeAt, mergeObj, renO, ren_row, List.drop_succ_cons, List.drop_zero, List.map_cons, List.map_nil, Option.map_some, Option.map_none, List.length_cons, List.length_nil, Nat.zero_add, List.append_assoc, List.cons_append, List.nil_append]; done) | (simp only [mergeH, mergeAt, mergeObj, renO, ren_row, List.drop_succ_cons, List.drop_zero, List.map_cons, List.map_nil, Option.map_some, Option.map_none, List.length_cons, List.length_nil, Nat.zero_add, List.append_assoc, List.cons_append, List.nil_append]; rfl)) rfl ?_
    refine s_move (d := (D.one (C.p false (.sl a3.length (a3.flatMap e_u8))))) rfl ?_
    by_cases c5 : (decide (r4.length + a3.length ≤ 140737488355328)) = true
    · replace h := (if_pos c5).symm.trans h
      have dc5 := of_decide_eq_true c5
      refine t_append (xs := r4) (ys := a3) (zs := r4 ++ a3) (H' := [(some (AObj.cells true (rowC e_u8 r2))), (some (AObj.cells true (rowC e_u8 r3))), none, (some (AObj.cells true (rowC e_u8 (r4 ++ a3))))]) F.u_22 F.in_5 rfl e_u8_len (.own rfl rfl) .imm F.u_22 (by omega) (by omega) rfl rfl ?_
      obtain ⟨r6, er6, h⟩ := Option.bind_eq_some_iff.mp h
      refine AWops.weak (st' := ⟨84, (upd 84 (upd 84 (upd 84 (upd 84 (upd 84 (upd 84 (upd 84 (upd 84 (upd 84 (upd 84 (upd 84 (upd 84 (upd 84 (upd 84 (upd 84 (upd 84 (upd 84 topF 0 (sc (.int .i64 a0))) 1 (sc (.string (a1.extract 0 (if 3000 < (a1.size : Int) then 3000 else (a1.size : Int)).toNat)))) 2 (sc (.bool a2))) 3 (D.one (C.p false (.sl a3.length (a3.flatMap e_u8))))) 8 (sc (.bool false))) 10 (sc (.string a1))) 11 (sc (.string a1))) 12 (sc (.int .i64 (a1.size : Int)))) 13 (sc (.int .i64 (if 3000 < (a1.size : Int) then 3000 else (a1.size : Int))))) 14 (sc (.string (a1.extract 0 (if 3000 < (a1.size : Int) then 3000 else (a1.size : Int)).toNat)))) 15 (sc (.int .i64 a0))) 16 (D.one (C.own 0 0 r2.length 1))) 17 (sc (.string (a1.extract 0 (if 3000 < (a1.size : Int) then 3000 else (a1.size : Int)).toNat)))) 18 (D.one (C.own 1 0 r3.length 1))) 19 (sc (.bool a2))) 21 (D.one (C.p false (.sl a3.length (a3.flatMap e_u8))))) 22 (D.one (C.p false (.sl (r4 ++ a3).length ((r4 ++ a3).flatMap e_u8))))), [(some (AObj.cells true (rowC e_u8 r2))), (some (AObj.cells true (rowC e_u8 r3)))]⟩) (Weak.gen (kk := 0) [0, 1] [3] hx rfl (by decide) (by decide) rfl rfl rfl (le_upd (le_upd (le_upd (le_upd (le_upd (le_upd (le_upd (le_upd (le_upd (le_upd (le_upd (le_upd (le_upd (le_upd (le_upd (le_upd (le_upd (le_top _) (.t (.one .sc))) (.t (.one .sc))) (.t (.one .sc))) (.t (.one .same))) (.t (.one .sc))) (.t (.one .sc))) (.t (.one .sc))) (.t (.one .sc))) (.t (.one .sc))) (.t (.one .sc))) (.t (.one .sc))) (.t (.one (.own rfl)))) (.t (.one .sc))) (.t (.one (.own rfl)))) (.t (.one .sc))) (.t (.one .same))) (.t (.one (CLe.frz e_u8_len rfl rfl rfl)))) (All2.cons (.cells (fun h => h) (all2_row _)) (All2.cons (.cells (fun h => h) (all2_row _)) All2.nil))) ?_
      refine s_call (ρ := []) (br := false) (H2 := [(some (AObj.cells true (rowC e_u8 r2))), (some (AObj.cells true (rowC e_u8 r3))), (some (AObj.cells true [(C.p true (.v (.bool r6.made))), (C.p false (.sl r6.b.length (r6.b.flatMap e_u8))), (C.p true (.v (.int .i64 r6.err)))]))]) (d := (D.one (C.ref 2 0))) F.ca_32 rfl rfl (All2.cons (.one .imm) All2.nil) All2.nil (by decide) rfl (wire_Open.meets _ (r4 ++ a3) r6 er6) (.inl rfl) rfl rfl ?_
      refine s_assign (d := (D.one (C.ref 2 0))) rfl ?_
      refine AWops.nil ?_
      refine AW.seq ?_
      refine AW.seq ?_
      refine AW.region ?_
      refine s_move (d := (D.one (C.ref 2 0))) rfl ?_
      obtain ⟨r7, er7, h⟩ := Option.bind_eq_some_iff.mp h
      refine s_call (ρ := [2]) (br := false) (H2 := [(some (AObj.cells true (rowC e_u8 r2))), (some (AObj.cells true (rowC e_u8 r3))), (some (AObj.cells true [(C.p true (.v (.bool r7.2.made))), (C.p false (.sl r7.2.b.length (r7.2.b.flatMap e_u8))), (C.p true (.v (.int .i64 r7.2.err)))]))]) (d := (sc (.int .i64 r7.1))) F.ca_26 rfl rfl (All2.cons (.one (.ref rfl)) (All2.cons (.one .sc) (All2.cons (.one .sc) All2.nil))) (All2.cons (.cells (All2.cons .sc (All2.cons .imm (All2.cons .sc All2.nil)))) All2.nil) (by decide) rfl (wire_Reader_Int.meets _ r6 (-9223372036854775808) 9223372036854775807 r7 er7) (.inl rfl) rfl rfl ?_
      refine s_move (d := (sc (.int .i64 a0))) rfl ?_
      refine s_binI (v := (.bool (r7.1 != a0))) rfl rfl rfl ?_
      refine s_move (d := (sc (.bool (r7.1 != a0)))) rfl ?_
      by_cases c8 : (r7.1 != a0) = true
      · replace h := (if_pos c8).symm.trans h
        refine AWops.guard_no rfl (Nat.le_of_ble_eq_true rfl) rfl c8 ?_
        refine AWops.guard_no rfl (Nat.le_of_ble_eq_true rfl) rfl c8 ?_
        refine AWops.guard_no rfl (Nat.le_of_ble_eq_true rfl) rfl c8 ?_
        refine AWops.guard_no rfl (Nat.le_of_ble_eq_true rfl) rfl c8 ?_
        refine s_pick_yes (d := (sc (.bool true))) rfl c8 rfl ?_
        refine s_move (d := (sc (.bool true))) rfl ?_
        refine AWops.guard_no rfl (Nat.le_of_ble_eq_true rfl) rfl rfl ?_
        refine AWops.guard_no rfl (Nat.le_of_ble_eq_true rfl) rfl rfl ?_
        refine AWops.guard_no rfl (Nat.le_of_ble_eq_true rfl) rfl rfl ?_
        refine AWops.guard_no rfl (Nat.le_of_ble_eq_true rfl) rfl rfl ?_
        refine s_pick_yes (d := (sc (.bool true))) rfl rfl rfl ?_
        refine s_move (d := (sc (.bool true))) rfl ?_
        refine AWops.guard_no rfl (Nat.le_of_ble_eq_true rfl) rfl rfl ?_
        refine AWops.guard_no rfl (Nat.le_of_ble_eq_true rfl) rfl rfl ?_
        refine AWops.guard_no rfl (Nat.le_of_ble_eq_true rfl) rfl rfl ?_
        refine s_pick_yes (d := (sc (.bool true))) rfl rfl rfl ?_
        refine s_move (d := (sc (.bool true))) rfl ?_
        refine AWops.guard_no rfl (Nat.le_of_ble_eq_true rfl) rfl rfl ?_
        refine AWops.guard_no rfl (Nat.le_of_ble_eq_true rfl) rfl rfl ?_
        refine AWops.guard_no rfl (Nat.le_of_ble_eq_true rfl) rfl rfl ?_
        refine AWops.guard_no rfl (Nat.le_of_ble_eq_true rfl) rfl rfl ?_
        refine AWops.guard_no rfl (Nat.le_of_ble_eq_true rfl) rfl rfl ?_
        refine s_pick_yes (d := (sc (.bool true))) rfl rfl rfl ?_
        refine AWops.nil ?_
        refine AW.cond_yes rfl rfl ?_
        refine AW.seq ?_
        refine AW.region ?_
        refine s_assign (d := (sc (.bool false))) rfl ?_
        refine AWops.nil ?_
        refine AW.ret ?_
        obtain rfl := Option.some.inj h
        exact ⟨_, rfl, (Weak.gen (kk := 0) [] [] rfl rfl (by decide) (by decide) rfl rfl rfl (le_upd (le_top _) (.t (.one .sc))) All2.nil)⟩
      · replace h := (if_neg c8).symm.trans h
        replace c8 := Bool.eq_false_iff.mpr c8
        refine AWops.guard_yes rfl (Nat.le_of_ble_eq_true rfl) rfl c8 ?_
        refine s_move (d := (D.one (C.ref 2 0))) rfl ?_
        refine AWops.guard_yes rfl (Nat.le_of_ble_eq_true rfl) rfl c8 ?_
        obtain ⟨r9, er9, h⟩ := Option.bind_eq_some_iff.mp h
        refine s_call (ρ := [2]) (br := false) (H2 := [(some (AObj.cells true (rowC e_u8 r2))), (some (AObj.cells true (rowC e_u8 r3))), (some (AObj.cells true [(C.p true (.v (.bool r9.2.made))), (C.p false (.sl r9.2.b.length (r9.2.b.flatMap e_u8))), (C.p true (.v (.int .i64 r9.2.err)))]))]) (d := (sc (.string r9.1))) F.ca_27 rfl rfl (All2.cons (.one (.ref rfl)) (All2.cons (.one .sc) All2.nil)) (All2.cons (.cells (All2.cons .sc (All2.cons .imm (All2.cons .sc All2.nil)))) All2.nil) (by decide) rfl (wire_Reader_Text.meets _ r7.2 3000 r9 er9) (.inl rfl) rfl rfl ?_
        refine AWops.guard_yes rfl (Nat.le_of_ble_eq_true rfl) rfl c8 ?_
        refine s_move (d := (sc (.string (a1.extract 0 (if 3000 < (a1.size : Int) then 3000 else (a1.size : Int)).toNat)))) rfl ?_
        refine AWops.guard_yes rfl (Nat.le_of_ble_eq_true rfl) rfl c8 ?_
        refine s_binS (v := (.bool (!(r9.1.toList == (a1.extract 0 (if 3000 < (a1.size : Int) then 3000 else (a1.size : Int)).toNat).toList)))) rfl rfl rfl ?_
        refine s_pick_no (d := (sc (.bool (!(r9.1.toList == (a1.extract 0 (if 3000 < (a1.size : Int) then 3000 else (a1.size : Int)).toNat).toList))))) rfl c8 rfl ?_
        refine s_move (d := (sc (.bool (!(r9.1.toList == (a1.extract 0 (if 3000 < (a1.size : Int) then 3000 else (a1.size : Int)).toNat).toList))))) rfl ?_
        by_cases c10 : (r9.1.toList == (a1.extract 0 (if 3000 < (a1.size : Int) then 3000 else (a1.size : Int)).toNat).toList) = true
        · replace h := (if_pos c10).symm.trans h
          refine AWops.guard_yes rfl (Nat.le_of_ble_eq_true rfl) rfl (by rw [c10] <;> rfl) ?_
          refine s_move (d := (D.one (C.ref 2 0))) rfl ?_
          refine AWops.guard_yes rfl (Nat.le_of_ble_eq_true rfl) rfl (by rw [c10] <;> rfl) ?_
          obtain ⟨r11, er11, h⟩ := Option.bind_eq_some_iff.mp h
          refine s_call (ρ := [2]) (br := false) (H2 := [(some (AObj.cells true (rowC e_u8 r2))), (some (AObj.cells true (rowC e_u8 r3))), (some (AObj.cells true [(C.p true (.v (.bool r11.2.made))), (C.p false (.sl r11.2.b.length (r11.2.b.flatMap e_u8))), (C.p true (.v (.int .i64 r11.2.err)))]))]) (d := (sc (.bool r11.1))) F.ca_28 rfl rfl (All2.cons (.one (.ref rfl)) All2.nil) (All2.cons (.cells (All2.cons .sc (All2.cons .imm (All2.cons .sc All2.nil)))) All2.nil) (by decide) rfl (wire_Reader_Flag.meets _ r9.2 r11 er11) (.inl rfl) rfl rfl ?_
          refine AWops.guard_yes rfl (Nat.le_of_ble_eq_true rfl) rfl (by rw [c10] <;> rfl) ?_
          refine s_move (d := (sc (.bool a2))) rfl ?_
          refine AWops.guard_yes rfl (Nat.le_of_ble_eq_true rfl) rfl (by rw [c10] <;> rfl) ?_
          refine s_binB (b := (!(r11.1 == a2))) F.u_4 rfl rfl (.inr ⟨rfl, rfl⟩) ?_
          refine s_pick_no (d := (sc (.bool (!(r11.1 == a2))))) rfl (by rw [c10] <;> rfl) rfl ?_
          refine s_move (d := (sc (.bool (!(r11.1 == a2))))) rfl ?_
          by_cases c12 : (r11.1 == a2) = true
          · replace h := (if_pos c12).symm.trans h
            refine AWops.guard_yes rfl (Nat.le_of_ble_eq_true rfl) rfl (by rw [c12] <;> rfl) ?_
            refine s_move (d := (D.one (C.ref 2 0))) rfl ?_
            refine AWops.guard_yes rfl (Nat.le_of_ble_eq_true rfl) rfl (by rw [c12] <;> rfl) ?_
            obtain ⟨r13, er13, h⟩ := Option.bind_eq_some_iff.mp h
            refine s_call (ρ := [2]) (br := false) (H2 := [(some (AObj.cells true (rowC e_u8 r2))), (some (AObj.cells true (rowC e_u8 r3))), (some (AObj.cells true [(C.p true (.v (.bool r13.2.made))), (C.p false (.sl r13.2.b.length (r13.2.b.flatMap e_u8))), (C.p true (.v (.int .i64 r13.2.err)))]))]) (d := (sc (.int .i64 r13.1))) F.ca_30 rfl rfl (All2.cons (.one (.ref rfl)) All2.nil) (All2.cons (.cells (All2.cons .sc (All2.cons .imm (All2.cons .sc All2.nil)))) All2.nil) (by decide) rfl (wire_Reader_Err.meets _ r11.2 r13 er13) (.inl rfl) rfl rfl ?_
            refine AWops.guard_yes rfl (Nat.le_of_ble_eq_true rfl) rfl (by rw [c12] <;> rfl) ?_
            refine s_binI (v := (.bool (r13.1 != 0))) rfl rfl rfl ?_
            refine s_pick_no (d := (sc (.bool (r13.1 != 0)))) rfl (by rw [c12] <;> rfl) rfl ?_
            refine s_move (d := (sc (.bool (r13.1 != 0)))) rfl ?_
            by_cases c14 : (r13.1 != 0) = true
            · replace h := (if_pos c14).symm.trans h
              refine AWops.guard_no rfl (Nat.le_of_ble_eq_true rfl) rfl c14 ?_
              refine AWops.guard_no rfl (Nat.le_of_ble_eq_true rfl) rfl c14 ?_
              refine AWops.guard_no rfl (Nat.le_of_ble_eq_true rfl) rfl c14 ?_
              refine AWops.guard_no rfl (Nat.le_of_ble_eq_true rfl) rfl c14 ?_
              refine AWops.guard_no rfl (Nat.le_of_ble_eq_true rfl) rfl c14 ?_
              refine s_pick_yes (d := (sc (.bool true))) rfl c14 rfl ?_
              refine AWops.nil ?_
              refine AW.cond_yes rfl rfl ?_
              refine AW.seq ?_
              refine AW.region ?_
              refine s_assign (d := (sc (.bool false))) rfl ?_
              refine AWops.nil ?_
              refine AW.ret ?_
              obtain rfl := Option.some.inj h
              exact ⟨_, rfl, (Weak.gen (kk := 0) [] [] rfl rfl (by decide) (by decide) rfl rfl rfl (le_upd (le_top _) (.t (.one .sc))) All2.nil)⟩
            · replace h := (if_neg c14).symm.trans h
              replace c14 := Bool.eq_false_iff.mpr c14
              refine AWops.guard_yes rfl (Nat.le_of_ble_eq_true rfl) rfl c14 ?_
              refine s_move (d := (D.one (C.ref 2 0))) rfl ?_
              refine AWops.guard_yes rfl (Nat.le_of_ble_eq_true rfl) rfl c14 ?_
              obtain ⟨r15, er15, h⟩ := Option.bind_eq_some_iff.mp h
              refine s_call (ρ := [2]) (br := false) (H2 := [(some (AObj.cells true (rowC e_u8 r2))), (some (AObj.cells true (rowC e_u8 r3))), (some (AObj.cells true [(C.p true (.v (.bool r15.2.made))), (C.p false (.sl r15.2.b.length (r15.2.b.flatMap e_u8))), (C.p true (.v (.int .i64 r15.2.err)))]))]) (d := (sc (.int .i64 r15.1))) F.ca_29 rfl rfl (All2.cons (.one (.ref rfl)) All2.nil) (All2.cons (.cells (All2.cons .sc (All2.cons .imm (All2.cons .sc All2.nil)))) All2.nil) (by decide) rfl (wire_Reader_Left.meets _ r13.2 r15 er15) (.inl rfl) rfl rfl ?_
              refine AWops.guard_yes rfl (Nat.le_of_ble_eq_true rfl) rfl c14 ?_
              refine s_move (d := (D.one (C.p false (.sl a3.length (a3.flatMap e_u8))))) rfl ?_
              refine AWops.guard_yes rfl (Nat.le_of_ble_eq_true rfl) rfl c14 ?_
              refine s_len (n := a3.length) F.u_22 rfl (.inr ⟨(fun _ _ h => by cases h), ⟨_, rfl⟩⟩) ?_
              refine AWops.guard_yes rfl (Nat.le_of_ble_eq_true rfl) rfl c14 ?_
              refine s_binI (v := (.bool (r15.1 != (a3.length : Int)))) rfl rfl rfl ?_
              refine s_pick_no (d := (sc (.bool (r15.1 != (a3.length : Int))))) rfl c14 rfl ?_
              refine AWops.nil ?_
              by_cases c16 : (r15.1 != (a3.length : Int)) = true
              · replace h := (if_pos c16).symm.trans h
                refine AW.cond_yes rfl c16 ?_
                refine AW.seq ?_
                refine AW.region ?_
                refine s_assign (d := (sc (.bool false))) rfl ?_
                refine AWops.nil ?_
                refine AW.ret ?_
                obtain rfl := Option.some.inj h
                exact ⟨_, rfl, (Weak.gen (kk := 0) [] [] rfl rfl (by decide) (by decide) rfl rfl rfl (le_upd (le_top _) (.t (.one .sc))) All2.nil)⟩
              · replace h := (if_neg c16).symm.trans h
                replace c16 := Bool.eq_false_iff.mpr c16
                refine AW.cond_no rfl c16 ?_
                refine AW.skip ?_
                refine AW.seq ?_
                refine AW.region ?_
                refine s_move (d := (D.one (C.p false (.sl a3.length (a3.flatMap e_u8))))) rfl ?_
                obtain ⟨r17, er17, h⟩ := Option.bind_eq_some_iff.mp h
                refine s_call (ρ := []) (br := false) (H2 := [(some (AObj.cells true (rowC e_u8 r2))), (some (AObj.cells true (rowC e_u8 r3))), (some (AObj.cells true [(C.p true (.v (.bool r15.2.made))), (C.p false (.sl r15.2.b.length (r15.2.b.flatMap e_u8))), (C.p true (.v (.int .i64 r15.2.err)))])), (some (AObj.cells true [(C.p true (.v (.bool r17.made))), (C.p false (.sl r17.b.length (r17.b.flatMap e_u8))), (C.p true (.v (.int .i64 r17.err)))]))]) (d := (D.one (C.ref 3 0))) F.ca_32 rfl rfl (All2.cons (.one .imm) All2.nil) All2.nil (by decide) rfl (wire_Open.meets _ a3 r17 er17) (.inl rfl) rfl rfl ?_
                refine s_assign (d := (D.one (C.ref 3 0))) rfl ?_
                refine AWops.nil ?_
                refine AW.seq ?_
                refine AW.region ?_
                refine s_move (d := (D.one (C.ref 3 0))) rfl ?_
                obtain ⟨r18, er18, h⟩ := Option.bind_eq_some_iff.mp h
                refine s_call (ρ := [3]) (br := false) (H2 := [(some (AObj.cells true (rowC e_u8 r2))), (some (AObj.cells true (rowC e_u8 r3))), (some (AObj.cells true [(C.p true (.v (.bool r15.2.made))), (C.p false (.sl r15.2.b.length (r15.2.b.flatMap e_u8))), (C.p true (.v (.int .i64 r15.2.err)))])), (some (AObj.cells true [(C.p true (.v (.bool r18.2.made))), (C.p false (.sl r18.2.b.length (r18.2.b.flatMap e_u8))), (C.p true (.v (.int .i64 r18.2.err)))]))]) (d := (sc (.int .i64 r18.1))) F.ca_26 rfl rfl (All2.cons (.one (.ref rfl)) (All2.cons (.one .sc) (All2.cons (.one .sc) All2.nil))) (All2.cons (.cells (All2.cons .sc (All2.cons .imm (All2.cons .sc All2.nil)))) All2.nil) (by decide) rfl (wire_Reader_Int.meets _ r17 (-9223372036854775808) 9223372036854775807 r18 er18) (.inl rfl) rfl rfl ?_
                refine s_move (d := (D.one (C.ref 3 0))) rfl ?_
                obtain ⟨r19, er19, h⟩ := Option.bind_eq_some_iff.mp h
                refine s_call (ρ := [3]) (br := false) (H2 := [(some (AObj.cells true (rowC e_u8 r2))), (some (AObj.cells true (rowC e_u8 r3))), (some (AObj.cells true [(C.p true (.v (.bool r15.2.made))), (C.p false (.sl r15.2.b.length (r15.2.b.flatMap e_u8))), (C.p true (.v (.int .i64 r15.2.err)))])), (some (AObj.cells true [(C.p true (.v (.bool r19.2.made))), (C.p false (.sl r19.2.b.length (r19.2.b.flatMap e_u8))), (C.p true (.v (.int .i64 r19.2.err)))]))]) (d := (sc (.string r19.1))) F.ca_27 rfl rfl (All2.cons (.one (.ref rfl)) (All2.cons (.one .sc) All2.nil)) (All2.cons (.cells (All2.cons .sc (All2.cons .imm (All2.cons .sc All2.nil)))) All2.nil) (by decide) rfl (wire_Reader_Text.meets _ r18.2 1048576 r19 er19) (.inl rfl) rfl rfl ?_
                refine s_assign (d := (sc (.int .i64 r18.1))) rfl ?_
                refine s_assign (d := (sc (.string r19.1))) rfl ?_
                refine AWops.nil ?_
                refine AW.seq ?_
                refine AW.seq ?_
                refine AW.region ?_
                refine s_move (d := (D.one (C.ref 3 0))) rfl ?_
                obtain ⟨r20, er20, h⟩ := Option.bind_eq_some_iff.mp h
                refine s_call (ρ := [3]) (br := false) (H2 := [(some (AObj.cells true (rowC e_u8 r2))), (some (AObj.cells true (rowC e_u8 r3))), (some (AObj.cells true [(C.p true (.v (.bool r15.2.made))), (C.p false (.sl r15.2.b.length (r15.2.b.flatMap e_u8))), (C.p true (.v (.int .i64 r15.2.err)))])), (some (AObj.cells true [(C.p true (.v (.bool r20.2.made))), (C.p false (.sl r20.2.b.length (r20.2.b.flatMap e_u8))), (C.p true (.v (.int .i64 r20.2.err)))]))]) (d := (sc (.int .i64 r20.1))) F.ca_30 rfl rfl (All2.cons (.one (.ref rfl)) All2.nil) (All2.cons (.cells (All2.cons .sc (All2.cons .imm (All2.cons .sc All2.nil)))) All2.nil) (by decide) rfl (wire_Reader_Err.meets _ r19.2 r20 er20) (.inl rfl) rfl rfl ?_
                refine s_binI (v := (.bool (r20.1 != 0))) rfl rfl rfl ?_
                refine s_move (d := (sc (.bool (r20.1 != 0)))) rfl ?_
                by_cases c21 : (r20.1 != 0) = true
                · replace h := (if_pos c21).symm.trans h
                  refine AWops.guard_no rfl (Nat.le_of_ble_eq_true rfl) rfl c21 ?_
                  refine AWops.guard_no rfl (Nat.le_of_ble_eq_true rfl) rfl c21 ?_
                  refine AWops.guard_no rfl (Nat.le_of_ble_eq_true rfl) rfl c21 ?_
                  refine AWops.guard_no rfl (Nat.le_of_ble_eq_true rfl) rfl c21 ?_
                  refine AWops.guard_no rfl (Nat.le_of_ble_eq_true rfl) rfl c21 ?_
                  refine s_pick_yes (d := (sc (.bool true))) rfl c21 rfl ?_
                  refine AWops.nil ?_
                  refine AW.cond_yes rfl rfl ?_
                  refine AW.seq ?_
                  refine AW.region ?_
                  obtain ⟨r22, er22, h⟩ := Option.bind_eq_some_iff.mp h
                  refine s_call (ρ := []) (br := false) (H2 := [(some (AObj.cells true (rowC e_u8 r2))), (some (AObj.cells true (rowC e_u8 r3))), (some (AObj.cells true [(C.p true (.v (.bool r15.2.made))), (C.p false (.sl r15.2.b.length (r15.2.b.flatMap e_u8))), (C.p true (.v (.int .i64 r15.2.err)))])), (some (AObj.cells true [(C.p true (.v (.bool r20.2.made))), (C.p false (.sl r20.2.b.length (r20.2.b.flatMap e_u8))), (C.p true (.v (.int .i64 r20.2.err)))]))]) (d := (sc (.bool r22))) F.ca_19 rfl rfl All2.nil All2.nil (by decide) rfl (dossierlaw02_awake.meets _  r22 er22) (.inl rfl) rfl rfl ?_
                  refine s_assign (d := (sc (.bool r22))) rfl ?_
                  refine AWops.nil ?_
                  refine AW.ret ?_
                  obtain rfl := Option.some.inj h
                  exact ⟨_, rfl, (Weak.gen (kk := 0) [] [] rfl rfl (by decide) (by decide) rfl rfl rfl (le_upd (le_top _) (.t (.one .sc))) All2.nil)⟩
                · replace h := (if_neg c21).symm.trans h
                  replace c21 := Bool.eq_false_iff.mpr c21
                  refine AWops.guard_yes rfl (Nat.le_of_ble_eq_true rfl) rfl c21 ?_
                  refine s_move (d := (D.one (C.ref 3 0))) rfl ?_
                  refine AWops.guard_yes rfl (Nat.le_of_ble_eq_true rfl) rfl c21 ?_
                  obtain ⟨r23, er23, h⟩ := Option.bind_eq_some_iff.mp h
                  refine s_call (ρ := [3]) (br := false) (H2 := [(some (AObj.cells true (rowC e_u8 r2))), (some (AObj.cells true (rowC e_u8 r3))), (some (AObj.cells true [(C.p true (.v (.bool r15.2.made))), (C.p false (.sl r15.2.b.length (r15.2.b.flatMap e_u8))), (C.p true (.v (.int .i64 r15.2.err)))])), (some (AObj.cells true [(C.p true (.v (.bool r23.2.made))), (C.p false (.sl r23.2.b.length (r23.2.b.flatMap e_u8))), (C.p true (.v (.int .i64 r23.2.err)))]))]) (d := (sc (.int .i64 r23.1))) F.ca_29 rfl rfl (All2.cons (.one (.ref rfl)) All2.nil) (All2.cons (.cells (All2.cons .sc (All2.cons .imm (All2.cons .sc All2.nil)))) All2.nil) (by decide) rfl (wire_Reader_Left.meets _ r20.2 r23 er23) (.inl rfl) rfl rfl ?_
                  refine AWops.guard_yes rfl (Nat.le_of_ble_eq_true rfl) rfl c21 ?_
                  refine s_move (d := (D.one (C.p false (.sl a3.length (a3.flatMap e_u8))))) rfl ?_
                  refine AWops.guard_yes rfl (Nat.le_of_ble_eq_true rfl) rfl c21 ?_
                  refine s_len (n := a3.length) F.u_22 rfl (.inr ⟨(fun _ _ h => by cases h), ⟨_, rfl⟩⟩) ?_
                  refine AWops.guard_yes rfl (Nat.le_of_ble_eq_true rfl) rfl c21 ?_
                  refine s_binI (v := (.bool (decide (r23.1 > (a3.length : Int))))) rfl rfl rfl ?_
                  refine s_pick_no (d := (sc (.bool (decide (r23.1 > (a3.length : Int)))))) rfl c21 rfl ?_
                  refine AWops.nil ?_
                  by_cases c24 : (decide (r23.1 > (a3.length : Int))) = true
                  · replace h := (if_pos c24).symm.trans h
                    refine AW.cond_yes rfl c24 ?_
                    refine AW.seq ?_
                    refine AW.region ?_
                    obtain ⟨r25, er25, h⟩ := Option.bind_eq_some_iff.mp h
                    refine s_call (ρ := []) (br := false) (H2 := [(some (AObj.cells true (rowC e_u8 r2))), (some (AObj.cells true (rowC e_u8 r3))), (some (AObj.cells true [(C.p true (.v (.bool r15.2.made))), (C.p false (.sl r15.2.b.length (r15.2.b.flatMap e_u8))), (C.p true (.v (.int .i64 r15.2.err)))])), (some (AObj.cells true [(C.p true (.v (.bool r23.2.made))), (C.p false (.sl r23.2.b.length (r23.2.b.flatMap e_u8))), (C.p true (.v (.int .i64 r23.2.err)))]))]) (d := (sc (.bool r25))) F.ca_19 rfl rfl All2.nil All2.nil (by decide) rfl (dossierlaw02_awake.meets _  r25 er25) (.inl rfl) rfl rfl ?_
                    refine s_assign (d := (sc (.bool r25))) rfl ?_
                    refine AWops.nil ?_
                    refine AW.ret ?_
                    obtain rfl := Option.some.inj h
                    exact ⟨_, rfl, (Weak.gen (kk := 0) [] [] rfl rfl (by decide) (by decide) rfl rfl rfl (le_upd (le_top _) (.t (.one .sc))) All2.nil)⟩
                  · replace h := (if_neg c24).symm.trans h
                    replace c24 := Bool.eq_false_iff.mpr c24
                    refine AW.cond_no rfl c24 ?_
                    refine AW.skip ?_
                    refine AW.seq ?_
                    refine AW.region ?_
                    refine s_move (d := (sc (.int .i64 r18.1))) rfl ?_
                    obtain ⟨r26, er26, h⟩ := Option.bind_eq_some_iff.mp h
                    refine s_call (ρ := []) (br := false) (H2 := [(some (AObj.cells true (rowC e_u8 r2))), (some (AObj.cells true (rowC e_u8 r3))), (some (AObj.cells true [(C.p true (.v (.bool r15.2.made))), (C.p false (.sl r15.2.b.length (r15.2.b.flatMap e_u8))), (C.p true (.v (.int .i64 r15.2.err)))])), (some (AObj.cells true [(C.p true (.v (.bool r23.2.made))), (C.p false (.sl r23.2.b.length (r23.2.b.flatMap e_u8))), (C.p true (.v (.int .i64 r23.2.err)))])), (some (AObj.cells true (rowC e_u8 r26)))]) (d := (D.one (C.own 4 0 r26.length 1))) F.ca_11 rfl rfl (All2.cons (.one .nil) (All2.cons (.one .sc) All2.nil)) All2.nil (by decide) rfl (wire_Int.meets _ ([] : List Int) r18.1 r26 er26) (.inl rfl) (by first | rfl | (simp only [mergeH, mergeAt, mergeObj, renO, ren_row, List.drop_succ_cons, List.drop_zero, List.map_cons, List.map_nil, Option.map_some, Option.map_none, List.length_cons, List.length_nil, Nat.zero_add, List.append_assoc, List.cons_append, List.nil_append]; done) | (simp only [mergeH, mergeAt, mergeObj, renO, ren_row, List.drop_succ_cons, List.drop_zero, List.map_cons, List.map_nil, Option.map_some, Option.map_none, List.length_cons, List.length_nil, Nat.zero_add, List.append_assoc, List.cons_append, List.nil_append]; rfl)) rfl ?_
                    refine s_move (d := (sc (.string r19.1))) rfl ?_
                    obtain ⟨r27, er27, h⟩ := Option.bind_eq_some_iff.mp h
                    refine s_call (ρ := []) (br := true) (H2 := [(some (AObj.cells true (rowC e_u8 r2))), (some (AObj.cells true (rowC e_u8 r3))), (some (AObj.cells true [(C.p true (.v (.bool r15.2.made))), (C.p false (.sl r15.2.b.length (r15.2.b.flatMap e_u8))), (C.p true (.v (.int .i64 r15.2.err)))])), (some (AObj.cells true [(C.p true (.v (.bool r23.2.made))), (C.p false (.sl r23.2.b.length (r23.2.b.flatMap e_u8))), (C.p true (.v (.int .i64 r23.2.err)))])), (some (AObj.cells true (rowC e_u8 r26))), (some (AObj.cells true (rowC e_u8 r27)))]) (d := (D.one (C.own 5 0 r27.length 1))) F.ca_13 rfl rfl (All2.cons (.one (LendC.bor e_u8_len rfl rfl rfl)) (All2.cons (.one .sc) All2.nil)) All2.nil (by decide) rfl (wire_Text.meets _ r26 r19.1 r27 er27) (.inr ⟨rfl, by simp [frH, frC, fr_row e_u8_fr]⟩) (by first | rfl | (simp only [mergeH, mergeAt, mergeObj, renO, ren_row, List.drop_succ_cons, List.drop_zero, List.map_cons, List.map_nil, Option.map_some, Option.map_none, List.length_cons, List.length_nil, Nat.zero_add, List.append_assoc, List.cons_append, List.nil_append]; done) | (simp only [mergeH, mergeAt, mergeObj, renO, ren_row, List.drop_succ_cons, List.drop_zero, List.map_cons, List.map_nil, Option.map_some, Option.map_none, List.length_cons, List.length_nil, Nat.zero_add, List.append_assoc, List.cons_append, List.nil_append]; rfl)) rfl ?_
                    refine s_move (d := (D.one (C.p false (.sl a3.length (a3.flatMap e_u8))))) rfl ?_
                    refine s_move (d := (D.one (C.p false (.sl a3.length (a3.flatMap e_u8))))) rfl ?_
                    refine s_len (n := a3.length) F.u_22 rfl (.inr ⟨(fun _ _ h => by cases h), ⟨_, rfl⟩⟩) ?_
                    refine s_move (d := (D.one (C.ref 3 0))) rfl ?_
                    obtain ⟨r28, er28, h⟩ := Option.bind_eq_some_iff.mp h
                    refine s_call (ρ := [3]) (br := false) (H2 := [(some (AObj.cells true (rowC e_u8 r2))), (some (AObj.cells true (rowC e_u8 r3))), (some (AObj.cells true [(C.p true (.v (.bool r15.2.made))), (C.p false (.sl r15.2.b.length (r15.2.b.flatMap e_u8))), (C.p true (.v (.int .i64 r15.2.err)))])), (some (AObj.cells true [(C.p true (.v (.bool r28.2.made))), (C.p false (.sl r28.2.b.length (r28.2.b.flatMap e_u8))), (C.p true (.v (.int .i64 r28.2.err)))])), (some (AObj.cells true (rowC e_u8 r26))), (some (AObj.cells true (rowC e_u8 r27)))]) (d := (sc (.int .i64 r28.1))) F.ca_29 rfl rfl (All2.cons (.one (.ref rfl)) All2.nil) (All2.cons (.cells (All2.cons .sc (All2.cons .imm (All2.cons .sc All2.nil)))) All2.nil) (by decide) rfl (wire_Reader_Left.meets _ r23.2 r28 er28) (.inl rfl) rfl rfl ?_
                    refine s_binI (v := (.int .i64 (IntKind.i64.wrap ((a3.length : Int) - r28.1)))) rfl rfl rfl ?_
                    by_cases c29 : (decide (0 ≤ 0 ∧ 0 ≤ (IntKind.i64.wrap ((a3.length : Int) - r28.1)) ∧ (IntKind.i64.wrap ((a3.length : Int) - r28.1)) ≤ (a3.length : Int))) = true
                    · replace h := (if_pos c29).symm.trans h
                      have dc29 := of_decide_eq_true c29
                      refine t_sliceImm (a := 0) (b := IntKind.i64.wrap ((a3.length : Int) - r28.1)) F.u_22 F.sz_5 e_u8_len rfl (by omega) (by omega) (by omega) .no (.yes rfl (by omega) rfl) ?_
                      obtain ⟨r30, er30, h⟩ := Option.bind_eq_some_iff.mp h
                      refine s_call (ρ := []) (br := true) (H2 := [(some (AObj.cells true (rowC e_u8 r2))), (some (AObj.cells true (rowC e_u8 r3))), (some (AObj.cells true [(C.p true (.v (.bool r15.2.made))), (C.p false (.sl r15.2.b.length (r15.2.b.flatMap e_u8))), (C.p true (.v (.int .i64 r15.2.err)))])), (some (AObj.cells true [(C.p true (.v (.bool r28.2.made))), (C.p false (.sl r28.2.b.length (r28.2.b.flatMap e_u8))), (C.p true (.v (.int .i64 r28.2.err)))])), (some (AObj.cells true (rowC e_u8 r26))), (some (AObj.cells true (rowC e_u8 r27)))]) (d := (sc (.bool r30))) F.ca_10 rfl rfl (All2.cons (.one (LendC.bor e_u8_len rfl rfl rfl)) (All2.cons (.one .imm) All2.nil)) All2.nil (by decide) rfl (bytes_Equal.meets _ r27 (sub a3 0 (IntKind.i64.wrap ((a3.length : Int) - r28.1))) r30 er30) (.inr ⟨rfl, rfl⟩) rfl rfl ?_
                      refine s_move (d := (sc (.bool r30))) rfl ?_
                      by_cases c31 : r30 = true
                      · replace h := (if_pos c31).symm.trans h
                        refine AWops.guard_yes rfl (Nat.le_of_ble_eq_true rfl) rfl c31 ?_
                        obtain ⟨r32, er32, h⟩ := Option.bind_eq_some_iff.mp h
                        refine s_call (ρ := []) (br := false) (H2 := [(some (AObj.cells true (rowC e_u8 r2))), (some (AObj.cells true (rowC e_u8 r3))), (some (AObj.cells true [(C.p true (.v (.bool r15.2.made))), (C.p false (.sl r15.2.b.length (r15.2.b.flatMap e_u8))), (C.p true (.v (.int .i64 r15.2.err)))])), (some (AObj.cells true [(C.p true (.v (.bool r28.2.made))), (C.p false (.sl r28.2.b.length (r28.2.b.flatMap e_u8))), (C.p true (.v (.int .i64 r28.2.err)))])), (some (AObj.cells true (rowC e_u8 r26))), (some (AObj.cells true (rowC e_u8 r27)))]) (d := (sc (.bool r32))) F.ca_19 rfl rfl All2.nil All2.nil (by decide) rfl (dossierlaw02_awake.meets _  r32 er32) (.inl rfl) rfl rfl ?_
                        refine s_pick_yes (d := (sc (.bool r32))) rfl c31 rfl ?_
                        refine s_assign (d := (sc (.bool r32))) rfl ?_
                        refine AWops.nil ?_
                        refine AW.ret ?_
                        obtain rfl := Option.some.inj h
                        exact ⟨_, rfl, (Weak.gen (kk := 0) [] [] rfl rfl (by decide) (by decide) rfl rfl rfl (le_upd (le_top _) (.t (.one .sc))) All2.nil)⟩
                      · replace h := (if_neg c31).symm.trans h
                        replace c31 := Bool.eq_false_iff.mpr c31
                        refine AWops.guard_no rfl (Nat.le_of_ble_eq_true rfl) rfl c31 ?_
                        refine s_pick_no (d := (sc (.bool false))) rfl c31 rfl ?_
                        refine s_assign (d := (sc (.bool false))) rfl ?_
                        refine AWops.nil ?_
                        refine AW.ret ?_
                        obtain rfl := Option.some.inj h
                        exact ⟨_, rfl, (Weak.gen (kk := 0) [] [] rfl rfl (by decide) (by decide) rfl rfl rfl (le_upd (le_top _) (.t (.one .sc))) All2.nil)⟩
                    · replace h := (if_neg c29).symm.trans h
                      cases h
          · replace h := (if_neg c12).symm.trans h
            replace c12 := Bool.eq_false_iff.mpr c12
            refine AWops.guard_no rfl (Nat.le_of_ble_eq_true rfl) rfl (by rw [c12] <;> rfl) ?_
            refine AWops.guard_no rfl (Nat.le_of_ble_eq_true rfl) rfl (by rw [c12] <;> rfl) ?_
            refine AWops.guard_no rfl (Nat.le_of_ble_eq_true rfl) rfl (by rw [c12] <;> rfl) ?_
            refine s_pick_yes (d := (sc (.bool true))) rfl (by rw [c12] <;> rfl) rfl ?_
            refine s_move (d := (sc (.bool true))) rfl ?_
            refine AWops.guard_no rfl (Nat.le_of_ble_eq_true rfl) rfl rfl ?_
            refine AWops.guard_no rfl (Nat.le_of_ble_eq_true rfl) rfl rfl ?_
            refine AWops.guard_no rfl (Nat.le_of_ble_eq_true rfl) rfl rfl ?_
            refine AWops.guard_no rfl (Nat.le_of_ble_eq_true rfl) rfl rfl ?_
            refine AWops.guard_no rfl (Nat.le_of_ble_eq_true rfl) rfl rfl ?_
            refine s_pick_yes (d := (sc (.bool true))) rfl rfl rfl ?_
            refine AWops.nil ?_
            refine AW.cond_yes rfl rfl ?_
            refine AW.seq ?_
            refine AW.region ?_
            refine s_assign (d := (sc (.bool false))) rfl ?_
            refine AWops.nil ?_
            refine AW.ret ?_
            obtain rfl := Option.some.inj h
            exact ⟨_, rfl, (Weak.gen (kk := 0) [] [] rfl rfl (by decide) (by decide) rfl rfl rfl (le_upd (le_top _) (.t (.one .sc))) All2.nil)⟩
        · replace h := (if_neg c10).symm.trans h
          replace c10 := Bool.eq_false_iff.mpr c10
          refine AWops.guard_no rfl (Nat.le_of_ble_eq_true rfl) rfl (by rw [c10] <;> rfl) ?_
          refine AWops.guard_no rfl (Nat.le_of_ble_eq_true rfl) rfl (by rw [c10] <;> rfl) ?_
          refine AWops.guard_no rfl (Nat.le_of_ble_eq_true rfl) rfl (by rw [c10] <;> rfl) ?_
          refine AWops.guard_no rfl (Nat.le_of_ble_eq_true rfl) rfl (by rw [c10] <;> rfl) ?_
          refine s_pick_yes (d := (sc (.bool true))) rfl (by rw [c10] <;> rfl) rfl ?_
          refine s_move (d := (sc (.bool true))) rfl ?_
          refine AWops.guard_no rfl (Nat.le_of_ble_eq_true rfl) rfl rfl ?_
          refine AWops.guard_no rfl (Nat.le_of_ble_eq_true rfl) rfl rfl ?_
          refine AWops.guard_no rfl (Nat.le_of_ble_eq_true rfl) rfl rfl ?_
          refine s_pick_yes (d := (sc (.bool true))) rfl rfl rfl ?_
          refine s_move (d := (sc (.bool true))) rfl ?_
          refine AWops.guard_no rfl (Nat.le_of_ble_eq_true rfl) rfl rfl ?_
          refine AWops.guard_no rfl (Nat.le_of_ble_eq_true rfl) rfl rfl ?_
          refine AWops.guard_no rfl (Nat.le_of_ble_eq_true rfl) rfl rfl ?_
          refine AWops.guard_no rfl (Nat.le_of_ble_eq_true rfl) rfl rfl ?_
          refine AWops.guard_no rfl (Nat.le_of_ble_eq_true rfl) rfl rfl ?_
          refine s_pick_yes (d := (sc (.bool true))) rfl rfl rfl ?_
          refine AWops.nil ?_
          refine AW.cond_yes rfl rfl ?_
          refine AW.seq ?_
          refine AW.region ?_
          refine s_assign (d := (sc (.bool false))) rfl ?_
          refine AWops.nil ?_
          refine AW.ret ?_
          obtain rfl := Option.some.inj h
          exact ⟨_, rfl, (Weak.gen (kk := 0) [] [] rfl rfl (by decide) (by decide) rfl rfl rfl (le_upd (le_top _) (.t (.one .sc))) All2.nil)⟩
    · replace h := (if_neg c5).symm.trans h
      cases h
  · replace h := (if_neg c1).symm.trans h
    cases h
def wire_Reader_none_nil0.f (k : Nat) : Option Bool := some true
theorem wire_Reader_none_nil0.meets (k : Nat) (r : Bool) (h : wire_Reader_none_nil0.f k = some r) : Meets Try.prog 47 [(sc (.pointer none))] [] (sc (.bool r)) [] := by
  unfold wire_Reader_none_nil0.f at h
  refine Meets.of_body (n := 12) Try.func47 rfl rfl (Nat.le_of_ble_eq_true rfl) fun x hx => ?_
  replace hx : x.k = 0 := hx
  show AW _ x _ _ ⟨12, fr0 [(sc (.pointer none))], []⟩
  refine AW.seq ?_
  refine AW.region ?_
  refine s_assign (d := (sc (.bool false))) rfl ?_
  refine AWops.nil ?_
  refine AW.seq ?_
  refine AW.region ?_
  refine s_move (d := (sc (.pointer none))) rfl ?_
  refine s_ptrNil (b := true) F.u_47 rfl (.inr ⟨⟨_, rfl⟩, rfl⟩) (.inl rfl) ?_
  refine s_move (d := (sc (.bool true))) rfl ?_
  refine AWops.guard_no rfl (Nat.le_of_ble_eq_true rfl) rfl rfl ?_
  refine AWops.guard_no rfl (Nat.le_of_ble_eq_true rfl) rfl rfl ?_
  refine AWops.guard_no rfl (Nat.le_of_ble_eq_true rfl) rfl rfl ?_
  refine AWops.guard_no rfl (Nat.le_of_ble_eq_true rfl) rfl rfl ?_
  refine AWops.guard_no rfl (Nat.le_of_ble_eq_true rfl) rfl rfl ?_
  refine s_pick_yes (d := (sc (.bool true))) rfl rfl rfl ?_
  refine s_assign (d := (sc (.bool true))) rfl ?_
  refine AWops.nil ?_
  refine AW.ret ?_
  obtain rfl := Option.some.inj h
  exact ⟨_, rfl, (Weak.gen (kk := 0) [] [] rfl rfl (by decide) (by decide) rfl rfl rfl (le_upd (le_top _) (.t (.one .sc))) All2.nil)⟩
theorem wire_Reader_none_nil0.const {k : Nat} {r : Bool} (h : wire_Reader_none_nil0.f k = some r) : r = true := by
  unfold wire_Reader_none_nil0.f at h
  exact (Option.some.inj h).symm
def wire_Reader_byte_nil0.f (k : Nat) : Option (Int × Bool) := (wire_Reader_none_nil0.f k).bind fun r1 => some (0, false)
theorem wire_Reader_byte_nil0.meets (k : Nat) (r : Int × Bool) (h : wire_Reader_byte_nil0.f k = some r) : Meets Try.prog 45 [(sc (.pointer none))] [] (D.tup [(sc (.int .u8 r.1)), (sc (.bool r.2))]) [] := by
  unfold wire_Reader_byte_nil0.f at h
  refine Meets.of_body (n := 37) Try.func45 rfl rfl (Nat.le_of_ble_eq_true rfl) fun x hx => ?_
  replace hx : x.k = 0 := hx
  show AW _ x _ _ ⟨37, fr0 [(sc (.pointer none))], []⟩
  refine AW.seq ?_
  refine AW.region ?_
  refine s_assign (d := (sc (.int .u8 0))) rfl ?_
  refine s_assign (d := (sc (.bool false))) rfl ?_
  refine AWops.nil ?_
  refine AW.seq ?_
  refine AW.seq ?_
  refine AW.region ?_
  refine s_move (d := (sc (.pointer none))) rfl ?_
  obtain ⟨r1, er1, h⟩ := Option.bind_eq_some_iff.mp h
  have kr1 := wire_Reader_none_nil0.const er1
  subst kr1
  refine s_call (ρ := []) (br := false) (H2 := []) (d := (sc (.bool true))) F.ca_47 rfl rfl (All2.cons (.one .sc) All2.nil) All2.nil (by decide) rfl (wire_Reader_none_nil0.meets _  true er1) (.inl rfl) rfl rfl ?_
  refine s_move (d := (sc (.bool true))) rfl ?_
  refine AWops.guard_no rfl (Nat.le_of_ble_eq_true rfl) rfl rfl ?_
  refine AWops.guard_no rfl (Nat.le_of_ble_eq_true rfl) rfl rfl ?_
  refine AWops.guard_no rfl (Nat.le_of_ble_eq_true rfl) rfl rfl ?_
  refine AWops.guard_no rfl (Nat.le_of_ble_eq_true rfl) rfl rfl ?_
  refine AWops.guard_no rfl (Nat.le_of_ble_eq_true rfl) rfl rfl ?_
  refine s_pick_yes (d := (sc (.bool true))) rfl rfl rfl ?_
  refine AWops.nil ?_
  refine AW.cond_yes rfl rfl ?_
  refine AW.seq ?_
  refine AW.region ?_
  refine s_assign (d := (sc (.int .u8 0))) rfl ?_
  refine s_assign (d := (sc (.bool false))) rfl ?_
  refine AWops.nil ?_
  refine AW.ret ?_
  obtain rfl := Option.some.inj h
  exact ⟨_, rfl, (Weak.gen (kk := 0) [] [] rfl rfl (by decide) (by decide) rfl rfl rfl (le_upd (le_top _) (DLe.tup (All2.cons (TLe.one .sc) (All2.cons (TLe.one .sc) All2.nil)))) All2.nil)⟩
theorem wire_Reader_byte_nil0.const {k : Nat} {r : Int × Bool} (h : wire_Reader_byte_nil0.f k = some r) : r = (0, false) := by
  unfold wire_Reader_byte_nil0.f at h
  obtain ⟨_, _, h⟩ := Option.bind_eq_some_iff.mp h
  exact (Option.some.inj h).symm
def wire_Reader_Int_nil0.f (k : Nat) (a1 : Int) (a2 : Int) : Option Int := (wire_Reader_byte_nil0.f k).bind fun r1 => some 0
theorem wire_Reader_Int_nil0.meets (k : Nat) (a1 : Int) (a2 : Int) (r : Int) (h : wire_Reader_Int_nil0.f k a1 a2 = some r) : Meets Try.prog 26 [(sc (.pointer none)), (sc (.int .i64 a1)), (sc (.int .i64 a2))] [] (sc (.int .i64 r)) [] := by
  unfold wire_Reader_Int_nil0.f at h
  refine Meets.of_body (n := 66) Try.func26 rfl rfl (Nat.le_of_ble_eq_true rfl) fun x hx => ?_
  replace hx : x.k = 0 := hx
  show AW _ x _ _ ⟨66, fr0 [(sc (.pointer none)), (sc (.int .i64 a1)), (sc (.int .i64 a2))], []⟩
  refine AW.seq ?_
  refine AW.region ?_
  refine s_assign (d := (sc (.int .i64 0))) rfl ?_
  refine AWops.nil ?_
  refine AW.seq ?_
  refine AW.region ?_
  refine s_assign (d := (sc (.int .u64 0))) rfl ?_
  refine AWops.nil ?_
  refine AW.seq ?_
  refine AW.seq ?_
  refine AW.region ?_
  refine s_assign (d := (sc (.int .i64 0))) rfl ?_
  refine AWops.nil ?_
  refine AW.block ?_
  refine AW.unroll 9 ?_
  refine U.step ?_
  refine AW.seq ?_
  refine AW.block ?_
  refine AW.seq ?_
  refine AW.region ?_
  refine s_move (d := (sc (.pointer none))) rfl ?_
  obtain ⟨r1, er1, h⟩ := Option.bind_eq_some_iff.mp h
  have kr1 := wire_Reader_byte_nil0.const er1
  subst kr1
  refine s_call (ρ := []) (br := false) (H2 := []) (d := (D.tup [(sc (.int .u8 0)), (sc (.bool false))])) F.ca_45 rfl rfl (All2.cons (.one .sc) All2.nil) All2.nil (by decide) rfl (wire_Reader_byte_nil0.meets _  (0, false) er1) (.inl rfl) rfl rfl ?_
  refine s_move (d := (D.tup [(sc (.int .u8 0)), (sc (.bool false))])) rfl ?_
  refine s_extract (d := (sc (.int .u8 0))) rfl rfl ?_
  refine s_extract (d := (sc (.bool false))) rfl rfl ?_
  refine s_assign (d := (sc (.int .u8 0))) rfl ?_
  refine s_assign (d := (sc (.bool false))) rfl ?_
  refine AWops.nil ?_
  refine AW.seq ?_
  refine AW.block ?_
  refine AW.seq ?_
  refine AW.region ?_
  refine s_move (d := (sc (.bool false))) rfl ?_
  refine s_not rfl ?_
  refine s_assign (d := (sc (.bool true))) rfl ?_
  refine AWops.nil ?_
  refine AW.cond_yes rfl rfl ?_
  refine AW.seq ?_
  refine AW.region ?_
  refine s_assign (d := (sc (.int .i64 0))) rfl ?_
  refine AWops.nil ?_
  refine AW.ret ?_
  obtain rfl := Option.some.inj h
  exact ⟨_, rfl, (Weak.gen (kk := 0) [] [] rfl rfl (by decide) (by decide) rfl rfl rfl (le_upd (le_top _) (.t (.one .sc))) All2.nil)⟩
theorem wire_Reader_Int_nil0.const {k : Nat} {a1 : Int} {a2 : Int} {r : Int} (h : wire_Reader_Int_nil0.f k a1 a2 = some r) : r = 0 := by
  unfold wire_Reader_Int_nil0.f at h
  obtain ⟨_, _, h⟩ := Option.bind_eq_some_iff.mp h
  exact (Option.some.inj h).symm
def wire_Reader_Text_nil0.f (k : Nat) (a1 : Int) : Option ByteArray := (wire_Reader_Int_nil0.f k 0 a1).bind fun r1 => (wire_Reader_none_nil0.f k).bind fun r2 => some (⟨#[]⟩ : ByteArray)
theorem wire_Reader_Text_nil0.meets (k : Nat) (a1 : Int) (r : ByteArray) (h : wire_Reader_Text_nil0.f k a1 = some r) : Meets Try.prog 27 [(sc (.pointer none)), (sc (.int .i64 a1))] [] (sc (.string r)) [] := by
  unfold wire_Reader_Text_nil0.f at h
  refine Meets.of_body (n := 47) Try.func27 rfl rfl (Nat.le_of_ble_eq_true rfl) fun x hx => ?_
  replace hx : x.k = 0 := hx
  show AW _ x _ _ ⟨47, fr0 [(sc (.pointer none)), (sc (.int .i64 a1))], []⟩
  refine AW.seq ?_
  refine AW.region ?_
  refine s_assign (d := (sc (.string (⟨#[]⟩ : ByteArray)))) rfl ?_
  refine AWops.nil ?_
  refine AW.seq ?_
  refine AW.region ?_
  refine s_move (d := (sc (.pointer none))) rfl ?_
  refine s_move (d := (sc (.int .i64 a1))) rfl ?_
  obtain ⟨r1, er1, h⟩ := Option.bind_eq_some_iff.mp h
  have kr1 := wire_Reader_Int_nil0.const er1
  subst kr1
  refine s_call (ρ := []) (br := false) (H2 := []) (d := (sc (.int .i64 0))) F.ca_26 rfl rfl (All2.cons (.one .sc) (All2.cons (.one .sc) (All2.cons (.one .sc) All2.nil))) All2.nil (by decide) rfl (wire_Reader_Int_nil0.meets _ 0 a1 0 er1) (.inl rfl) rfl rfl ?_
  refine s_assign (d := (sc (.int .i64 0))) rfl ?_
  refine AWops.nil ?_
  refine AW.seq ?_
  refine AW.block ?_
  refine AW.seq ?_
  refine AW.region ?_
  refine s_move (d := (sc (.pointer none))) rfl ?_
  obtain ⟨r2, er2, h⟩ := Option.bind_eq_some_iff.mp h
  have kr2 := wire_Reader_none_nil0.const er2
  subst kr2
  refine s_call (ρ := []) (br := false) (H2 := []) (d := (sc (.bool true))) F.ca_47 rfl rfl (All2.cons (.one .sc) All2.nil) All2.nil (by decide) rfl (wire_Reader_none_nil0.meets _  true er2) (.inl rfl) rfl rfl ?_
  refine s_move (d := (sc (.bool true))) rfl ?_
  refine AWops.guard_no rfl (Nat.le_of_ble_eq_true rfl) rfl rfl ?_
  refine AWops.guard_no rfl (Nat.le_of_ble_eq_true rfl) rfl rfl ?_
  refine AWops.guard_no rfl (Nat.le_of_ble_eq_true rfl) rfl rfl ?_
  refine AWops.guard_no rfl (Nat.le_of_ble_eq_true rfl) rfl rfl ?_
  refine AWops.guard_no rfl (Nat.le_of_ble_eq_true rfl) rfl rfl ?_
  refine s_pick_yes (d := (sc (.bool true))) rfl rfl rfl ?_
  refine s_assign (d := (sc (.bool true))) rfl ?_
  refine AWops.nil ?_
  refine AW.cond_yes rfl rfl ?_
  refine AW.seq ?_
  refine AW.region ?_
  refine s_assign (d := (sc (.string (⟨#[]⟩ : ByteArray)))) rfl ?_
  refine AWops.nil ?_
  refine AW.ret ?_
  obtain rfl := Option.some.inj h
  exact ⟨_, rfl, (Weak.gen (kk := 0) [] [] rfl rfl (by decide) (by decide) rfl rfl rfl (le_upd (le_top _) (.t (.one .sc))) All2.nil)⟩
theorem wire_Reader_Text_nil0.const {k : Nat} {a1 : Int} {r : ByteArray} (h : wire_Reader_Text_nil0.f k a1 = some r) : r = (⟨#[]⟩ : ByteArray) := by
  unfold wire_Reader_Text_nil0.f at h
  obtain ⟨_, _, h⟩ := Option.bind_eq_some_iff.mp h
  obtain ⟨_, _, h⟩ := Option.bind_eq_some_iff.mp h
  exact (Option.some.inj h).symm
def wire_Reader_Flag_nil0.f (k : Nat) : Option Bool := (wire_Reader_byte_nil0.f k).bind fun r1 => some false
theorem wire_Reader_Flag_nil0.meets (k : Nat) (r : Bool) (h : wire_Reader_Flag_nil0.f k = some r) : Meets Try.prog 28 [(sc (.pointer none))] [] (sc (.bool r)) [] := by
  unfold wire_Reader_Flag_nil0.f at h
  refine Meets.of_body (n := 22) Try.func28 rfl rfl (Nat.le_of_ble_eq_true rfl) fun x hx => ?_
  replace hx : x.k = 0 := hx
  show AW _ x _ _ ⟨22, fr0 [(sc (.pointer none))], []⟩
  refine AW.seq ?_
  refine AW.region ?_
  refine s_assign (d := (sc (.bool false))) rfl ?_
  refine AWops.nil ?_
  refine AW.seq ?_
  refine AW.region ?_
  refine s_move (d := (sc (.pointer none))) rfl ?_
  obtain ⟨r1, er1, h⟩ := Option.bind_eq_some_iff.mp h
  have kr1 := wire_Reader_byte_nil0.const er1
  subst kr1
  refine s_call (ρ := []) (br := false) (H2 := []) (d := (D.tup [(sc (.int .u8 0)), (sc (.bool false))])) F.ca_45 rfl rfl (All2.cons (.one .sc) All2.nil) All2.nil (by decide) rfl (wire_Reader_byte_nil0.meets _  (0, false) er1) (.inl rfl) rfl rfl ?_
  refine s_move (d := (D.tup [(sc (.int .u8 0)), (sc (.bool false))])) rfl ?_
  refine s_extract (d := (sc (.int .u8 0))) rfl rfl ?_
  refine s_extract (d := (sc (.bool false))) rfl rfl ?_
  refine s_assign (d := (sc (.int .u8 0))) rfl ?_
  refine s_assign (d := (sc (.bool false))) rfl ?_
  refine AWops.nil ?_
  refine AW.seq ?_
  refine AW.seq ?_
  refine AW.region ?_
  refine s_move (d := (sc (.bool false))) rfl ?_
  refine s_move (d := (sc (.bool false))) rfl ?_
  refine AWops.guard_no rfl (Nat.le_of_ble_eq_true rfl) rfl rfl ?_
  refine AWops.guard_no rfl (Nat.le_of_ble_eq_true rfl) rfl rfl ?_
  refine s_pick_no (d := (sc (.bool false))) rfl rfl rfl ?_
  refine AWops.nil ?_
  refine AW.cond_no rfl rfl ?_
  refine AW.skip ?_
  refine AW.seq ?_
  refine AW.region ?_
  refine s_move (d := (sc (.bool false))) rfl ?_
  refine s_move (d := (sc (.bool false))) rfl ?_
  refine AWops.guard_no rfl (Nat.le_of_ble_eq_true rfl) rfl rfl ?_
  refine AWops.guard_no rfl (Nat.le_of_ble_eq_true rfl) rfl rfl ?_
  refine s_pick_no (d := (sc (.bool false))) rfl rfl rfl ?_
  refine s_assign (d := (sc (.bool false))) rfl ?_
  refine AWops.nil ?_
  refine AW.ret ?_
  obtain rfl := Option.some.inj h
  exact ⟨_, rfl, (Weak.gen (kk := 0) [] [] rfl rfl (by decide) (by decide) rfl rfl rfl (le_upd (le_top _) (.t (.one .sc))) All2.nil)⟩
theorem wire_Reader_Flag_nil0.const {k : Nat} {r : Bool} (h : wire_Reader_Flag_nil0.f k = some r) : r = false := by
  unfold wire_Reader_Flag_nil0.f at h
  obtain ⟨_, _, h⟩ := Option.bind_eq_some_iff.mp h
  exact (Option.some.inj h).symm
def wire_Reader_Left_nil0.f (k : Nat) : Option Int := (wire_Reader_none_nil0.f k).bind fun r1 => some 0
theorem wire_Reader_Left_nil0.meets (k : Nat) (r : Int) (h : wire_Reader_Left_nil0.f k = some r) : Meets Try.prog 29 [(sc (.pointer none))] [] (sc (.int .i64 r)) [] := by
  unfold wire_Reader_Left_nil0.f at h
  refine Meets.of_body (n := 10) Try.func29 rfl rfl (Nat.le_of_ble_eq_true rfl) fun x hx => ?_
  replace hx : x.k = 0 := hx
  show AW _ x _ _ ⟨10, fr0 [(sc (.pointer none))], []⟩
  refine AW.seq ?_
  refine AW.region ?_
  refine s_assign (d := (sc (.int .i64 0))) rfl ?_
  refine AWops.nil ?_
  refine AW.seq ?_
  refine AW.seq ?_
  refine AW.region ?_
  refine s_move (d := (sc (.pointer none))) rfl ?_
  obtain ⟨r1, er1, h⟩ := Option.bind_eq_some_iff.mp h
  have kr1 := wire_Reader_none_nil0.const er1
  subst kr1
  refine s_call (ρ := []) (br := false) (H2 := []) (d := (sc (.bool true))) F.ca_47 rfl rfl (All2.cons (.one .sc) All2.nil) All2.nil (by decide) rfl (wire_Reader_none_nil0.meets _  true er1) (.inl rfl) rfl rfl ?_
  refine AWops.nil ?_
  refine AW.cond_yes rfl rfl ?_
  refine AW.seq ?_
  refine AW.region ?_
  refine s_assign (d := (sc (.int .i64 0))) rfl ?_
  refine AWops.nil ?_
  refine AW.ret ?_
  obtain rfl := Option.some.inj h
  exact ⟨_, rfl, (Weak.gen (kk := 0) [] [] rfl rfl (by decide) (by decide) rfl rfl rfl (le_upd (le_top _) (.t (.one .sc))) All2.nil)⟩
theorem wire_Reader_Left_nil0.const {k : Nat} {r : Int} (h : wire_Reader_Left_nil0.f k = some r) : r = 0 := by
  unfold wire_Reader_Left_nil0.f at h
  obtain ⟨_, _, h⟩ := Option.bind_eq_some_iff.mp h
  exact (Option.some.inj h).symm
def wire_Reader_Err_nil0.f (k : Nat) : Option Int := (wire_Reader_none_nil0.f k).bind fun r1 => some 2
theorem wire_Reader_Err_nil0.meets (k : Nat) (r : Int) (h : wire_Reader_Err_nil0.f k = some r) : Meets Try.prog 30 [(sc (.pointer none))] [] (sc (.int .i64 r)) [] := by
  unfold wire_Reader_Err_nil0.f at h
  refine Meets.of_body (n := 9) Try.func30 rfl rfl (Nat.le_of_ble_eq_true rfl) fun x hx => ?_
  replace hx : x.k = 0 := hx
  show AW _ x _ _ ⟨9, fr0 [(sc (.pointer none))], []⟩
  refine AW.seq ?_
  refine AW.region ?_
  refine s_assign (d := (sc (.int .i64 0))) rfl ?_
  refine AWops.nil ?_
  refine AW.seq ?_
  refine AW.seq ?_
  refine AW.region ?_
  refine s_move (d := (sc (.pointer none))) rfl ?_
  obtain ⟨r1, er1, h⟩ := Option.bind_eq_some_iff.mp h
  have kr1 := wire_Reader_none_nil0.const er1
  subst kr1
  refine s_call (ρ := []) (br := false) (H2 := []) (d := (sc (.bool true))) F.ca_47 rfl rfl (All2.cons (.one .sc) All2.nil) All2.nil (by decide) rfl (wire_Reader_none_nil0.meets _  true er1) (.inl rfl) rfl rfl ?_
  refine AWops.nil ?_
  refine AW.cond_yes rfl rfl ?_
  refine AW.seq ?_
  refine AW.region ?_
  refine s_assign (d := (sc (.int .i64 2))) rfl ?_
  refine AWops.nil ?_
  refine AW.ret ?_
  obtain rfl := Option.some.inj h
  exact ⟨_, rfl, (Weak.gen (kk := 0) [] [] rfl rfl (by decide) (by decide) rfl rfl rfl (le_upd (le_top _) (.t (.one .sc))) All2.nil)⟩
theorem wire_Reader_Err_nil0.const {k : Nat} {r : Int} (h : wire_Reader_Err_nil0.f k = some r) : r = 2 := by
  unfold wire_Reader_Err_nil0.f at h
  obtain ⟨_, _, h⟩ := Option.bind_eq_some_iff.mp h
  exact (Option.some.inj h).symm
def wire_Reader_End_nil0.f (k : Nat) : Option Int := (wire_Reader_Err_nil0.f k).bind fun r1 => some 2
theorem wire_Reader_End_nil0.meets (k : Nat) (r : Int) (h : wire_Reader_End_nil0.f k = some r) : Meets Try.prog 31 [(sc (.pointer none))] [] (sc (.int .i64 r)) [] := by
  unfold wire_Reader_End_nil0.f at h
  refine Meets.of_body (n := 14) Try.func31 rfl rfl (Nat.le_of_ble_eq_true rfl) fun x hx => ?_
  replace hx : x.k = 0 := hx
  show AW _ x _ _ ⟨14, fr0 [(sc (.pointer none))], []⟩
  refine AW.seq ?_
  refine AW.region ?_
  refine s_assign (d := (sc (.int .i64 0))) rfl ?_
  refine AWops.nil ?_
  refine AW.seq ?_
  refine AW.seq ?_
  refine AW.region ?_
  refine s_move (d := (sc (.pointer none))) rfl ?_
  obtain ⟨r1, er1, h⟩ := Option.bind_eq_some_iff.mp h
  have kr1 := wire_Reader_Err_nil0.const er1
  subst kr1
  refine s_call (ρ := []) (br := false) (H2 := []) (d := (sc (.int .i64 2))) F.ca_30 rfl rfl (All2.cons (.one .sc) All2.nil) All2.nil (by decide) rfl (wire_Reader_Err_nil0.meets _  2 er1) (.inl rfl) rfl rfl ?_
  refine s_assign (d := (sc (.int .i64 2))) rfl ?_
  refine AWops.nil ?_
  refine AW.seq ?_
  refine AW.region ?_
  refine s_move (d := (sc (.int .i64 2))) rfl ?_
  refine s_binI (v := (.bool true)) rfl rfl rfl ?_
  refine s_move (d := (sc (.bool true))) rfl ?_
  refine AWops.guard_no rfl (Nat.le_of_ble_eq_true rfl) rfl rfl ?_
  refine AWops.guard_no rfl (Nat.le_of_ble_eq_true rfl) rfl rfl ?_
  refine AWops.guard_no rfl (Nat.le_of_ble_eq_true rfl) rfl rfl ?_
  refine s_pick_yes (d := (sc (.bool true))) rfl rfl rfl ?_
  refine AWops.nil ?_
  refine AW.cond_yes rfl rfl ?_
  refine AW.seq ?_
  refine AW.region ?_
  refine s_move (d := (sc (.int .i64 2))) rfl ?_
  refine s_assign (d := (sc (.int .i64 2))) rfl ?_
  refine AWops.nil ?_
  refine AW.ret ?_
  obtain rfl := Option.some.inj h
  exact ⟨_, rfl, (Weak.gen (kk := 0) [] [] rfl rfl (by decide) (by decide) rfl rfl rfl (le_upd (le_top _) (.t (.one .sc))) All2.nil)⟩
theorem wire_Reader_End_nil0.const {k : Nat} {r : Int} (h : wire_Reader_End_nil0.f k = some r) : r = 2 := by
  unfold wire_Reader_End_nil0.f at h
  obtain ⟨_, _, h⟩ := Option.bind_eq_some_iff.mp h
  exact (Option.some.inj h).symm
def wire_Reader_End.f (k : Nat) (p0 : wire_Reader) : Option (Int × wire_Reader) := (wire_Reader_Err.f k p0).bind fun r1 => if (r1.1 != 0) = true then (some (r1.1, r1.2)) else ((wire_Reader_Left.f k r1.2).bind fun r3 => if (r3.1 == 0) = true then (some (r1.1, r3.2)) else (some (5, r3.2)))
theorem wire_Reader_End.meets (k : Nat) (p0 : wire_Reader) (r : Int × wire_Reader) (h : wire_Reader_End.f k p0 = some r) : Meets Try.prog 31 [(D.one (C.ref 0 0))] [(some (AObj.cells false [(C.p true (.v (.bool p0.made))), (C.p false (.sl p0.b.length (p0.b.flatMap e_u8))), (C.p true (.v (.int .i64 p0.err)))]))] (sc (.int .i64 r.1)) [(some (AObj.cells false [(C.p true (.v (.bool r.2.made))), (C.p false (.sl r.2.b.length (r.2.b.flatMap e_u8))), (C.p true (.v (.int .i64 r.2.err)))]))] := by
  unfold wire_Reader_End.f at h
  refine Meets.of_body (n := 14) Try.func31 rfl rfl (Nat.le_of_ble_eq_true rfl) fun x hx => ?_
  replace hx : x.k = 1 := hx
  show AW _ x _ _ ⟨14, fr0 [(D.one (C.ref 0 0))], [(some (AObj.cells false [(C.p true (.v (.bool p0.made))), (C.p false (.sl p0.b.length (p0.b.flatMap e_u8))), (C.p true (.v (.int .i64 p0.err)))]))]⟩
  refine AW.seq ?_
  refine AW.region ?_
  refine s_assign (d := (sc (.int .i64 0))) rfl ?_
  refine AWops.nil ?_
  refine AW.seq ?_
  refine AW.seq ?_
  refine AW.region ?_
  refine s_move (d := (D.one (C.ref 0 0))) rfl ?_
  obtain ⟨r1, er1, h⟩ := Option.bind_eq_some_iff.mp h
  refine s_call (ρ := [0]) (br := false) (H2 := [(some (AObj.cells false [(C.p true (.v (.bool r1.2.made))), (C.p false (.sl r1.2.b.length (r1.2.b.flatMap e_u8))), (C.p true (.v (.int .i64 r1.2.err)))]))]) (d := (sc (.int .i64 r1.1))) F.ca_30 rfl rfl (All2.cons (.one (.ref rfl)) All2.nil) (All2.cons (.cells (All2.cons .sc (All2.cons .imm (All2.cons .sc All2.nil)))) All2.nil) (by decide) rfl (wire_Reader_Err.meets _ p0 r1 er1) (.inl rfl) rfl rfl ?_
  refine s_assign (d := (sc (.int .i64 r1.1))) rfl ?_
  refine AWops.nil ?_
  refine AW.seq ?_
  refine AW.region ?_
  refine s_move (d := (sc (.int .i64 r1.1))) rfl ?_
  refine s_binI (v := (.bool (r1.1 != 0))) rfl rfl rfl ?_
  refine s_move (d := (sc (.bool (r1.1 != 0)))) rfl ?_
  by_cases c2 : (r1.1 != 0) = true
  · replace h := (if_pos c2).symm.trans h
    refine AWops.guard_no rfl (Nat.le_of_ble_eq_true rfl) rfl c2 ?_
    refine AWops.guard_no rfl (Nat.le_of_ble_eq_true rfl) rfl c2 ?_
    refine AWops.guard_no rfl (Nat.le_of_ble_eq_true rfl) rfl c2 ?_
    refine s_pick_yes (d := (sc (.bool true))) rfl c2 rfl ?_
    refine AWops.nil ?_
    refine AW.cond_yes rfl rfl ?_
    refine AW.seq ?_
    refine AW.region ?_
    refine s_move (d := (sc (.int .i64 r1.1))) rfl ?_
    refine s_assign (d := (sc (.int .i64 r1.1))) rfl ?_
    refine AWops.nil ?_
    refine AW.ret ?_
    obtain rfl := Option.some.inj h
    exact ⟨_, rfl, (Weak.gen (kk := 1) [0] [] rfl rfl (by decide) (by decide) rfl rfl rfl (le_upd (le_top _) (.t (.one .sc))) (All2.cons (.cells (fun h => h) (All2.cons .sc (All2.cons .same (All2.cons .sc All2.nil)))) All2.nil))⟩
  · replace h := (if_neg c2).symm.trans h
    replace c2 := Bool.eq_false_iff.mpr c2
    refine AWops.guard_yes rfl (Nat.le_of_ble_eq_true rfl) rfl c2 ?_
    refine s_move (d := (D.one (C.ref 0 0))) rfl ?_
    refine AWops.guard_yes rfl (Nat.le_of_ble_eq_true rfl) rfl c2 ?_
    obtain ⟨r3, er3, h⟩ := Option.bind_eq_some_iff.mp h
    refine s_call (ρ := [0]) (br := false) (H2 := [(some (AObj.cells false [(C.p true (.v (.bool r3.2.made))), (C.p false (.sl r3.2.b.length (r3.2.b.flatMap e_u8))), (C.p true (.v (.int .i64 r3.2.err)))]))]) (d := (sc (.int .i64 r3.1))) F.ca_29 rfl rfl (All2.cons (.one (.ref rfl)) All2.nil) (All2.cons (.cells (All2.cons .sc (All2.cons .imm (All2.cons .sc All2.nil)))) All2.nil) (by decide) rfl (wire_Reader_Left.meets _ r1.2 r3 er3) (.inl rfl) rfl rfl ?_
    refine AWops.guard_yes rfl (Nat.le_of_ble_eq_true rfl) rfl c2 ?_
    refine s_binI (v := (.bool (r3.1 == 0))) rfl rfl rfl ?_
    refine s_pick_no (d := (sc (.bool (r3.1 == 0)))) rfl c2 rfl ?_
    refine AWops.nil ?_
    by_cases c4 : (r3.1 == 0) = true
    · replace h := (if_pos c4).symm.trans h
      refine AW.cond_yes rfl c4 ?_
      refine AW.seq ?_
      refine AW.region ?_
      refine s_move (d := (sc (.int .i64 r1.1))) rfl ?_
      refine s_assign (d := (sc (.int .i64 r1.1))) rfl ?_
      refine AWops.nil ?_
      refine AW.ret ?_
      obtain rfl := Option.some.inj h
      exact ⟨_, rfl, (Weak.gen (kk := 1) [0] [] rfl rfl (by decide) (by decide) rfl rfl rfl (le_upd (le_top _) (.t (.one .sc))) (All2.cons (.cells (fun h => h) (All2.cons .sc (All2.cons .same (All2.cons .sc All2.nil)))) All2.nil))⟩
    · replace h := (if_neg c4).symm.trans h
      replace c4 := Bool.eq_false_iff.mpr c4
      refine AW.cond_no rfl c4 ?_
      refine AW.skip ?_
      refine AW.seq ?_
      refine AW.region ?_
      refine s_assign (d := (sc (.int .i64 5))) rfl ?_
      refine AWops.nil ?_
      refine AW.ret ?_
      obtain rfl := Option.some.inj h
      exact ⟨_, rfl, (Weak.gen (kk := 1) [0] [] rfl rfl (by decide) (by decide) rfl rfl rfl (le_upd (le_top _) (.t (.one .sc))) (All2.cons (.cells (fun h => h) (All2.cons .sc (All2.cons .same (All2.cons .sc All2.nil)))) All2.nil))⟩
def dossierlaw02_WireNobody.f (k : Nat) (a0 : Int) : Option Bool := (wire_Reader_Int_nil0.f k a0 a0).bind fun r1 => (wire_Reader_Text_nil0.f k a0).bind fun r2 => if ((⟨#[]⟩ : ByteArray).toList == (⟨#[]⟩ : ByteArray).toList) = true then ((wire_Reader_Flag_nil0.f k).bind fun r4 => (wire_Reader_Left_nil0.f k).bind fun r5 => (wire_Reader_Err_nil0.f k).bind fun r6 => (wire_Reader_End_nil0.f k).bind fun r7 => (wire_Reader_Int.f k (⟨false, ([] : List Int), 0⟩ : wire_Reader) a0 a0).bind fun r8 => if (r8.1 != 0) = true then (some false) else ((wire_Reader_Text.f k r8.2 a0).bind fun r10 => if (r10.1.toList == (⟨#[]⟩ : ByteArray).toList) = true then ((wire_Reader_Flag.f k r10.2).bind fun r12 => if r12.1 = true then (some false) else ((wire_Reader_Left.f k r12.2).bind fun r14 => if (r14.1 != 0) = true then (some false) else ((wire_Reader_Err.f k r14.2).bind fun r16 => if (r16.1 != 2) = true then (some false) else ((wire_Reader_End.f k r16.2).bind fun r18 => if (r18.1 != 2) = true then (some false) else ((dossierlaw02_awake.f k).bind fun r20 => some r20))))) else (some false))) else (some false)
theorem dossierlaw02_WireNobody.meets (k : Nat) (a0 : Int) (r : Bool) (h : dossierlaw02_WireNobody.f k a0 = some r) : Meets Try.prog 5 [(sc (.int .i64 a0))] [] (sc (.bool r)) [] := by
  unfold dossierlaw02_WireNobody.f at h
  refine Meets.of_body (n := 45) Try.func5 rfl rfl (Nat.le_of_ble_eq_true rfl) fun x hx => ?_
  replace hx : x.k = 0 := hx
  show AW _ x _ _ ⟨45, fr0 [(sc (.int .i64 a0))], []⟩
  refine AW.seq ?_
  refine AW.region ?_
  refine s_assign (d := (sc (.bool false))) rfl ?_
  refine AWops.nil ?_
  refine AW.seq ?_
  refine AW.seq ?_
  refine AW.region ?_
  refine s_build (ps := []) (cs := [(C.p true (.v (.bool false))), (C.p true (.v (.slice none 0 0))), (C.p true (.v (.int .i64 0)))]) F.z_49 rfl F.so_49 rfl rfl ?_
  refine s_box (cs := [(C.p true (.v (.bool false))), (C.p true (.v (.slice none 0 0))), (C.p true (.v (.int .i64 0)))]) rfl (List.cons_ne_nil _ _) rfl ?_
  refine s_buildSlice (n := 2) (ps := [(0, (sc (.pointer none))), (1, (D.one (C.ref 0 0)))]) (cs := [(C.p true (.v (.pointer none))), (C.ref 0 0)]) F.u_50 F.sz_47 F.z_47 rfl rfl (by decide) (by decide) rfl rfl ?_
  refine s_len (n := 2) F.u_50 rfl (.inr ⟨(fun _ _ h => by cases h), ⟨_, rfl⟩⟩) ?_
  refine s_move (d := (sc (.int .i64 0))) rfl ?_
  refine AWops.nil ?_
  refine AW.block ?_
  refine AW.unroll 9 ?_
  refine U.step ?_
  refine AW.seq ?_
  refine AW.region ?_
  refine s_binI (v := (.bool true)) rfl rfl rfl ?_
  refine AWops.nil ?_
  refine AW.seq ?_
  refine AW.cond_yes rfl rfl ?_
  refine AW.skip ?_
  refine AW.seq ?_
  refine AW.block ?_
  refine AW.seq ?_
  refine AW.region ?_
  refine s_indexOwn (d := (D.one (C.ref 1 0))) F.u_50 F.sz_47 rfl rfl (by decide) (by decide) rfl ?_
  refine s_load1 (c' := (C.p true (.v (.pointer none)))) F.ag_47 rfl rfl ?_
  refine s_assign (d := (sc (.pointer none))) rfl ?_
  refine AWops.nil ?_
  refine AW.seq ?_
  refine AW.region ?_
  refine s_move (d := (sc (.pointer none))) rfl ?_
  refine s_move (d := (sc (.int .i64 a0))) rfl ?_
  refine s_move (d := (sc (.int .i64 a0))) rfl ?_
  obtain ⟨r1, er1, h⟩ := Option.bind_eq_some_iff.mp h
  have kr1 := wire_Reader_Int_nil0.const er1
  subst kr1
  refine s_call (ρ := []) (br := false) (H2 := [(some (AObj.cells true [(C.p true (.v (.bool false))), (C.p true (.v (.slice none 0 0))), (C.p true (.v (.int .i64 0)))])), (some (AObj.cells true [(C.p true (.v (.pointer none))), (C.ref 0 0)]))]) (d := (sc (.int .i64 0))) F.ca_26 rfl rfl (All2.cons (.one .sc) (All2.cons (.one .sc) (All2.cons (.one .sc) All2.nil))) All2.nil (by decide) rfl (wire_Reader_Int_nil0.meets _ a0 a0 0 er1) (.inl rfl) rfl rfl ?_
  refine s_binI (v := (.bool false)) rfl rfl rfl ?_
  refine s_move (d := (sc (.bool false))) rfl ?_
  refine AWops.guard_yes rfl (Nat.le_of_ble_eq_true rfl) rfl rfl ?_
  refine s_move (d := (sc (.pointer none))) rfl ?_
  refine AWops.guard_yes rfl (Nat.le_of_ble_eq_true rfl) rfl rfl ?_
  refine s_move (d := (sc (.int .i64 a0))) rfl ?_
  refine AWops.guard_yes rfl (Nat.le_of_ble_eq_true rfl) rfl rfl ?_
  obtain ⟨r2, er2, h⟩ := Option.bind_eq_some_iff.mp h
  have kr2 := wire_Reader_Text_nil0.const er2
  subst kr2
  refine s_call (ρ := []) (br := false) (H2 := [(some (AObj.cells true [(C.p true (.v (.bool false))), (C.p true (.v (.slice none 0 0))), (C.p true (.v (.int .i64 0)))])), (some (AObj.cells true [(C.p true (.v (.pointer none))), (C.ref 0 0)]))]) (d := (sc (.string (⟨#[]⟩ : ByteArray)))) F.ca_27 rfl rfl (All2.cons (.one .sc) (All2.cons (.one .sc) All2.nil)) All2.nil (by decide) rfl (wire_Reader_Text_nil0.meets _ a0 (⟨#[]⟩ : ByteArray) er2) (.inl rfl) rfl rfl ?_
  refine AWops.guard_yes rfl (Nat.le_of_ble_eq_true rfl) rfl rfl ?_
  refine s_binS (v := (.bool (!((⟨#[]⟩ : ByteArray).toList == (⟨#[]⟩ : ByteArray).toList)))) rfl rfl rfl ?_
  refine s_pick_no (d := (sc (.bool (!((⟨#[]⟩ : ByteArray).toList == (⟨#[]⟩ : ByteArray).toList))))) rfl rfl rfl ?_
  refine s_move (d := (sc (.bool (!((⟨#[]⟩ : ByteArray).toList == (⟨#[]⟩ : ByteArray).toList))))) rfl ?_
  by_cases c3 : ((⟨#[]⟩ : ByteArray).toList == (⟨#[]⟩ : ByteArray).toList) = true
  · replace h := (if_pos c3).symm.trans h
    refine AWops.guard_yes rfl (Nat.le_of_ble_eq_true rfl) rfl (by rw [c3] <;> rfl) ?_
    refine s_move (d := (sc (.pointer none))) rfl ?_
    refine AWops.guard_yes rfl (Nat.le_of_ble_eq_true rfl) rfl (by rw [c3] <;> rfl) ?_
    obtain ⟨r4, er4, h⟩ := Option.bind_eq_some_iff.mp h
    have kr4 := wire_Reader_Flag_nil0.const er4
    subst kr4
    refine s_call (ρ := []) (br := false) (H2 := [(some (AObj.cells true [(C.p true (.v (.bool false))), (C.p true (.v (.slice none 0 0))), (C.p true (.v (.int .i64 0)))])), (some (AObj.cells true [(C.p true (.v (.pointer none))), (C.ref 0 0)]))]) (d := (sc (.bool false))) F.ca_28 rfl rfl (All2.cons (.one .sc) All2.nil) All2.nil (by decide) rfl (wire_Reader_Flag_nil0.meets _  false er4) (.inl rfl) rfl rfl ?_
    refine s_pick_no (d := (sc (.bool false))) rfl (by rw [c3] <;> rfl) rfl ?_
    refine s_move (d := (sc (.bool false))) rfl ?_
    refine AWops.guard_yes rfl (Nat.le_of_ble_eq_true rfl) rfl rfl ?_
    refine s_move (d := (sc (.pointer none))) rfl ?_
    refine AWops.guard_yes rfl (Nat.le_of_ble_eq_true rfl) rfl rfl ?_
    obtain ⟨r5, er5, h⟩ := Option.bind_eq_some_iff.mp h
    have kr5 := wire_Reader_Left_nil0.const er5
    subst kr5
    refine s_call (ρ := []) (br := false) (H2 := [(some (AObj.cells true [(C.p true (.v (.bool false))), (C.p true (.v (.slice none 0 0))), (C.p true (.v (.int .i64 0)))])), (some (AObj.cells true [(C.p true (.v (.pointer none))), (C.ref 0 0)]))]) (d := (sc (.int .i64 0))) F.ca_29 rfl rfl (All2.cons (.one .sc) All2.nil) All2.nil (by decide) rfl (wire_Reader_Left_nil0.meets _  0 er5) (.inl rfl) rfl rfl ?_
    refine AWops.guard_yes rfl (Nat.le_of_ble_eq_true rfl) rfl rfl ?_
    refine s_binI (v := (.bool false)) rfl rfl rfl ?_
    refine s_pick_no (d := (sc (.bool false))) rfl rfl rfl ?_
    refine s_move (d := (sc (.bool false))) rfl ?_
    refine AWops.guard_yes rfl (Nat.le_of_ble_eq_true rfl) rfl rfl ?_
    refine s_move (d := (sc (.pointer none))) rfl ?_
    refine AWops.guard_yes rfl (Nat.le_of_ble_eq_true rfl) rfl rfl ?_
    obtain ⟨r6, er6, h⟩ := Option.bind_eq_some_iff.mp h
    have kr6 := wire_Reader_Err_nil0.const er6
    subst kr6
    refine s_call (ρ := []) (br := false) (H2 := [(some (AObj.cells true [(C.p true (.v (.bool false))), (C.p true (.v (.slice none 0 0))), (C.p true (.v (.int .i64 0)))])), (some (AObj.cells true [(C.p true (.v (.pointer none))), (C.ref 0 0)]))]) (d := (sc (.int .i64 2))) F.ca_30 rfl rfl (All2.cons (.one .sc) All2.nil) All2.nil (by decide) rfl (wire_Reader_Err_nil0.meets _  2 er6) (.inl rfl) rfl rfl ?_
    refine AWops.guard_yes rfl (Nat.le_of_ble_eq_true rfl) rfl rfl ?_
    refine s_binI (v := (.bool false)) rfl rfl rfl ?_
    refine s_pick_no (d := (sc (.bool false))) rfl rfl rfl ?_
    refine s_move (d := (sc (.bool false))) rfl ?_
    refine AWops.guard_yes rfl (Nat.le_of_ble_eq_true rfl) rfl rfl ?_
    refine s_move (d := (sc (.pointer none))) rfl ?_
    refine AWops.guard_yes rfl (Nat.le_of_ble_eq_true rfl) rfl rfl ?_
    obtain ⟨r7, er7, h⟩ := Option.bind_eq_some_iff.mp h
    have kr7 := wire_Reader_End_nil0.const er7
    subst kr7
    refine s_call (ρ := []) (br := false) (H2 := [(some (AObj.cells true [(C.p true (.v (.bool false))), (C.p true (.v (.slice none 0 0))), (C.p true (.v (.int .i64 0)))])), (some (AObj.cells true [(C.p true (.v (.pointer none))), (C.ref 0 0)]))]) (d := (sc (.int .i64 2))) F.ca_31 rfl rfl (All2.cons (.one .sc) All2.nil) All2.nil (by decide) rfl (wire_Reader_End_nil0.meets _  2 er7) (.inl rfl) rfl rfl ?_
    refine AWops.guard_yes rfl (Nat.le_of_ble_eq_true rfl) rfl rfl ?_
    refine s_binI (v := (.bool false)) rfl rfl rfl ?_
    refine s_pick_no (d := (sc (.bool false))) rfl rfl rfl ?_
    refine AWops.nil ?_
    refine AW.cond_no rfl rfl ?_
    refine AW.skip ?_
    refine AW.region ?_
    refine s_binI (v := (.int .i64 1)) rfl rfl (by rfl) ?_
    refine s_move (d := (sc (.int .i64 1))) rfl ?_
    refine AWops.nil ?_
    refine U.step ?_
    refine AW.seq ?_
    refine AW.region ?_
    refine s_binI (v := (.bool true)) rfl rfl rfl ?_
    refine AWops.nil ?_
    refine AW.seq ?_
    refine AW.cond_yes rfl rfl ?_
    refine AW.skip ?_
    refine AW.seq ?_
    refine AW.block ?_
    refine AW.seq ?_
    refine AW.region ?_
    refine s_indexOwn (d := (D.one (C.ref 1 1))) F.u_50 F.sz_47 rfl rfl (by decide) (by decide) rfl ?_
    refine s_load1 (c' := (C.ref 0 0)) F.ag_47 rfl rfl ?_
    refine s_assign (d := (D.one (C.ref 0 0))) rfl ?_
    refine AWops.nil ?_
    refine AW.seq ?_
    refine AW.region ?_
    refine s_move (d := (D.one (C.ref 0 0))) rfl ?_
    refine s_move (d := (sc (.int .i64 a0))) rfl ?_
    refine s_move (d := (sc (.int .i64 a0))) rfl ?_
    obtain ⟨r8, er8, h⟩ := Option.bind_eq_some_iff.mp h
    refine s_call (ρ := [0]) (br := false) (H2 := [(some (AObj.cells true [(C.p true (.v (.bool r8.2.made))), (C.p false (.sl r8.2.b.length (r8.2.b.flatMap e_u8))), (C.p true (.v (.int .i64 r8.2.err)))])), (some (AObj.cells true [(C.p true (.v (.pointer none))), (C.ref 0 0)]))]) (d := (sc (.int .i64 r8.1))) F.ca_26 rfl rfl (All2.cons (.one (.ref rfl)) (All2.cons (.one .sc) (All2.cons (.one .sc) All2.nil))) (All2.cons (.cells (All2.cons .sc (All2.cons .nil (All2.cons .sc All2.nil)))) All2.nil) (by decide) rfl (wire_Reader_Int.meets _ (⟨false, ([] : List Int), 0⟩ : wire_Reader) a0 a0 r8 er8) (.inl rfl) rfl rfl ?_
    refine s_binI (v := (.bool (r8.1 != 0))) rfl rfl rfl ?_
    refine s_move (d := (sc (.bool (r8.1 != 0)))) rfl ?_
    by_cases c9 : (r8.1 != 0) = true
    · replace h := (if_pos c9).symm.trans h
      refine AWops.guard_no rfl (Nat.le_of_ble_eq_true rfl) rfl c9 ?_
      refine AWops.guard_no rfl (Nat.le_of_ble_eq_true rfl) rfl c9 ?_
      refine AWops.guard_no rfl (Nat.le_of_ble_eq_true rfl) rfl c9 ?_
      refine AWops.guard_no rfl (Nat.le_of_ble_eq_true rfl) rfl c9 ?_
      refine s_pick_yes (d := (sc (.bool true))) rfl c9 rfl ?_
      refine s_move (d := (sc (.bool true))) rfl ?_
      refine AWops.guard_no rfl (Nat.le_of_ble_eq_true rfl) rfl rfl ?_
      refine AWops.guard_no rfl (Nat.le_of_ble_eq_true rfl) rfl rfl ?_
      refine s_pick_yes (d := (sc (.bool true))) rfl rfl rfl ?_
      refine s_move (d := (sc (.bool true))) rfl ?_
      refine AWops.guard_no rfl (Nat.le_of_ble_eq_true rfl) rfl rfl ?_
      refine AWops.guard_no rfl (Nat.le_of_ble_eq_true rfl) rfl rfl ?_
      refine AWops.guard_no rfl (Nat.le_of_ble_eq_true rfl) rfl rfl ?_
      refine s_pick_yes (d := (sc (.bool true))) rfl rfl rfl ?_
      refine s_move (d := (sc (.bool true))) rfl ?_
      refine AWops.guard_no rfl (Nat.le_of_ble_eq_true rfl) rfl rfl ?_
      refine AWops.guard_no rfl (Nat.le_of_ble_eq_true rfl) rfl rfl ?_
      refine AWops.guard_no rfl (Nat.le_of_ble_eq_true rfl) rfl rfl ?_
      refine s_pick_yes (d := (sc (.bool true))) rfl rfl rfl ?_
      refine s_move (d := (sc (.bool true))) rfl ?_
      refine AWops.guard_no rfl (Nat.le_of_ble_eq_true rfl) rfl rfl ?_
      refine AWops.guard_no rfl (Nat.le_of_ble_eq_true rfl) rfl rfl ?_
      refine AWops.guard_no rfl (Nat.le_of_ble_eq_true rfl) rfl rfl ?_
      refine s_pick_yes (d := (sc (.bool true))) rfl rfl rfl ?_
      refine AWops.nil ?_
      refine AW.cond_yes rfl rfl ?_
      refine AW.seq ?_
      refine AW.region ?_
      refine s_assign (d := (sc (.bool false))) rfl ?_
      refine AWops.nil ?_
      refine AW.ret ?_
      obtain rfl := Option.some.inj h
      exact ⟨_, rfl, (Weak.gen (kk := 0) [] [] rfl rfl (by decide) (by decide) rfl rfl rfl (le_upd (le_top _) (.t (.one .sc))) All2.nil)⟩
    · replace h := (if_neg c9).symm.trans h
      replace c9 := Bool.eq_false_iff.mpr c9
      refine AWops.guard_yes rfl (Nat.le_of_ble_eq_true rfl) rfl c9 ?_
      refine s_move (d := (D.one (C.ref 0 0))) rfl ?_
      refine AWops.guard_yes rfl (Nat.le_of_ble_eq_true rfl) rfl c9 ?_
      refine s_move (d := (sc (.int .i64 a0))) rfl ?_
      refine AWops.guard_yes rfl (Nat.le_of_ble_eq_true rfl) rfl c9 ?_
      obtain ⟨r10, er10, h⟩ := Option.bind_eq_some_iff.mp h
      refine s_call (ρ := [0]) (br := false) (H2 := [(some (AObj.cells true [(C.p true (.v (.bool r10.2.made))), (C.p false (.sl r10.2.b.length (r10.2.b.flatMap e_u8))), (C.p true (.v (.int .i64 r10.2.err)))])), (some (AObj.cells true [(C.p true (.v (.pointer none))), (C.ref 0 0)]))]) (d := (sc (.string r10.1))) F.ca_27 rfl rfl (All2.cons (.one (.ref rfl)) (All2.cons (.one .sc) All2.nil)) (All2.cons (.cells (All2.cons .sc (All2.cons .imm (All2.cons .sc All2.nil)))) All2.nil) (by decide) rfl (wire_Reader_Text.meets _ r8.2 a0 r10 er10) (.inl rfl) rfl rfl ?_
      refine AWops.guard_yes rfl (Nat.le_of_ble_eq_true rfl) rfl c9 ?_
      refine s_binS (v := (.bool (!(r10.1.toList == (⟨#[]⟩ : ByteArray).toList)))) rfl rfl rfl ?_
      refine s_pick_no (d := (sc (.bool (!(r10.1.toList == (⟨#[]⟩ : ByteArray).toList))))) rfl c9 rfl ?_
      refine s_move (d := (sc (.bool (!(r10.1.toList == (⟨#[]⟩ : ByteArray).toList))))) rfl ?_
      by_cases c11 : (r10.1.toList == (⟨#[]⟩ : ByteArray).toList) = true
      · replace h := (if_pos c11).symm.trans h
        refine AWops.guard_yes rfl (Nat.le_of_ble_eq_true rfl) rfl (by rw [c11] <;> rfl) ?_
        refine s_move (d := (D.one (C.ref 0 0))) rfl ?_
        refine AWops.guard_yes rfl (Nat.le_of_ble_eq_true rfl) rfl (by rw [c11] <;> rfl) ?_
        obtain ⟨r12, er12, h⟩ := Option.bind_eq_some_iff.mp h
        refine s_call (ρ := [0]) (br := false) (H2 := [(some (AObj.cells true [(C.p true (.v (.bool r12.2.made))), (C.p false (.sl r12.2.b.length (r12.2.b.flatMap e_u8))), (C.p true (.v (.int .i64 r12.2.err)))])), (some (AObj.cells true [(C.p true (.v (.pointer none))), (C.ref 0 0)]))]) (d := (sc (.bool r12.1))) F.ca_28 rfl rfl (All2.cons (.one (.ref rfl)) All2.nil) (All2.cons (.cells (All2.cons .sc (All2.cons .imm (All2.cons .sc All2.nil)))) All2.nil) (by decide) rfl (wire_Reader_Flag.meets _ r10.2 r12 er12) (.inl rfl) rfl rfl ?_
        refine s_pick_no (d := (sc (.bool r12.1))) rfl (by rw [c11] <;> rfl) rfl ?_
        refine s_move (d := (sc (.bool r12.1))) rfl ?_
        by_cases c13 : r12.1 = true
        · replace h := (if_pos c13).symm.trans h
          refine AWops.guard_no rfl (Nat.le_of_ble_eq_true rfl) rfl c13 ?_
          refine AWops.guard_no rfl (Nat.le_of_ble_eq_true rfl) rfl c13 ?_
          refine AWops.guard_no rfl (Nat.le_of_ble_eq_true rfl) rfl c13 ?_
          refine s_pick_yes (d := (sc (.bool true))) rfl c13 rfl ?_
          refine s_move (d := (sc (.bool true))) rfl ?_
          refine AWops.guard_no rfl (Nat.le_of_ble_eq_true rfl) rfl rfl ?_
          refine AWops.guard_no rfl (Nat.le_of_ble_eq_true rfl) rfl rfl ?_
          refine AWops.guard_no rfl (Nat.le_of_ble_eq_true rfl) rfl rfl ?_
          refine s_pick_yes (d := (sc (.bool true))) rfl rfl rfl ?_
          refine s_move (d := (sc (.bool true))) rfl ?_
          refine AWops.guard_no rfl (Nat.le_of_ble_eq_true rfl) rfl rfl ?_
          refine AWops.guard_no rfl (Nat.le_of_ble_eq_true rfl) rfl rfl ?_
          refine AWops.guard_no rfl (Nat.le_of_ble_eq_true rfl) rfl rfl ?_
          refine s_pick_yes (d := (sc (.bool true))) rfl rfl rfl ?_
          refine AWops.nil ?_
          refine AW.cond_yes rfl rfl ?_
          refine AW.seq ?_
          refine AW.region ?_
          refine s_assign (d := (sc (.bool false))) rfl ?_
          refine AWops.nil ?_
          refine AW.ret ?_
          obtain rfl := Option.some.inj h
          exact ⟨_, rfl, (Weak.gen (kk := 0) [] [] rfl rfl (by decide) (by decide) rfl rfl rfl (le_upd (le_top _) (.t (.one .sc))) All2.nil)⟩
        · replace h := (if_neg c13).symm.trans h
          replace c13 := Bool.eq_false_iff.mpr c13
          refine AWops.guard_yes rfl (Nat.le_of_ble_eq_true rfl) rfl c13 ?_
          refine s_move (d := (D.one (C.ref 0 0))) rfl ?_
          refine AWops.guard_yes rfl (Nat.le_of_ble_eq_true rfl) rfl c13 ?_
          obtain ⟨r14, er14, h⟩ := Option.bind_eq_some_iff.mp h
          refine s_call (ρ := [0]) (br := false) (H2 := [(some (AObj.cells true [(C.p true (.v (.bool r14.2.made))), (C.p false (.sl r14.2.b.length (r14.2.b.flatMap e_u8))), (C.p true (.v (.int .i64 r14.2.err)))])), (some (AObj.cells true [(C.p true (.v (.pointer none))), (C.ref 0 0)]))]) (d := (sc (.int .i64 r14.1))) F.ca_29 rfl rfl (All2.cons (.one (.ref rfl)) All2.nil) (All2.cons (.cells (All2.cons .sc (All2.cons .imm (All2.cons .sc All2.nil)))) All2.nil) (by decide) rfl (wire_Reader_Left.meets _ r12.2 r14 er14) (.inl rfl) rfl rfl ?_
          refine AWops.guard_yes rfl (Nat.le_of_ble_eq_true rfl) rfl c13 ?_
          refine s_binI (v := (.bool (r14.1 != 0))) rfl rfl rfl ?_
          refine s_pick_no (d := (sc (.bool (r14.1 != 0)))) rfl c13 rfl ?_
          refine s_move (d := (sc (.bool (r14.1 != 0)))) rfl ?_
          by_cases c15 : (r14.1 != 0) = true
          · replace h := (if_pos c15).symm.trans h
            refine AWops.guard_no rfl (Nat.le_of_ble_eq_true rfl) rfl c15 ?_
            refine AWops.guard_no rfl (Nat.le_of_ble_eq_true rfl) rfl c15 ?_
            refine AWops.guard_no rfl (Nat.le_of_ble_eq_true rfl) rfl c15 ?_
            refine s_pick_yes (d := (sc (.bool true))) rfl c15 rfl ?_
            refine s_move (d := (sc (.bool true))) rfl ?_
            refine AWops.guard_no rfl (Nat.le_of_ble_eq_true rfl) rfl rfl ?_
            refine AWops.guard_no rfl (Nat.le_of_ble_eq_true rfl) rfl rfl ?_
            refine AWops.guard_no rfl (Nat.le_of_ble_eq_true rfl) rfl rfl ?_
            refine s_pick_yes (d := (sc (.bool true))) rfl rfl rfl ?_
            refine AWops.nil ?_
            refine AW.cond_yes rfl rfl ?_
            refine AW.seq ?_
            refine AW.region ?_
            refine s_assign (d := (sc (.bool false))) rfl ?_
            refine AWops.nil ?_
            refine AW.ret ?_
            obtain rfl := Option.some.inj h
            exact ⟨_, rfl, (Weak.gen (kk := 0) [] [] rfl rfl (by decide) (by decide) rfl rfl rfl (le_upd (le_top _) (.t (.one .sc))) All2.nil)⟩
          · replace h := (if_neg c15).symm.trans h
            replace c15 := Bool.eq_false_iff.mpr c15
            refine AWops.guard_yes rfl (Nat.le_of_ble_eq_true rfl) rfl c15 ?_
            refine s_move (d := (D.one (C.ref 0 0))) rfl ?_
            refine AWops.guard_yes rfl (Nat.le_of_ble_eq_true rfl) rfl c15 ?_
            obtain ⟨r16, er16, h⟩ := Option.bind_eq_some_iff.mp h
            refine s_call (ρ := [0]) (br := false) (H2 := [(some (AObj.cells true [(C.p true (.v (.bool r16.2.made))), (C.p false (.sl r16.2.b.length (r16.2.b.flatMap e_u8))), (C.p true (.v (.int .i64 r16.2.err)))])), (some (AObj.cells true [(C.p true (.v (.pointer none))), (C.ref 0 0)]))]) (d := (sc (.int .i64 r16.1))) F.ca_30 rfl rfl (All2.cons (.one (.ref rfl)) All2.nil) (All2.cons (.cells (All2.cons .sc (All2.cons .imm (All2.cons .sc All2.nil)))) All2.nil) (by decide) rfl (wire_Reader_Err.meets _ r14.2 r16 er16) (.inl rfl) rfl rfl ?_
            refine AWops.guard_yes rfl (Nat.le_of_ble_eq_true rfl) rfl c15 ?_
            refine s_binI (v := (.bool (r16.1 != 2))) rfl rfl rfl ?_
            refine s_pick_no (d := (sc (.bool (r16.1 != 2)))) rfl c15 rfl ?_
            refine s_move (d := (sc (.bool (r16.1 != 2)))) rfl ?_
            by_cases c17 : (r16.1 != 2) = true
            · replace h := (if_pos c17).symm.trans h
              refine AWops.guard_no rfl (Nat.le_of_ble_eq_true rfl) rfl c17 ?_
              refine AWops.guard_no rfl (Nat.le_of_ble_eq_true rfl) rfl c17 ?_
              refine AWops.guard_no rfl (Nat.le_of_ble_eq_true rfl) rfl c17 ?_
              refine s_pick_yes (d := (sc (.bool true))) rfl c17 rfl ?_
              refine AWops.nil ?_
              refine AW.cond_yes rfl rfl ?_
              refine AW.seq ?_
              refine AW.region ?_
              refine s_assign (d := (sc (.bool false))) rfl ?_
              refine AWops.nil ?_
              refine AW.ret ?_
              obtain rfl := Option.some.inj h
              exact ⟨_, rfl, (Weak.gen (kk := 0) [] [] rfl rfl (by decide) (by decide) rfl rfl rfl (le_upd (le_top _) (.t (.one .sc))) All2.nil)⟩
            · replace h := (if_neg c17).symm.trans h
              replace c17 := Bool.eq_false_iff.mpr c17
              refine AWops.guard_yes rfl (Nat.le_of_ble_eq_true rfl) rfl c17 ?_
              refine s_move (d := (D.one (C.ref 0 0))) rfl ?_
              refine AWops.guard_yes rfl (Nat.le_of_ble_eq_true rfl) rfl c17 ?_
              obtain ⟨r18, er18, h⟩ := Option.bind_eq_some_iff.mp h
              refine s_call (ρ := [0]) (br := false) (H2 := [(some (AObj.cells true [(C.p true (.v (.bool r18.2.made))), (C.p false (.sl r18.2.b.length (r18.2.b.flatMap e_u8))), (C.p true (.v (.int .i64 r18.2.err)))])), (some (AObj.cells true [(C.p true (.v (.pointer none))), (C.ref 0 0)]))]) (d := (sc (.int .i64 r18.1))) F.ca_31 rfl rfl (All2.cons (.one (.ref rfl)) All2.nil) (All2.cons (.cells (All2.cons .sc (All2.cons .imm (All2.cons .sc All2.nil)))) All2.nil) (by decide) rfl (wire_Reader_End.meets _ r16.2 r18 er18) (.inl rfl) rfl rfl ?_
              refine AWops.guard_yes rfl (Nat.le_of_ble_eq_true rfl) rfl c17 ?_
              refine s_binI (v := (.bool (r18.1 != 2))) rfl rfl rfl ?_
              refine s_pick_no (d := (sc (.bool (r18.1 != 2)))) rfl c17 rfl ?_
              refine AWops.nil ?_
              by_cases c19 : (r18.1 != 2) = true
              · replace h := (if_pos c19).symm.trans h
                refine AW.cond_yes rfl c19 ?_
                refine AW.seq ?_
                refine AW.region ?_
                refine s_assign (d := (sc (.bool false))) rfl ?_
                refine AWops.nil ?_
                refine AW.ret ?_
                obtain rfl := Option.some.inj h
                exact ⟨_, rfl, (Weak.gen (kk := 0) [] [] rfl rfl (by decide) (by decide) rfl rfl rfl (le_upd (le_top _) (.t (.one .sc))) All2.nil)⟩
              · replace h := (if_neg c19).symm.trans h
                replace c19 := Bool.eq_false_iff.mpr c19
                refine AW.cond_no rfl c19 ?_
                refine AW.skip ?_
                refine AW.region ?_
                refine s_binI (v := (.int .i64 2)) rfl rfl (by rfl) ?_
                refine s_move (d := (sc (.int .i64 2))) rfl ?_
                refine AWops.nil ?_
                refine U.step ?_
                refine AW.seq ?_
                refine AW.region ?_
                refine s_binI (v := (.bool false)) rfl rfl rfl ?_
                refine AWops.nil ?_
                refine AW.seq ?_
                refine AW.cond_no rfl rfl ?_
                refine AW.exit ?_
                refine AW.seq ?_
                refine AW.region ?_
                obtain ⟨r20, er20, h⟩ := Option.bind_eq_some_iff.mp h
                refine s_call (ρ := []) (br := false) (H2 := [(some (AObj.cells true [(C.p true (.v (.bool r18.2.made))), (C.p false (.sl r18.2.b.length (r18.2.b.flatMap e_u8))), (C.p true (.v (.int .i64 r18.2.err)))])), (some (AObj.cells true [(C.p true (.v (.pointer none))), (C.ref 0 0)]))]) (d := (sc (.bool r20))) F.ca_19 rfl rfl All2.nil All2.nil (by decide) rfl (dossierlaw02_awake.meets _  r20 er20) (.inl rfl) rfl rfl ?_
                refine s_assign (d := (sc (.bool r20))) rfl ?_
                refine AWops.nil ?_
                refine AW.ret ?_
                obtain rfl := Option.some.inj h
                exact ⟨_, rfl, (Weak.gen (kk := 0) [] [] rfl rfl (by decide) (by decide) rfl rfl rfl (le_upd (le_top _) (.t (.one .sc))) All2.nil)⟩
      · replace h := (if_neg c11).symm.trans h
        replace c11 := Bool.eq_false_iff.mpr c11
        refine AWops.guard_no rfl (Nat.le_of_ble_eq_true rfl) rfl (by rw [c11] <;> rfl) ?_
        refine AWops.guard_no rfl (Nat.le_of_ble_eq_true rfl) rfl (by rw [c11] <;> rfl) ?_
        refine s_pick_yes (d := (sc (.bool true))) rfl (by rw [c11] <;> rfl) rfl ?_
        refine s_move (d := (sc (.bool true))) rfl ?_
        refine AWops.guard_no rfl (Nat.le_of_ble_eq_true rfl) rfl rfl ?_
        refine AWops.guard_no rfl (Nat.le_of_ble_eq_true rfl) rfl rfl ?_
        refine AWops.guard_no rfl (Nat.le_of_ble_eq_true rfl) rfl rfl ?_
        refine s_pick_yes (d := (sc (.bool true))) rfl rfl rfl ?_
        refine s_move (d := (sc (.bool true))) rfl ?_
        refine AWops.guard_no rfl (Nat.le_of_ble_eq_true rfl) rfl rfl ?_
        refine AWops.guard_no rfl (Nat.le_of_ble_eq_true rfl) rfl rfl ?_
        refine AWops.guard_no rfl (Nat.le_of_ble_eq_true rfl) rfl rfl ?_
        refine s_pick_yes (d := (sc (.bool true))) rfl rfl rfl ?_
        refine s_move (d := (sc (.bool true))) rfl ?_
        refine AWops.guard_no rfl (Nat.le_of_ble_eq_true rfl) rfl rfl ?_
        refine AWops.guard_no rfl (Nat.le_of_ble_eq_true rfl) rfl rfl ?_
        refine AWops.guard_no rfl (Nat.le_of_ble_eq_true rfl) rfl rfl ?_
        refine s_pick_yes (d := (sc (.bool true))) rfl rfl rfl ?_
        refine AWops.nil ?_
        refine AW.cond_yes rfl rfl ?_
        refine AW.seq ?_
        refine AW.region ?_
        refine s_assign (d := (sc (.bool false))) rfl ?_
        refine AWops.nil ?_
        refine AW.ret ?_
        obtain rfl := Option.some.inj h
        exact ⟨_, rfl, (Weak.gen (kk := 0) [] [] rfl rfl (by decide) (by decide) rfl rfl rfl (le_upd (le_top _) (.t (.one .sc))) All2.nil)⟩
  · replace h := (if_neg c3).symm.trans h
    replace c3 := Bool.eq_false_iff.mpr c3
    refine AWops.guard_no rfl (Nat.le_of_ble_eq_true rfl) rfl (by rw [c3] <;> rfl) ?_
    refine AWops.guard_no rfl (Nat.le_of_ble_eq_true rfl) rfl (by rw [c3] <;> rfl) ?_
    refine s_pick_yes (d := (sc (.bool true))) rfl (by rw [c3] <;> rfl) rfl ?_
    refine s_move (d := (sc (.bool true))) rfl ?_
    refine AWops.guard_no rfl (Nat.le_of_ble_eq_true rfl) rfl rfl ?_
    refine AWops.guard_no rfl (Nat.le_of_ble_eq_true rfl) rfl rfl ?_
    refine AWops.guard_no rfl (Nat.le_of_ble_eq_true rfl) rfl rfl ?_
    refine s_pick_yes (d := (sc (.bool true))) rfl rfl rfl ?_
    refine s_move (d := (sc (.bool true))) rfl ?_
    refine AWops.guard_no rfl (Nat.le_of_ble_eq_true rfl) rfl rfl ?_
    refine AWops.guard_no rfl (Nat.le_of_ble_eq_true rfl) rfl rfl ?_
    refine AWops.guard_no rfl (Nat.le_of_ble_eq_true rfl) rfl rfl ?_
    refine s_pick_yes (d := (sc (.bool true))) rfl rfl rfl ?_
    refine s_move (d := (sc (.bool true))) rfl ?_
    refine AWops.guard_no rfl (Nat.le_of_ble_eq_true rfl) rfl rfl ?_
    refine AWops.guard_no rfl (Nat.le_of_ble_eq_true rfl) rfl rfl ?_
    refine AWops.guard_no rfl (Nat.le_of_ble_eq_true rfl) rfl rfl ?_
    refine s_pick_yes (d := (sc (.bool true))) rfl rfl rfl ?_
    refine AWops.nil ?_
    refine AW.cond_yes rfl rfl ?_
    refine AW.seq ?_
    refine AW.region ?_
    refine s_assign (d := (sc (.bool false))) rfl ?_
    refine AWops.nil ?_
    refine AW.ret ?_
    obtain rfl := Option.some.inj h
    exact ⟨_, rfl, (Weak.gen (kk := 0) [] [] rfl rfl (by decide) (by decide) rfl rfl rfl (le_upd (le_top _) (.t (.one .sc))) All2.nil)⟩
end Go.Abs.GenA
