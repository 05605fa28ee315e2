import Derived.Test.YtknfjmongeddgaaAbsL
import Derived.Test.YtknfjmongeddgaaProg
set_option linter.unusedVariables false
set_option linter.unusedSimpArgs false
set_option maxRecDepth 100000
namespace Go.Abs.GenA
open Go.Abs Go.Proofs
namespace F
theorem u_22 : Try.prog.underlying 22 = some (.slice 5) := by kernel_rfl
theorem in_5 : infoQ Try.prog 5 = some (some (.int .u8 0), 1, 1) := by kernel_rfl
theorem sz_5 : szOf Try.prog 5 = some 1 := by kernel_rfl
theorem z_5 : zeroOf Try.prog 5 = some (.int .u8 0) := by kernel_rfl
theorem u_3 : Try.prog.underlying 3 = some (.int .i64) := by kernel_rfl
theorem u_60 : Try.prog.underlying 60 = some (.int .u64) := by kernel_rfl
theorem u_5 : Try.prog.underlying 5 = some (.int .u8) := by kernel_rfl
theorem ca_38 : callable Try.prog 38 = true := by kernel_rfl
theorem u_9 : Try.prog.underlying 9 = some (.string) := by kernel_rfl
theorem ca_11 : callable Try.prog 11 = true := by kernel_rfl
theorem ca_12 : callable Try.prog 12 = true := by kernel_rfl
theorem u_62 : Try.prog.underlying 62 = some (.int .u32) := by kernel_rfl
theorem ag_5 : aggOf Try.prog 5 = some false := by kernel_rfl
theorem ca_10 : callable Try.prog 10 = true := by kernel_rfl
theorem ca_19 : callable Try.prog 19 = true := by kernel_rfl
theorem ca_18 : callable Try.prog 18 = true := by kernel_rfl
theorem ca_17 : callable Try.prog 17 = true := by kernel_rfl
theorem ca_16 : callable Try.prog 16 = true := by kernel_rfl
theorem ca_15 : callable Try.prog 15 = true := by kernel_rfl
theorem ca_14 : callable Try.prog 14 = true := by kernel_rfl
theorem ca_13 : callable Try.prog 13 = true := by kernel_rfl
theorem ca_9 : callable Try.prog 9 = true := by kernel_rfl
end F
def bytes_Clone.f (k : Nat) (a0 : List Int) : Option (List Int) := if (decide (([] : List Int).length + a0.length ≤ 140737488355328)) = true then (some a0) else none
theorem bytes_Clone.meets (k : Nat) (a0 : List Int) (r : (List Int)) (h : bytes_Clone.f k a0 = some r) : Meets Try.prog 9 [(D.one (C.p false (.sl a0.length (a0.flatMap e_u8))))] [] (D.one (C.own 0 0 r.length 1)) [(some (AObj.cells true (rowC e_u8 r)))] := by
  unfold bytes_Clone.f at h
  refine Meets.of_body (n := 8) Try.func9 rfl rfl (Nat.le_of_ble_eq_true rfl) fun x hx => ?_
  replace hx : x.k = 0 := hx
  show AW _ x _ _ ⟨8, fr0 [(D.one (C.p false (.sl a0.length (a0.flatMap e_u8))))], []⟩
  refine AW.seq ?_
  refine AW.region ?_
  refine s_assign (d := (sc (.slice none 0 0))) rfl ?_
  refine AWops.nil ?_
  refine AW.seq ?_
  refine AW.seq ?_
  refine AW.region ?_
  refine s_move (d := (D.one (C.p false (.sl a0.length (a0.flatMap e_u8))))) rfl ?_
  refine s_eqNil (n := _) F.u_22 rfl (fun _ _ h => by cases h) rfl (.inl rfl) (fun b w => ?_)
  cases b with
  | false =>
    refine AWops.nil ?_
    refine AW.cond_no rfl rfl ?_
    refine AW.skip ?_
    refine AW.seq ?_
    refine AW.region ?_
    refine s_buildSlice (n := 0) (ps := []) (cs := rowC e_u8 ([] : List Int)) F.u_22 F.sz_5 F.z_5 rfl rfl (by decide) (by decide) rfl rfl ?_
    refine s_move (d := (D.one (C.p false (.sl a0.length (a0.flatMap e_u8))))) rfl ?_
    by_cases c1 : (decide (([] : List Int).length + a0.length ≤ 140737488355328)) = true
    · replace h := (if_pos c1).symm.trans h
      have dc1 := of_decide_eq_true c1
      refine t_append (xs := ([] : List Int)) (ys := a0) (zs := a0) (H' := [none, (some (AObj.cells true (rowC e_u8 a0)))]) F.u_22 F.in_5 rfl e_u8_len (.own rfl rfl) .imm F.u_22 (by omega) (by omega) rfl rfl ?_
      refine s_assign (d := (D.one (C.own 1 0 a0.length 1))) rfl ?_
      refine AWops.nil ?_
      refine AW.ret ?_
      obtain rfl := Option.some.inj h
      exact ⟨_, rfl, (Weak.gen (kk := 0) [1] [] rfl rfl (by decide) (by decide) rfl rfl rfl (le_upd (le_top _) (.t (.one (.own rfl)))) (All2.cons (.cells (fun h => h) (all2_row _)) All2.nil))⟩
    · replace h := (if_neg c1).symm.trans h
      cases h
  | true =>
    obtain rfl : a0 = [] := by cases a0 with | nil => rfl | cons _ _ => exact absurd (w (by simp)) (by decide)
    replace h : (some ([] : List Int)) = some r := by simpa [bytesI] using h
    skip
    refine AWops.nil ?_
    refine AW.cond_yes rfl rfl ?_
    refine AW.seq ?_
    refine AW.region ?_
    refine s_assign (d := (sc (.slice none 0 0))) rfl ?_
    refine AWops.nil ?_
    refine AW.ret ?_
    obtain rfl := Option.some.inj h
    exact ⟨_, rfl, (Weak.trans (Weak.nil (sz := 1) (i := 0) rfl) (Weak.gen (kk := 0) [0] [] rfl rfl (by decide) (by decide) rfl rfl rfl (le_upd (le_top _) (.t (.one (CLe.ownN rfl (by simp))))) (All2.cons (.cells (fun h => h) All2.nil) All2.nil)))⟩
def slices_Clone_byte_byte.f (k : Nat) (a0 : List Int) : Option (List Int) := if (decide (([] : List Int).length + a0.length ≤ 140737488355328)) = true then (some a0) else none
theorem slices_Clone_byte_byte.meets (k : Nat) (a0 : List Int) (r : (List Int)) (h : slices_Clone_byte_byte.f k a0 = some r) : Meets Try.prog 38 [(D.one (C.p false (.sl a0.length (a0.flatMap e_u8))))] [] (D.one (C.own 0 0 r.length 1)) [(some (AObj.cells true (rowC e_u8 r)))] := by
  unfold slices_Clone_byte_byte.f at h
  refine Meets.of_body (n := 8) Try.func38 rfl rfl (Nat.le_of_ble_eq_true rfl) fun x hx => ?_
  replace hx : x.k = 0 := hx
  show AW _ x _ _ ⟨8, fr0 [(D.one (C.p false (.sl a0.length (a0.flatMap e_u8))))], []⟩
  refine AW.seq ?_
  refine AW.region ?_
  refine s_assign (d := (sc (.slice none 0 0))) rfl ?_
  refine AWops.nil ?_
  refine AW.seq ?_
  refine AW.seq ?_
  refine AW.region ?_
  refine s_move (d := (D.one (C.p false (.sl a0.length (a0.flatMap e_u8))))) rfl ?_
  refine s_eqNil (n := _) F.u_22 rfl (fun _ _ h => by cases h) rfl (.inl rfl) (fun b w => ?_)
  cases b with
  | false =>
    refine AWops.nil ?_
    refine AW.cond_no rfl rfl ?_
    refine AW.skip ?_
    refine AW.seq ?_
    refine AW.region ?_
    refine s_buildSlice (n := 0) (ps := []) (cs := rowC e_u8 ([] : List Int)) F.u_22 F.sz_5 F.z_5 rfl rfl (by decide) (by decide) rfl rfl ?_
    refine s_move (d := (D.one (C.p false (.sl a0.length (a0.flatMap e_u8))))) rfl ?_
    by_cases c1 : (decide (([] : List Int).length + a0.length ≤ 140737488355328)) = true
    · replace h := (if_pos c1).symm.trans h
      have dc1 := of_decide_eq_true c1
      refine t_append (xs := ([] : List Int)) (ys := a0) (zs := a0) (H' := [none, (some (AObj.cells true (rowC e_u8 a0)))]) F.u_22 F.in_5 rfl e_u8_len (.own rfl rfl) .imm F.u_22 (by omega) (by omega) rfl rfl ?_
      refine s_assign (d := (D.one (C.own 1 0 a0.length 1))) rfl ?_
      refine AWops.nil ?_
      refine AW.ret ?_
      obtain rfl := Option.some.inj h
      exact ⟨_, rfl, (Weak.gen (kk := 0) [1] [] rfl rfl (by decide) (by decide) rfl rfl rfl (le_upd (le_top _) (.t (.one (.own rfl)))) (All2.cons (.cells (fun h => h) (all2_row _)) All2.nil))⟩
    · replace h := (if_neg c1).symm.trans h
      cases h
  | true =>
    obtain rfl : a0 = [] := by cases a0 with | nil => rfl | cons _ _ => exact absurd (w (by simp)) (by decide)
    replace h : (some ([] : List Int)) = some r := by simpa [bytesI] using h
    skip
    refine AWops.nil ?_
    refine AW.cond_yes rfl rfl ?_
    refine AW.seq ?_
    refine AW.region ?_
    refine s_assign (d := (sc (.slice none 0 0))) rfl ?_
    refine AWops.nil ?_
    refine AW.ret ?_
    obtain rfl := Option.some.inj h
    exact ⟨_, rfl, (Weak.trans (Weak.nil (sz := 1) (i := 0) rfl) (Weak.gen (kk := 0) [0] [] rfl rfl (by decide) (by decide) rfl rfl rfl (le_upd (le_top _) (.t (.one (CLe.ownN rfl (by simp))))) (All2.cons (.cells (fun h => h) All2.nil) All2.nil)))⟩
mutual
def wire_Int.l0 : Nat → (List Int) → Int → Option (List Int)
  | 0, _, _ => none
  | k + 1, x2, x3 => if (decide (x3 ≥ 128)) = true then (if (decide (x2.length + ([Go.bits .or .u8 (IntKind.u8.wrap x3) 128] : List Int).length ≤ 140737488355328)) = true then (wire_Int.l0 k (x2 ++ ([Go.bits .or .u8 (IntKind.u8.wrap x3) 128] : List Int)) (Int.fdiv x3 (2 ^ 7))) else none) else (if (decide (x2.length + ([IntKind.u8.wrap x3] : List Int).length ≤ 140737488355328)) = true then (some (x2 ++ ([IntKind.u8.wrap x3] : List Int))) else none)
end
def wire_Int.f (k : Nat) (a0 : List Int) (a1 : Int) : Option (List Int) := (slices_Clone_byte_byte.f k a0).bind fun r1 => wire_Int.l0 k r1 (Go.bits .xor .u64 (IntKind.u64.wrap ((IntKind.u64.wrap a1) * 2 ^ 1)) (IntKind.u64.wrap (Int.fdiv a1 (2 ^ 63))))
theorem wire_Int.meets (k : Nat) (a0 : List Int) (a1 : Int) (r : (List Int)) (h : wire_Int.f k a0 a1 = some r) : Meets Try.prog 11 [(D.one (C.p false (.sl a0.length (a0.flatMap e_u8)))), (sc (.int .i64 a1))] [] (D.one (C.own 0 0 r.length 1)) [(some (AObj.cells true (rowC e_u8 r)))] := by
  unfold wire_Int.f at h
  refine Meets.of_body (n := 31) Try.func11 rfl rfl (Nat.le_of_ble_eq_true rfl) fun x hx => ?_
  replace hx : x.k = 0 := hx
  show AW _ x _ _ ⟨31, fr0 [(D.one (C.p false (.sl a0.length (a0.flatMap e_u8)))), (sc (.int .i64 a1))], []⟩
  refine AW.seq ?_
  refine AW.region ?_
  refine s_assign (d := (sc (.slice none 0 0))) rfl ?_
  refine AWops.nil ?_
  refine AW.seq ?_
  refine AW.region ?_
  refine s_move (d := (D.one (C.p false (.sl a0.length (a0.flatMap e_u8))))) rfl ?_
  obtain ⟨r1, er1, h⟩ := Option.bind_eq_some_iff.mp h
  refine s_call (ρ := []) (br := false) (H2 := [(some (AObj.cells true (rowC e_u8 r1)))]) (d := (D.one (C.own 0 0 r1.length 1))) F.ca_38 rfl rfl (All2.cons (.one .imm) All2.nil) All2.nil (by decide) rfl (slices_Clone_byte_byte.meets _ a0 r1 er1) (.inl rfl) (by first | rfl | (simp only [mergeH, mergeAt, mergeObj, renO, ren_row, List.drop_succ_cons, List.drop_zero, List.map_cons, List.map_nil, Option.map_some, Option.map_none, List.length_cons, List.length_nil, Nat.zero_add, List.append_assoc, List.cons_append, List.nil_append]; done) | (simp only [mergeH, mergeAt, mergeObj, renO, ren_row, List.drop_succ_cons, List.drop_zero, List.map_cons, List.map_nil, Option.map_some, Option.map_none, List.length_cons, List.length_nil, Nat.zero_add, List.append_assoc, List.cons_append, List.nil_append]; rfl)) rfl ?_
  refine s_assign (d := (D.one (C.own 0 0 r1.length 1))) rfl ?_
  refine AWops.nil ?_
  refine AW.seq ?_
  refine AW.region ?_
  refine s_move (d := (sc (.int .i64 a1))) rfl ?_
  refine s_convI F.u_3 F.u_60 rfl ?_
  refine s_shift (v := (.int .u64 (IntKind.u64.wrap ((IntKind.u64.wrap a1) * 2 ^ 1)))) rfl rfl rfl ?_
  refine s_move (d := (sc (.int .i64 a1))) rfl ?_
  refine s_shift (v := (.int .i64 (Int.fdiv a1 (2 ^ 63)))) rfl rfl rfl ?_
  refine s_convI F.u_3 F.u_60 rfl ?_
  refine s_binI (v := (.int .u64 (Go.bits .xor .u64 (IntKind.u64.wrap ((IntKind.u64.wrap a1) * 2 ^ 1)) (IntKind.u64.wrap (Int.fdiv a1 (2 ^ 63)))))) rfl rfl rfl ?_
  refine s_assign (d := (sc (.int .u64 (Go.bits .xor .u64 (IntKind.u64.wrap ((IntKind.u64.wrap a1) * 2 ^ 1)) (IntKind.u64.wrap (Int.fdiv a1 (2 ^ 63))))))) rfl ?_
  refine AWops.nil ?_
  refine AW.seq ?_
  refine AW.block ?_
  refine AW.loopw (st0 := ⟨31, (upd 31 (upd 31 topF 5 (D.one (C.own 0 0 r1.length 1))) 6 (sc (.int .u64 (Go.bits .xor .u64 (IntKind.u64.wrap ((IntKind.u64.wrap a1) * 2 ^ 1)) (IntKind.u64.wrap (Int.fdiv a1 (2 ^ 63))))))), [(some (AObj.cells true (rowC e_u8 r1)))]⟩) (fun k st => k ≤ k ∧ ∃ (x2 : List Int) (x3 : Int), wire_Int.l0 k x2 x3 = some r ∧ st = ⟨31, (upd 31 (upd 31 topF 5 (D.one (C.own 0 0 x2.length 1))) 6 (sc (.int .u64 x3))), [(some (AObj.cells true (rowC e_u8 x2)))]⟩) (k := k) (Weak.gen (kk := 0) [0] [] hx rfl (by decide) (by decide) rfl rfl rfl (le_upd (le_upd (le_top _) (.t (.one (.own rfl)))) (.t (.one .sc))) (All2.cons (.cells (fun h => h) (all2_row _)) All2.nil)) ⟨Nat.le_refl _, r1, Go.bits .xor .u64 (IntKind.u64.wrap ((IntKind.u64.wrap a1) * 2 ^ 1)) (IntKind.u64.wrap (Int.fdiv a1 (2 ^ 63))), h, rfl⟩ ?_
  rintro ql0 st ⟨hkl0, x2, x3, h, rfl⟩
  cases ql0 with
  | zero => exact absurd h (by simp [wire_Int.l0])
  | succ ql0 =>
    replace h := (wire_Int.l0.eq_2 _ _ _).symm.trans h
    refine AW.seq ?_
    refine AW.seq ?_
    refine AW.region ?_
    refine s_move (d := (sc (.int .u64 x3))) rfl ?_
    refine s_binI (v := (.bool (decide (x3 ≥ 128)))) rfl rfl rfl ?_
    refine AWops.nil ?_
    by_cases c4 : (decide (x3 ≥ 128)) = true
    · replace h := (if_pos c4).symm.trans h
      refine AW.cond_yes rfl c4 ?_
      refine AW.skip ?_
      refine AW.seq ?_
      refine AW.block ?_
      refine AW.region ?_
      refine s_move (d := (D.one (C.own 0 0 x2.length 1))) rfl ?_
      refine s_move (d := (sc (.int .u64 x3))) rfl ?_
      refine s_convI F.u_60 F.u_5 rfl ?_
      refine s_binI (v := (.int .u8 (Go.bits .or .u8 (IntKind.u8.wrap x3) 128))) rfl rfl rfl ?_
      refine s_buildSlice (n := 1) (ps := [(0, (sc (.int .u8 (Go.bits .or .u8 (IntKind.u8.wrap x3) 128))))]) (cs := rowC e_u8 ([Go.bits .or .u8 (IntKind.u8.wrap x3) 128] : List Int)) F.u_22 F.sz_5 F.z_5 rfl rfl (by decide) (by decide) rfl rfl ?_
      by_cases c5 : (decide (x2.length + ([Go.bits .or .u8 (IntKind.u8.wrap x3) 128] : List Int).length ≤ 140737488355328)) = true
      · replace h := (if_pos c5).symm.trans h
        have dc5 := of_decide_eq_true c5
        refine t_append (xs := x2) (ys := ([Go.bits .or .u8 (IntKind.u8.wrap x3) 128] : List Int)) (zs := x2 ++ ([Go.bits .or .u8 (IntKind.u8.wrap x3) 128] : List Int)) (H' := [none, (some (AObj.cells true (rowC e_u8 ([Go.bits .or .u8 (IntKind.u8.wrap x3) 128] : List Int)))), (some (AObj.cells true (rowC e_u8 (x2 ++ ([Go.bits .or .u8 (IntKind.u8.wrap x3) 128] : List Int)))))]) F.u_22 F.in_5 rfl e_u8_len (.own rfl rfl) (.own rfl rfl) F.u_22 (by omega) (by omega) rfl rfl ?_
        refine s_assign (d := (D.one (C.own 2 0 ((x2 ++ ([Go.bits .or .u8 (IntKind.u8.wrap x3) 128] : List Int)).length) 1))) rfl ?_
        refine AWops.nil ?_
        refine AW.region ?_
        refine s_move (d := (sc (.int .u64 x3))) rfl ?_
        refine s_shift (v := (.int .u64 (Int.fdiv x3 (2 ^ 7)))) rfl rfl rfl ?_
        refine s_assign (d := (sc (.int .u64 (Int.fdiv x3 (2 ^ 7))))) rfl ?_
        refine AWops.nil ?_
        exact ⟨_, ⟨31, (upd 31 (upd 31 topF 5 (D.one (C.own 0 0 (x2 ++ ([Go.bits .or .u8 (IntKind.u8.wrap x3) 128] : List Int)).length 1))) 6 (sc (.int .u64 (Int.fdiv x3 (2 ^ 7))))), [(some (AObj.cells true (rowC e_u8 (x2 ++ ([Go.bits .or .u8 (IntKind.u8.wrap x3) 128] : List Int)))))]⟩, by omega, (Weak.gen (kk := 0) [2] [] hx rfl (by decide) (by decide) rfl rfl rfl (le_upd (le_upd (le_top _) (.t (.one (.own rfl)))) (.t (.one .sc))) (All2.cons (.cells (fun h => h) (all2_row _)) All2.nil)), by omega, x2 ++ ([Go.bits .or .u8 (IntKind.u8.wrap x3) 128] : List Int), Int.fdiv x3 (2 ^ 7), h, rfl⟩
      · replace h := (if_neg c5).symm.trans h
        cases h
    · replace h := (if_neg c4).symm.trans h
      replace c4 := Bool.eq_false_iff.mpr c4
      refine AW.cond_no rfl c4 ?_
      refine AW.exit ?_
      refine AW.seq ?_
      refine AW.region ?_
      refine s_move (d := (D.one (C.own 0 0 x2.length 1))) rfl ?_
      refine s_move (d := (sc (.int .u64 x3))) rfl ?_
      refine s_convI F.u_60 F.u_5 rfl ?_
      refine s_buildSlice (n := 1) (ps := [(0, (sc (.int .u8 (IntKind.u8.wrap x3))))]) (cs := rowC e_u8 ([IntKind.u8.wrap x3] : List Int)) F.u_22 F.sz_5 F.z_5 rfl rfl (by decide) (by decide) rfl rfl ?_
      by_cases c6 : (decide (x2.length + ([IntKind.u8.wrap x3] : List Int).length ≤ 140737488355328)) = true
      · replace h := (if_pos c6).symm.trans h
        have dc6 := of_decide_eq_true c6
        refine t_append (xs := x2) (ys := ([IntKind.u8.wrap x3] : List Int)) (zs := x2 ++ ([IntKind.u8.wrap x3] : List Int)) (H' := [none, (some (AObj.cells true (rowC e_u8 ([IntKind.u8.wrap x3] : List Int)))), (some (AObj.cells true (rowC e_u8 (x2 ++ ([IntKind.u8.wrap x3] : List Int)))))]) F.u_22 F.in_5 rfl e_u8_len (.own rfl rfl) (.own rfl rfl) F.u_22 (by omega) (by omega) rfl rfl ?_
        refine s_assign (d := (D.one (C.own 2 0 ((x2 ++ ([IntKind.u8.wrap x3] : List Int)).length) 1))) rfl ?_
        refine AWops.nil ?_
        refine AW.ret ?_
        obtain rfl := Option.some.inj h
        exact ⟨_, rfl, (Weak.gen (kk := 0) [2] [] rfl rfl (by decide) (by decide) rfl rfl rfl (le_upd (le_top _) (.t (.one (.own rfl)))) (All2.cons (.cells (fun h => h) (all2_row _)) All2.nil))⟩
      · replace h := (if_neg c6).symm.trans h
        cases h
mutual
def dossierref02_Int.l1 : Nat → (List Int) → Int → Option (List Int)
  | 0, _, _ => none
  | k + 1, x3, x4 => if (decide (x4 ≥ 128)) = true then (if (decide (x3.length + ([IntKind.u8.wrap ((IntKind.u8.wrap (Int.tmod x4 128)) + 128)] : List Int).length ≤ 140737488355328)) = true then (dossierref02_Int.l1 k (x3 ++ ([IntKind.u8.wrap ((IntKind.u8.wrap (Int.tmod x4 128)) + 128)] : List Int)) (IntKind.u64.wrap (Int.tdiv x4 128))) else none) else (if (decide (x3.length + ([IntKind.u8.wrap x4] : List Int).length ≤ 140737488355328)) = true then (some (x3 ++ ([IntKind.u8.wrap x4] : List Int))) else none)
def dossierref02_Int.j0 : Nat → Int → (List Int) → Option (List Int)
  | 0, _, _ => none
  | k + 1, x1, a0 => if (decide (([] : List Int).length + a0.length ≤ 140737488355328)) = true then (dossierref02_Int.l1 k a0 x1) else none
end
def dossierref02_Int.f (k : Nat) (a0 : List Int) (a1 : Int) : Option (List Int) := if (decide (a1 < 0)) = true then (dossierref02_Int.j0 k (IntKind.u64.wrap ((IntKind.u64.wrap ((IntKind.u64.wrap (IntKind.i64.wrap (0 - (IntKind.i64.wrap (a1 + 1))))) * 2)) + 1)) a0) else (dossierref02_Int.j0 k (IntKind.u64.wrap ((IntKind.u64.wrap a1) * 2)) a0)
theorem dossierref02_Int.meets (k : Nat) (a0 : List Int) (a1 : Int) (r : (List Int)) (h : dossierref02_Int.f k a0 a1 = some r) : Meets Try.prog 12 [(D.one (C.p false (.sl a0.length (a0.flatMap e_u8)))), (sc (.int .i64 a1))] [] (D.one (C.own 0 0 r.length 1)) [(some (AObj.cells true (rowC e_u8 r)))] := by
  unfold dossierref02_Int.f at h
  refine Meets.of_body (n := 37) Try.func12 rfl rfl (Nat.le_of_ble_eq_true rfl) fun x hx => ?_
  replace hx : x.k = 0 := hx
  show AW _ x _ _ ⟨37, fr0 [(D.one (C.p false (.sl a0.length (a0.flatMap e_u8)))), (sc (.int .i64 a1))], []⟩
  refine AW.seq ?_
  refine AW.region ?_
  refine s_assign (d := (sc (.slice none 0 0))) rfl ?_
  refine AWops.nil ?_
  refine AW.seq ?_
  refine AW.region ?_
  refine s_move (d := (sc (.int .i64 a1))) rfl ?_
  refine s_convI F.u_3 F.u_60 rfl ?_
  refine s_binI (v := (.int .u64 (IntKind.u64.wrap ((IntKind.u64.wrap a1) * 2)))) rfl rfl rfl ?_
  refine s_assign (d := (sc (.int .u64 (IntKind.u64.wrap ((IntKind.u64.wrap a1) * 2))))) rfl ?_
  refine AWops.nil ?_
  refine AW.seqJ (fun st => ∃ (x1 : Int), dossierref02_Int.j0 k x1 a0 = some r ∧ st = ⟨37, (upd 37 (upd 37 topF 0 (D.one (C.p false (.sl a0.length (a0.flatMap e_u8))))) 5 (sc (.int .u64 x1))), []⟩) ?_ ?_
  · refine AW.seq ?_
    refine AW.region ?_
    refine s_move (d := (sc (.int .i64 a1))) rfl ?_
    refine s_binI (v := (.bool (decide (a1 < 0)))) rfl rfl rfl ?_
    refine AWops.nil ?_
    by_cases c8 : (decide (a1 < 0)) = true
    · replace h := (if_pos c8).symm.trans h
      refine AW.cond_yes rfl c8 ?_
      refine AW.region ?_
      refine s_move (d := (sc (.int .i64 a1))) rfl ?_
      refine s_binI (v := (.int .i64 (IntKind.i64.wrap (a1 + 1)))) rfl rfl rfl ?_
      refine s_unI (v := (.int .i64 (IntKind.i64.wrap (0 - (IntKind.i64.wrap (a1 + 1)))))) rfl rfl ?_
      refine s_convI F.u_3 F.u_60 rfl ?_
      refine s_binI (v := (.int .u64 (IntKind.u64.wrap ((IntKind.u64.wrap (IntKind.i64.wrap (0 - (IntKind.i64.wrap (a1 + 1))))) * 2)))) rfl rfl rfl ?_
      refine s_binI (v := (.int .u64 (IntKind.u64.wrap ((IntKind.u64.wrap ((IntKind.u64.wrap (IntKind.i64.wrap (0 - (IntKind.i64.wrap (a1 + 1))))) * 2)) + 1)))) rfl rfl rfl ?_
      refine s_assign (d := (sc (.int .u64 (IntKind.u64.wrap ((IntKind.u64.wrap ((IntKind.u64.wrap (IntKind.i64.wrap (0 - (IntKind.i64.wrap (a1 + 1))))) * 2)) + 1))))) rfl ?_
      refine AWops.nil ?_
      exact ⟨⟨37, (upd 37 (upd 37 topF 0 (D.one (C.p false (.sl a0.length (a0.flatMap e_u8))))) 5 (sc (.int .u64 (IntKind.u64.wrap ((IntKind.u64.wrap ((IntKind.u64.wrap (IntKind.i64.wrap (0 - (IntKind.i64.wrap (a1 + 1))))) * 2)) + 1))))), []⟩, (Weak.gen (kk := 0) [] [] hx rfl (by decide) (by decide) rfl rfl rfl (le_upd (le_upd (le_top _) (.t (.one .same))) (.t (.one .sc))) All2.nil), IntKind.u64.wrap ((IntKind.u64.wrap ((IntKind.u64.wrap (IntKind.i64.wrap (0 - (IntKind.i64.wrap (a1 + 1))))) * 2)) + 1), h, rfl⟩
    · replace h := (if_neg c8).symm.trans h
      replace c8 := Bool.eq_false_iff.mpr c8
      refine AW.cond_no rfl c8 ?_
      refine AW.skip ?_
      exact ⟨⟨37, (upd 37 (upd 37 topF 0 (D.one (C.p false (.sl a0.length (a0.flatMap e_u8))))) 5 (sc (.int .u64 (IntKind.u64.wrap ((IntKind.u64.wrap a1) * 2))))), []⟩, (Weak.gen (kk := 0) [] [] hx rfl (by decide) (by decide) rfl rfl rfl (le_upd (le_upd (le_top _) (.t (.one .same))) (.t (.one .sc))) All2.nil), IntKind.u64.wrap ((IntKind.u64.wrap a1) * 2), h, rfl⟩
  · rintro st ⟨x1, h, rfl⟩
    cases k with
    | zero => exact absurd h (by simp [dossierref02_Int.j0])
    | succ qj0 =>
      replace h := (dossierref02_Int.j0.eq_2 _ _ _).symm.trans h
      refine AW.seq ?_
      refine AW.region ?_
      refine s_buildSlice (n := 0) (ps := []) (cs := rowC e_u8 ([] : List Int)) F.u_22 F.sz_5 F.z_5 rfl rfl (by decide) (by decide) rfl rfl ?_
      refine s_move (d := (D.one (C.p false (.sl a0.length (a0.flatMap e_u8))))) rfl ?_
      by_cases c2 : (decide (([] : List Int).length + a0.length ≤ 140737488355328)) = true
      · replace h := (if_pos c2).symm.trans h
        have dc2 := of_decide_eq_true c2
        refine t_append (xs := ([] : List Int)) (ys := a0) (zs := a0) (H' := [none, (some (AObj.cells true (rowC e_u8 a0)))]) F.u_22 F.in_5 rfl e_u8_len (.own rfl rfl) .imm F.u_22 (by omega) (by omega) rfl rfl ?_
        refine s_assign (d := (D.one (C.own 1 0 a0.length 1))) rfl ?_
        refine AWops.nil ?_
        refine AW.seq ?_
        refine AW.block ?_
        refine AW.loopw (st0 := ⟨37, (upd 37 (upd 37 topF 5 (sc (.int .u64 x1))) 6 (D.one (C.own 0 0 a0.length 1))), [(some (AObj.cells true (rowC e_u8 a0)))]⟩) (fun k st => k ≤ qj0 ∧ ∃ (x3 : List Int) (x4 : Int), dossierref02_Int.l1 k x3 x4 = some r ∧ st = ⟨37, (upd 37 (upd 37 topF 5 (sc (.int .u64 x4))) 6 (D.one (C.own 0 0 x3.length 1))), [(some (AObj.cells true (rowC e_u8 x3)))]⟩) (k := qj0) (Weak.gen (kk := 0) [1] [] hx rfl (by decide) (by decide) rfl rfl rfl (le_upd (le_upd (le_top _) (.t (.one .sc))) (.t (.one (.own rfl)))) (All2.cons (.cells (fun h => h) (all2_row _)) All2.nil)) ⟨Nat.le_refl _, a0, x1, h, rfl⟩ ?_
        rintro ql1 st ⟨hkl1, x3, x4, h, rfl⟩
        cases ql1 with
        | zero => exact absurd h (by simp [dossierref02_Int.l1])
        | succ ql1 =>
          replace h := (dossierref02_Int.l1.eq_2 _ _ _).symm.trans h
          refine AW.seq ?_
          refine AW.seq ?_
          refine AW.region ?_
          refine s_move (d := (sc (.int .u64 x4))) rfl ?_
          refine s_binI (v := (.bool (decide (x4 ≥ 128)))) rfl rfl rfl ?_
          refine AWops.nil ?_
          by_cases c5 : (decide (x4 ≥ 128)) = true
          · replace h := (if_pos c5).symm.trans h
            refine AW.cond_yes rfl c5 ?_
            refine AW.skip ?_
            refine AW.block ?_
            refine AW.seq ?_
            refine AW.region ?_
            refine s_move (d := (D.one (C.own 0 0 x3.length 1))) rfl ?_
            refine s_move (d := (sc (.int .u64 x4))) rfl ?_
            refine s_binI (v := (.int .u64 (Int.tmod x4 128))) rfl rfl rfl ?_
            refine s_convI F.u_60 F.u_5 rfl ?_
            refine s_binI (v := (.int .u8 (IntKind.u8.wrap ((IntKind.u8.wrap (Int.tmod x4 128)) + 128)))) rfl rfl rfl ?_
            refine s_buildSlice (n := 1) (ps := [(0, (sc (.int .u8 (IntKind.u8.wrap ((IntKind.u8.wrap (Int.tmod x4 128)) + 128)))))]) (cs := rowC e_u8 ([IntKind.u8.wrap ((IntKind.u8.wrap (Int.tmod x4 128)) + 128)] : List Int)) F.u_22 F.sz_5 F.z_5 rfl rfl (by decide) (by decide) rfl rfl ?_
            by_cases c6 : (decide (x3.length + ([IntKind.u8.wrap ((IntKind.u8.wrap (Int.tmod x4 128)) + 128)] : List Int).length ≤ 140737488355328)) = true
            · replace h := (if_pos c6).symm.trans h
              have dc6 := of_decide_eq_true c6
              refine t_append (xs := x3) (ys := ([IntKind.u8.wrap ((IntKind.u8.wrap (Int.tmod x4 128)) + 128)] : List Int)) (zs := x3 ++ ([IntKind.u8.wrap ((IntKind.u8.wrap (Int.tmod x4 128)) + 128)] : List Int)) (H' := [none, (some (AObj.cells true (rowC e_u8 ([IntKind.u8.wrap ((IntKind.u8.wrap (Int.tmod x4 128)) + 128)] : List Int)))), (some (AObj.cells true (rowC e_u8 (x3 ++ ([IntKind.u8.wrap ((IntKind.u8.wrap (Int.tmod x4 128)) + 128)] : List Int)))))]) F.u_22 F.in_5 rfl e_u8_len (.own rfl rfl) (.own rfl rfl) F.u_22 (by omega) (by omega) rfl rfl ?_
              refine s_assign (d := (D.one (C.own 2 0 ((x3 ++ ([IntKind.u8.wrap ((IntKind.u8.wrap (Int.tmod x4 128)) + 128)] : List Int)).length) 1))) rfl ?_
              refine AWops.nil ?_
              refine AW.region ?_
              refine s_move (d := (sc (.int .u64 x4))) rfl ?_
              refine s_binI (v := (.int .u64 (IntKind.u64.wrap (Int.tdiv x4 128)))) rfl rfl rfl ?_
              refine s_assign (d := (sc (.int .u64 (IntKind.u64.wrap (Int.tdiv x4 128))))) rfl ?_
              refine AWops.nil ?_
              exact ⟨_, ⟨37, (upd 37 (upd 37 topF 5 (sc (.int .u64 (IntKind.u64.wrap (Int.tdiv x4 128))))) 6 (D.one (C.own 0 0 (x3 ++ ([IntKind.u8.wrap ((IntKind.u8.wrap (Int.tmod x4 128)) + 128)] : List Int)).length 1))), [(some (AObj.cells true (rowC e_u8 (x3 ++ ([IntKind.u8.wrap ((IntKind.u8.wrap (Int.tmod x4 128)) + 128)] : List Int)))))]⟩, by omega, (Weak.gen (kk := 0) [2] [] hx rfl (by decide) (by decide) rfl rfl rfl (le_upd (le_upd (le_top _) (.t (.one .sc))) (.t (.one (.own rfl)))) (All2.cons (.cells (fun h => h) (all2_row _)) All2.nil)), by omega, x3 ++ ([IntKind.u8.wrap ((IntKind.u8.wrap (Int.tmod x4 128)) + 128)] : List Int), IntKind.u64.wrap (Int.tdiv x4 128), h, rfl⟩
            · replace h := (if_neg c6).symm.trans h
              cases h
          · replace h := (if_neg c5).symm.trans h
            replace c5 := Bool.eq_false_iff.mpr c5
            refine AW.cond_no rfl c5 ?_
            refine AW.exit ?_
            refine AW.seq ?_
            refine AW.region ?_
            refine s_move (d := (D.one (C.own 0 0 x3.length 1))) rfl ?_
            refine s_move (d := (sc (.int .u64 x4))) rfl ?_
            refine s_convI F.u_60 F.u_5 rfl ?_
            refine s_buildSlice (n := 1) (ps := [(0, (sc (.int .u8 (IntKind.u8.wrap x4))))]) (cs := rowC e_u8 ([IntKind.u8.wrap x4] : List Int)) F.u_22 F.sz_5 F.z_5 rfl rfl (by decide) (by decide) rfl rfl ?_
            by_cases c7 : (decide (x3.length + ([IntKind.u8.wrap x4] : List Int).length ≤ 140737488355328)) = true
            · replace h := (if_pos c7).symm.trans h
              have dc7 := of_decide_eq_true c7
              refine t_append (xs := x3) (ys := ([IntKind.u8.wrap x4] : List Int)) (zs := x3 ++ ([IntKind.u8.wrap x4] : List Int)) (H' := [none, (some (AObj.cells true (rowC e_u8 ([IntKind.u8.wrap x4] : List Int)))), (some (AObj.cells true (rowC e_u8 (x3 ++ ([IntKind.u8.wrap x4] : List Int)))))]) F.u_22 F.in_5 rfl e_u8_len (.own rfl rfl) (.own rfl rfl) F.u_22 (by omega) (by omega) rfl rfl ?_
              refine s_assign (d := (D.one (C.own 2 0 ((x3 ++ ([IntKind.u8.wrap x4] : List Int)).length) 1))) rfl ?_
              refine AWops.nil ?_
              refine AW.ret ?_
              obtain rfl := Option.some.inj h
              exact ⟨_, rfl, (Weak.gen (kk := 0) [2] [] rfl rfl (by decide) (by decide) rfl rfl rfl (le_upd (le_top _) (.t (.one (.own rfl)))) (All2.cons (.cells (fun h => h) (all2_row _)) All2.nil))⟩
            · replace h := (if_neg c7).symm.trans h
              cases h
      · replace h := (if_neg c2).symm.trans h
        cases h
def bytes_Equal.f (k : Nat) (a0 : List Int) (a1 : List Int) : Option Bool := some ((ofNums a0).toList == (ofNums a1).toList)
theorem bytes_Equal.meets (k : Nat) (a0 : List Int) (a1 : List Int) (r : Bool) (h : bytes_Equal.f k a0 a1 = some r) : Meets Try.prog 10 [(D.one (C.p false (.sl a0.length (a0.flatMap e_u8)))), (D.one (C.p false (.sl a1.length (a1.flatMap e_u8))))] [] (sc (.bool r)) [] := by
  unfold bytes_Equal.f at h
  refine Meets.of_body (n := 10) Try.func10 rfl rfl (Nat.le_of_ble_eq_true rfl) fun x hx => ?_
  replace hx : x.k = 0 := hx
  show AW _ x _ _ ⟨10, fr0 [(D.one (C.p false (.sl a0.length (a0.flatMap e_u8)))), (D.one (C.p false (.sl a1.length (a1.flatMap e_u8))))], []⟩
  refine AW.seq ?_
  refine AW.region ?_
  refine s_assign (d := (sc (.bool false))) rfl ?_
  refine AWops.nil ?_
  refine AW.seq ?_
  refine AW.region ?_
  refine s_move (d := (D.one (C.p false (.sl a0.length (a0.flatMap e_u8))))) rfl ?_
  refine t_toStr (xs := a0) F.u_22 F.u_5 F.u_9 .imm ?_
  refine s_move (d := (D.one (C.p false (.sl a1.length (a1.flatMap e_u8))))) rfl ?_
  refine t_toStr (xs := a1) F.u_22 F.u_5 F.u_9 .imm ?_
  refine s_binS (v := (.bool ((ofNums a0).toList == (ofNums a1).toList))) rfl rfl rfl ?_
  refine s_assign (d := (sc (.bool ((ofNums a0).toList == (ofNums a1).toList)))) rfl ?_
  refine AWops.nil ?_
  refine AW.ret ?_
  obtain rfl := Option.some.inj h
  exact ⟨_, rfl, (Weak.gen (kk := 0) [] [] rfl rfl (by decide) (by decide) rfl rfl rfl (le_upd (le_top _) (.t (.one .sc))) All2.nil)⟩
def wire_Text.f (k : Nat) (a0 : List Int) (a1 : ByteArray) : Option (List Int) := (wire_Int.f k a0 (a1.size : Int)).bind fun r1 => if (decide (r1.length + a1.size ≤ 140737488355328)) = true then (some (r1 ++ bytesI a1)) else none
theorem wire_Text.meets (k : Nat) (a0 : List Int) (a1 : ByteArray) (r : (List Int)) (h : wire_Text.f k a0 a1 = some r) : Meets Try.prog 13 [(D.one (C.p false (.sl a0.length (a0.flatMap e_u8)))), (sc (.string a1))] [] (D.one (C.own 0 0 r.length 1)) [(some (AObj.cells true (rowC e_u8 r)))] := by
  unfold wire_Text.f at h
  refine Meets.of_body (n := 11) Try.func13 rfl rfl (Nat.le_of_ble_eq_true rfl) fun x hx => ?_
  replace hx : x.k = 0 := hx
  show AW _ x _ _ ⟨11, fr0 [(D.one (C.p false (.sl a0.length (a0.flatMap e_u8)))), (sc (.string a1))], []⟩
  refine AW.seq ?_
  refine AW.region ?_
  refine s_assign (d := (sc (.slice none 0 0))) rfl ?_
  refine AWops.nil ?_
  refine AW.seq ?_
  refine AW.region ?_
  refine s_move (d := (D.one (C.p false (.sl a0.length (a0.flatMap e_u8))))) rfl ?_
  refine s_move (d := (sc (.string a1))) rfl ?_
  refine s_len (n := a1.size) F.u_9 rfl (.inl ⟨⟨_, _, rfl⟩, rfl⟩) ?_
  obtain ⟨r1, er1, h⟩ := Option.bind_eq_some_iff.mp h
  refine s_call (ρ := []) (br := false) (H2 := [(some (AObj.cells true (rowC e_u8 r1)))]) (d := (D.one (C.own 0 0 r1.length 1))) F.ca_11 rfl rfl (All2.cons (.one .imm) (All2.cons (.one .sc) All2.nil)) All2.nil (by decide) rfl (wire_Int.meets _ a0 (a1.size : Int) r1 er1) (.inl rfl) (by first | rfl | (simp only [mergeH, mergeAt, mergeObj, renO, ren_row, List.drop_succ_cons, List.drop_zero, List.map_cons, List.map_nil, Option.map_some, Option.map_none, List.length_cons, List.length_nil, Nat.zero_add, List.append_assoc, List.cons_append, List.nil_append]; done) | (simp only [mergeH, mergeAt, mergeObj, renO, ren_row, List.drop_succ_cons, List.drop_zero, List.map_cons, List.map_nil, Option.map_some, Option.map_none, List.length_cons, List.length_nil, Nat.zero_add, List.append_assoc, List.cons_append, List.nil_append]; rfl)) rfl ?_
  refine s_move (d := (sc (.string a1))) rfl ?_
  by_cases c2 : (decide (r1.length + a1.size ≤ 140737488355328)) = true
  · replace h := (if_pos c2).symm.trans h
    have dc2 := of_decide_eq_true c2
    refine t_appendStr (xs := r1) (zs := r1 ++ bytesI a1) (H' := [none, (some (AObj.cells true (rowC e_u8 (r1 ++ bytesI a1))))]) F.u_22 F.in_5 rfl (.own rfl rfl) rfl F.u_9 (by omega) (by omega) rfl rfl ?_
    refine s_assign (d := (D.one (C.own 1 0 ((r1 ++ bytesI a1).length) 1))) rfl ?_
    refine AWops.nil ?_
    refine AW.ret ?_
    obtain rfl := Option.some.inj h
    exact ⟨_, rfl, (Weak.gen (kk := 0) [1] [] rfl rfl (by decide) (by decide) rfl rfl rfl (le_upd (le_top _) (.t (.one (.own rfl)))) (All2.cons (.cells (fun h => h) (all2_row _)) All2.nil))⟩
  · replace h := (if_neg c2).symm.trans h
    cases h
def dossierref02_Text.f (k : Nat) (a0 : List Int) (a1 : ByteArray) : Option (List Int) := (dossierref02_Int.f k a0 (a1.size : Int)).bind fun r1 => if (decide (r1.length + a1.size ≤ 140737488355328)) = true then (some (r1 ++ bytesI a1)) else none
theorem dossierref02_Text.meets (k : Nat) (a0 : List Int) (a1 : ByteArray) (r : (List Int)) (h : dossierref02_Text.f k a0 a1 = some r) : Meets Try.prog 14 [(D.one (C.p false (.sl a0.length (a0.flatMap e_u8)))), (sc (.string a1))] [] (D.one (C.own 0 0 r.length 1)) [(some (AObj.cells true (rowC e_u8 r)))] := by
  unfold dossierref02_Text.f at h
  refine Meets.of_body (n := 11) Try.func14 rfl rfl (Nat.le_of_ble_eq_true rfl) fun x hx => ?_
  replace hx : x.k = 0 := hx
  show AW _ x _ _ ⟨11, fr0 [(D.one (C.p false (.sl a0.length (a0.flatMap e_u8)))), (sc (.string a1))], []⟩
  refine AW.seq ?_
  refine AW.region ?_
  refine s_assign (d := (sc (.slice none 0 0))) rfl ?_
  refine AWops.nil ?_
  refine AW.seq ?_
  refine AW.region ?_
  refine s_move (d := (D.one (C.p false (.sl a0.length (a0.flatMap e_u8))))) rfl ?_
  refine s_move (d := (sc (.string a1))) rfl ?_
  refine s_len (n := a1.size) F.u_9 rfl (.inl ⟨⟨_, _, rfl⟩, rfl⟩) ?_
  obtain ⟨r1, er1, h⟩ := Option.bind_eq_some_iff.mp h
  refine s_call (ρ := []) (br := false) (H2 := [(some (AObj.cells true (rowC e_u8 r1)))]) (d := (D.one (C.own 0 0 r1.length 1))) F.ca_12 rfl rfl (All2.cons (.one .imm) (All2.cons (.one .sc) All2.nil)) All2.nil (by decide) rfl (dossierref02_Int.meets _ a0 (a1.size : Int) r1 er1) (.inl rfl) (by first | rfl | (simp only [mergeH, mergeAt, mergeObj, renO, ren_row, List.drop_succ_cons, List.drop_zero, List.map_cons, List.map_nil, Option.map_some, Option.map_none, List.length_cons, List.length_nil, Nat.zero_add, List.append_assoc, List.cons_append, List.nil_append]; done) | (simp only [mergeH, mergeAt, mergeObj, renO, ren_row, List.drop_succ_cons, List.drop_zero, List.map_cons, List.map_nil, Option.map_some, Option.map_none, List.length_cons, List.length_nil, Nat.zero_add, List.append_assoc, List.cons_append, List.nil_append]; rfl)) rfl ?_
  refine s_move (d := (sc (.string a1))) rfl ?_
  by_cases c2 : (decide (r1.length + a1.size ≤ 140737488355328)) = true
  · replace h := (if_pos c2).symm.trans h
    have dc2 := of_decide_eq_true c2
    refine t_appendStr (xs := r1) (zs := r1 ++ bytesI a1) (H' := [none, (some (AObj.cells true (rowC e_u8 (r1 ++ bytesI a1))))]) F.u_22 F.in_5 rfl (.own rfl rfl) rfl F.u_9 (by omega) (by omega) rfl rfl ?_
    refine s_assign (d := (D.one (C.own 1 0 ((r1 ++ bytesI a1).length) 1))) rfl ?_
    refine AWops.nil ?_
    refine AW.ret ?_
    obtain rfl := Option.some.inj h
    exact ⟨_, rfl, (Weak.gen (kk := 0) [1] [] rfl rfl (by decide) (by decide) rfl rfl rfl (le_upd (le_top _) (.t (.one (.own rfl)))) (All2.cons (.cells (fun h => h) (all2_row _)) All2.nil))⟩
  · replace h := (if_neg c2).symm.trans h
    cases h
def wire_Flag.f (k : Nat) (a0 : List Int) (a1 : Bool) : Option (List Int) := (slices_Clone_byte_byte.f k a0).bind fun r1 => if (decide (r1.length + ([0] : List Int).length ≤ 140737488355328)) = true then (if a1 = true then ((rd (r1 ++ ([0] : List Int)) (IntKind.i64.wrap (((r1 ++ ([0] : List Int)).length : Int) - 1))).bind fun v4 => some ((r1 ++ ([0] : List Int)).set (IntKind.i64.wrap (((r1 ++ ([0] : List Int)).length : Int) - 1)).toNat 1)) else (some (r1 ++ ([0] : List Int)))) else none
theorem wire_Flag.meets (k : Nat) (a0 : List Int) (a1 : Bool) (r : (List Int)) (h : wire_Flag.f k a0 a1 = some r) : Meets Try.prog 15 [(D.one (C.p false (.sl a0.length (a0.flatMap e_u8)))), (sc (.bool a1))] [] (D.one (C.own 0 0 r.length 1)) [(some (AObj.cells true (rowC e_u8 r)))] := by
  unfold wire_Flag.f at h
  refine Meets.of_body (n := 17) Try.func15 rfl rfl (Nat.le_of_ble_eq_true rfl) fun x hx => ?_
  replace hx : x.k = 0 := hx
  show AW _ x _ _ ⟨17, fr0 [(D.one (C.p false (.sl a0.length (a0.flatMap e_u8)))), (sc (.bool a1))], []⟩
  refine AW.seq ?_
  refine AW.region ?_
  refine s_assign (d := (sc (.slice none 0 0))) rfl ?_
  refine AWops.nil ?_
  refine AW.seq ?_
  refine AW.region ?_
  refine s_move (d := (D.one (C.p false (.sl a0.length (a0.flatMap e_u8))))) rfl ?_
  obtain ⟨r1, er1, h⟩ := Option.bind_eq_some_iff.mp h
  refine s_call (ρ := []) (br := false) (H2 := [(some (AObj.cells true (rowC e_u8 r1)))]) (d := (D.one (C.own 0 0 r1.length 1))) F.ca_38 rfl rfl (All2.cons (.one .imm) All2.nil) All2.nil (by decide) rfl (slices_Clone_byte_byte.meets _ a0 r1 er1) (.inl rfl) (by first | rfl | (simp only [mergeH, mergeAt, mergeObj, renO, ren_row, List.drop_succ_cons, List.drop_zero, List.map_cons, List.map_nil, Option.map_some, Option.map_none, List.length_cons, List.length_nil, Nat.zero_add, List.append_assoc, List.cons_append, List.nil_append]; done) | (simp only [mergeH, mergeAt, mergeObj, renO, ren_row, List.drop_succ_cons, List.drop_zero, List.map_cons, List.map_nil, Option.map_some, Option.map_none, List.length_cons, List.length_nil, Nat.zero_add, List.append_assoc, List.cons_append, List.nil_append]; rfl)) rfl ?_
  refine s_buildSlice (n := 1) (ps := [(0, (sc (.int .u8 0)))]) (cs := rowC e_u8 ([0] : List Int)) F.u_22 F.sz_5 F.z_5 rfl rfl (by decide) (by decide) rfl rfl ?_
  by_cases c2 : (decide (r1.length + ([0] : List Int).length ≤ 140737488355328)) = true
  · replace h := (if_pos c2).symm.trans h
    have dc2 := of_decide_eq_true c2
    refine t_append (xs := r1) (ys := ([0] : List Int)) (zs := r1 ++ ([0] : List Int)) (H' := [none, (some (AObj.cells true (rowC e_u8 ([0] : List Int)))), (some (AObj.cells true (rowC e_u8 (r1 ++ ([0] : List Int)))))]) F.u_22 F.in_5 rfl e_u8_len (.own rfl rfl) (.own rfl rfl) F.u_22 (by omega) (by omega) rfl rfl ?_
    refine s_assign (d := (D.one (C.own 2 0 ((r1 ++ ([0] : List Int)).length) 1))) rfl ?_
    refine AWops.nil ?_
    refine AW.seq ?_
    refine AW.seq ?_
    refine AW.region ?_
    refine s_move (d := (sc (.bool a1))) rfl ?_
    refine AWops.nil ?_
    by_cases c3 : a1 = true
    · replace h := (if_pos c3).symm.trans h
      refine AW.cond_yes rfl c3 ?_
      refine AW.region ?_
      refine s_move (d := (D.one (C.own 2 0 ((r1 ++ ([0] : List Int)).length) 1))) rfl ?_
      refine s_move (d := (D.one (C.own 2 0 ((r1 ++ ([0] : List Int)).length) 1))) rfl ?_
      refine s_len (n := (r1 ++ ([0] : List Int)).length) F.u_22 rfl (.inr ⟨(fun _ _ h => by cases h), ⟨_, rfl⟩⟩) ?_
      refine s_binI (v := (.int .i64 (IntKind.i64.wrap (((r1 ++ ([0] : List Int)).length : Int) - 1)))) rfl rfl rfl ?_
      obtain ⟨v4, ev4, h⟩ := Option.bind_eq_some_iff.mp h
      obtain ⟨pv4, qv4, gv4⟩ := rd_some ev4
      refine s_indexOwn (d := (D.one (C.ref 2 (0 + (IntKind.i64.wrap (((r1 ++ ([0] : List Int)).length : Int) - 1)).toNat * 1)))) F.u_22 F.sz_5 rfl rfl pv4 qv4 rfl ?_
      refine s_store (cs' := rowC e_u8 ((r1 ++ ([0] : List Int)).set (IntKind.i64.wrap (((r1 ++ ([0] : List Int)).length : Int) - 1)).toNat 1)) rfl rfl rfl (List.cons_ne_nil _ _) rfl F.sz_5 ?_ (row_set (f := e_u8) (sz := 1) (o := 0) (ds := [P.v (.int .u8 1)]) e_u8_len gv4 rfl (by decide) rfl) ?_
      · rw [row_len e_u8_len]; have := (List.getElem?_eq_some_iff.mp gv4).1; show _ + 1 ≤ _; omega
      refine AWops.nil ?_
      refine AW.seq ?_
      refine AW.region ?_
      refine s_move (d := (D.one (C.own 2 0 ((r1 ++ ([0] : List Int)).length) 1))) rfl ?_
      refine s_assign (d := (D.one (C.own 2 0 ((r1 ++ ([0] : List Int)).length) 1))) rfl ?_
      refine AWops.nil ?_
      refine AW.ret ?_
      obtain rfl := Option.some.inj h
      exact ⟨_, rfl, (Weak.gen (kk := 0) [2] [] rfl rfl (by decide) (by decide) rfl rfl rfl (le_upd (le_top _) (.t (.one (CLe.ownN rfl (by simp))))) (All2.cons (.cells (fun h => h) (all2_row _)) All2.nil))⟩
    · replace h := (if_neg c3).symm.trans h
      replace c3 := Bool.eq_false_iff.mpr c3
      refine AW.cond_no rfl c3 ?_
      refine AW.skip ?_
      refine AW.seq ?_
      refine AW.region ?_
      refine s_move (d := (D.one (C.own 2 0 ((r1 ++ ([0] : List Int)).length) 1))) rfl ?_
      refine s_assign (d := (D.one (C.own 2 0 ((r1 ++ ([0] : List Int)).length) 1))) rfl ?_
      refine AWops.nil ?_
      refine AW.ret ?_
      obtain rfl := Option.some.inj h
      exact ⟨_, rfl, (Weak.gen (kk := 0) [2] [] rfl rfl (by decide) (by decide) rfl rfl rfl (le_upd (le_top _) (.t (.one (.own rfl)))) (All2.cons (.cells (fun h => h) (all2_row _)) All2.nil))⟩
  · replace h := (if_neg c2).symm.trans h
    cases h
def dossierref02_Flag.f (k : Nat) (a0 : List Int) (a1 : Bool) : Option (List Int) := if a1 = true then (if (decide (([] : List Int).length + a0.length ≤ 140737488355328)) = true then (if (decide (a0.length + ([1] : List Int).length ≤ 140737488355328)) = true then (some (a0 ++ ([1] : List Int))) else none) else none) else (if (decide (([] : List Int).length + a0.length ≤ 140737488355328)) = true then (if (decide (a0.length + ([0] : List Int).length ≤ 140737488355328)) = true then (some (a0 ++ ([0] : List Int))) else none) else none)
theorem dossierref02_Flag.meets (k : Nat) (a0 : List Int) (a1 : Bool) (r : (List Int)) (h : dossierref02_Flag.f k a0 a1 = some r) : Meets Try.prog 16 [(D.one (C.p false (.sl a0.length (a0.flatMap e_u8)))), (sc (.bool a1))] [] (D.one (C.own 0 0 r.length 1)) [(some (AObj.cells true (rowC e_u8 r)))] := by
  unfold dossierref02_Flag.f at h
  refine Meets.of_body (n := 13) Try.func16 rfl rfl (Nat.le_of_ble_eq_true rfl) fun x hx => ?_
  replace hx : x.k = 0 := hx
  show AW _ x _ _ ⟨13, fr0 [(D.one (C.p false (.sl a0.length (a0.flatMap e_u8)))), (sc (.bool a1))], []⟩
  refine AW.seq ?_
  refine AW.region ?_
  refine s_assign (d := (sc (.slice none 0 0))) rfl ?_
  refine AWops.nil ?_
  refine AW.seq ?_
  refine AW.region ?_
  refine s_assign (d := (sc (.int .u8 0))) rfl ?_
  refine AWops.nil ?_
  refine AW.seq ?_
  refine AW.seq ?_
  refine AW.region ?_
  refine s_move (d := (sc (.bool a1))) rfl ?_
  refine AWops.nil ?_
  by_cases c1 : a1 = true
  · replace h := (if_pos c1).symm.trans h
    refine AW.cond_yes rfl c1 ?_
    refine AW.region ?_
    refine s_assign (d := (sc (.int .u8 1))) rfl ?_
    refine AWops.nil ?_
    refine AW.seq ?_
    refine AW.region ?_
    refine s_buildSlice (n := 0) (ps := []) (cs := rowC e_u8 ([] : List Int)) F.u_22 F.sz_5 F.z_5 rfl rfl (by decide) (by decide) rfl rfl ?_
    refine s_move (d := (D.one (C.p false (.sl a0.length (a0.flatMap e_u8))))) rfl ?_
    by_cases c2 : (decide (([] : List Int).length + a0.length ≤ 140737488355328)) = true
    · replace h := (if_pos c2).symm.trans h
      have dc2 := of_decide_eq_true c2
      refine t_append (xs := ([] : List Int)) (ys := a0) (zs := a0) (H' := [none, (some (AObj.cells true (rowC e_u8 a0)))]) F.u_22 F.in_5 rfl e_u8_len (.own rfl rfl) .imm F.u_22 (by omega) (by omega) rfl rfl ?_
      refine s_move (d := (sc (.int .u8 1))) rfl ?_
      refine s_buildSlice (n := 1) (ps := [(0, (sc (.int .u8 1)))]) (cs := rowC e_u8 ([1] : List Int)) F.u_22 F.sz_5 F.z_5 rfl rfl (by decide) (by decide) rfl rfl ?_
      by_cases c3 : (decide (a0.length + ([1] : List Int).length ≤ 140737488355328)) = true
      · replace h := (if_pos c3).symm.trans h
        have dc3 := of_decide_eq_true c3
        refine t_append (xs := a0) (ys := ([1] : List Int)) (zs := a0 ++ ([1] : List Int)) (H' := [none, none, (some (AObj.cells true (rowC e_u8 ([1] : List Int)))), (some (AObj.cells true (rowC e_u8 (a0 ++ ([1] : List Int)))))]) F.u_22 F.in_5 rfl e_u8_len (.own rfl rfl) (.own rfl rfl) F.u_22 (by omega) (by omega) rfl rfl ?_
        refine s_assign (d := (D.one (C.own 3 0 ((a0 ++ ([1] : List Int)).length) 1))) rfl ?_
        refine AWops.nil ?_
        refine AW.ret ?_
        obtain rfl := Option.some.inj h
        exact ⟨_, rfl, (Weak.gen (kk := 0) [3] [] rfl rfl (by decide) (by decide) rfl rfl rfl (le_upd (le_top _) (.t (.one (.own rfl)))) (All2.cons (.cells (fun h => h) (all2_row _)) All2.nil))⟩
      · replace h := (if_neg c3).symm.trans h
        cases h
    · replace h := (if_neg c2).symm.trans h
      cases h
  · replace h := (if_neg c1).symm.trans h
    replace c1 := Bool.eq_false_iff.mpr c1
    refine AW.cond_no rfl c1 ?_
    refine AW.skip ?_
    refine AW.seq ?_
    refine AW.region ?_
    refine s_buildSlice (n := 0) (ps := []) (cs := rowC e_u8 ([] : List Int)) F.u_22 F.sz_5 F.z_5 rfl rfl (by decide) (by decide) rfl rfl ?_
    refine s_move (d := (D.one (C.p false (.sl a0.length (a0.flatMap e_u8))))) rfl ?_
    by_cases c4 : (decide (([] : List Int).length + a0.length ≤ 140737488355328)) = true
    · replace h := (if_pos c4).symm.trans h
      have dc4 := of_decide_eq_true c4
      refine t_append (xs := ([] : List Int)) (ys := a0) (zs := a0) (H' := [none, (some (AObj.cells true (rowC e_u8 a0)))]) F.u_22 F.in_5 rfl e_u8_len (.own rfl rfl) .imm F.u_22 (by omega) (by omega) rfl rfl ?_
      refine s_move (d := (sc (.int .u8 0))) rfl ?_
      refine s_buildSlice (n := 1) (ps := [(0, (sc (.int .u8 0)))]) (cs := rowC e_u8 ([0] : List Int)) F.u_22 F.sz_5 F.z_5 rfl rfl (by decide) (by decide) rfl rfl ?_
      by_cases c5 : (decide (a0.length + ([0] : List Int).length ≤ 140737488355328)) = true
      · replace h := (if_pos c5).symm.trans h
        have dc5 := of_decide_eq_true c5
        refine t_append (xs := a0) (ys := ([0] : List Int)) (zs := a0 ++ ([0] : List Int)) (H' := [none, none, (some (AObj.cells true (rowC e_u8 ([0] : List Int)))), (some (AObj.cells true (rowC e_u8 (a0 ++ ([0] : List Int)))))]) F.u_22 F.in_5 rfl e_u8_len (.own rfl rfl) (.own rfl rfl) F.u_22 (by omega) (by omega) rfl rfl ?_
        refine s_assign (d := (D.one (C.own 3 0 ((a0 ++ ([0] : List Int)).length) 1))) rfl ?_
        refine AWops.nil ?_
        refine AW.ret ?_
        obtain rfl := Option.some.inj h
        exact ⟨_, rfl, (Weak.gen (kk := 0) [3] [] rfl rfl (by decide) (by decide) rfl rfl rfl (le_upd (le_top _) (.t (.one (.own rfl)))) (All2.cons (.cells (fun h => h) (all2_row _)) All2.nil))⟩
      · replace h := (if_neg c5).symm.trans h
        cases h
    · replace h := (if_neg c4).symm.trans h
      cases h
mutual
def wire_Crc.l1 : Nat → Int → Int → (List Int) → Int → Option Int
  | 0, _, _, _, _ => none
  | k + 1, x5, x6, a0, x2 => if (decide (x6 < 8)) = true then (wire_Crc.l1 k (Go.bits .xor .u32 (Int.fdiv x5 (2 ^ 1)) (Go.bits .and .u32 3988292384 (IntKind.u32.wrap (0 - (Go.bits .and .u32 x5 1))))) (IntKind.i64.wrap (x6 + 1)) a0 x2) else (wire_Crc.l0 k x5 (IntKind.i64.wrap (x2 + 1)) a0)
def wire_Crc.l0 : Nat → Int → Int → (List Int) → Option Int
  | 0, _, _, _ => none
  | k + 1, x1, x2, a0 => if (decide (x2 < (a0.length : Int))) = true then ((rd a0 x2).bind fun v4 => wire_Crc.l1 k (Go.bits .xor .u32 x1 (IntKind.u32.wrap v4)) 0 a0 x2) else (some (IntKind.i64.wrap (Go.bits .xor .u32 4294967295 x1)))
end
def wire_Crc.f (k : Nat) (a0 : List Int) : Option Int := wire_Crc.l0 k 4294967295 0 a0
theorem wire_Crc.meets (k : Nat) (a0 : List Int) (r : Int) (h : wire_Crc.f k a0 = some r) : Meets Try.prog 17 [(D.one (C.p false (.sl a0.length (a0.flatMap e_u8))))] [] (sc (.int .i64 r)) [] := by
  unfold wire_Crc.f at h
  refine Meets.of_body (n := 30) Try.func17 rfl rfl (Nat.le_of_ble_eq_true rfl) fun x hx => ?_
  replace hx : x.k = 0 := hx
  show AW _ x _ _ ⟨30, fr0 [(D.one (C.p false (.sl a0.length (a0.flatMap e_u8))))], []⟩
  refine AW.seq ?_
  refine AW.region ?_
  refine s_assign (d := (sc (.int .i64 0))) rfl ?_
  refine AWops.nil ?_
  refine AW.seq ?_
  refine AW.region ?_
  refine s_assign (d := (sc (.int .u32 4294967295))) rfl ?_
  refine AWops.nil ?_
  refine AW.seq ?_
  refine AW.seq ?_
  refine AW.region ?_
  refine s_move (d := (D.one (C.p false (.sl a0.length (a0.flatMap e_u8))))) rfl ?_
  refine s_len (n := a0.length) F.u_22 rfl (.inr ⟨(fun _ _ h => by cases h), ⟨_, rfl⟩⟩) ?_
  refine s_move (d := (sc (.int .i64 0))) rfl ?_
  refine AWops.nil ?_
  refine AW.block ?_
  refine AW.loopw (st0 := ⟨30, (upd 30 (upd 30 (upd 30 (upd 30 topF 3 (sc (.int .u32 4294967295))) 6 (D.one (C.p false (.sl a0.length (a0.flatMap e_u8))))) 7 (sc (.int .i64 (a0.length : Int)))) 8 (sc (.int .i64 0))), []⟩) (fun k st => k ≤ k ∧ ∃ (x1 : Int) (x2 : Int), wire_Crc.l0 k x1 x2 a0 = some r ∧ st = ⟨30, (upd 30 (upd 30 (upd 30 (upd 30 topF 3 (sc (.int .u32 x1))) 6 (D.one (C.p false (.sl a0.length (a0.flatMap e_u8))))) 7 (sc (.int .i64 (a0.length : Int)))) 8 (sc (.int .i64 x2))), []⟩) (k := k) (Weak.gen (kk := 0) [] [] hx rfl (by decide) (by decide) rfl rfl rfl (le_upd (le_upd (le_upd (le_upd (le_top _) (.t (.one .sc))) (.t (.one .same))) (.t (.one .sc))) (.t (.one .sc))) All2.nil) ⟨Nat.le_refl _, 4294967295, 0, h, rfl⟩ ?_
  rintro ql0 st ⟨hkl0, x1, x2, h, rfl⟩
  cases ql0 with
  | zero => exact absurd h (by simp [wire_Crc.l0])
  | succ ql0 =>
    replace h := (wire_Crc.l0.eq_2 _ _ _ _).symm.trans h
    refine AW.seq ?_
    refine AW.region ?_
    refine s_binI (v := (.bool (decide (x2 < (a0.length : Int))))) rfl rfl rfl ?_
    refine AWops.nil ?_
    refine AW.seq ?_
    by_cases c3 : (decide (x2 < (a0.length : Int))) = true
    · replace h := (if_pos c3).symm.trans h
      refine AW.cond_yes rfl c3 ?_
      refine AW.skip ?_
      refine AW.seq ?_
      refine AW.block ?_
      refine AW.seq ?_
      refine AW.region ?_
      obtain ⟨v4, ev4, h⟩ := Option.bind_eq_some_iff.mp h
      obtain ⟨pv4, qv4, gv4⟩ := rd_some ev4
      refine s_indexImm (ps := [P.v (.int .u8 v4)]) F.u_22 F.sz_5 rfl rfl pv4 qv4 (flat_at e_u8_len gv4 (e_u8_eq v4)) ?_
      refine s_load1 (c' := (C.p true (.v (.int .u8 v4)))) F.ag_5 rfl rfl ?_
      refine s_assign (d := (sc (.int .u8 v4))) rfl ?_
      refine AWops.nil ?_
      refine AW.seq ?_
      refine AW.region ?_
      refine s_move (d := (sc (.int .u32 x1))) rfl ?_
      refine s_move (d := (sc (.int .u8 v4))) rfl ?_
      refine s_convI F.u_5 F.u_62 rfl ?_
      refine s_binI (v := (.int .u32 (Go.bits .xor .u32 x1 (IntKind.u32.wrap v4)))) rfl rfl rfl ?_
      refine s_assign (d := (sc (.int .u32 (Go.bits .xor .u32 x1 (IntKind.u32.wrap v4))))) rfl ?_
      refine AWops.nil ?_
      refine AW.seq ?_
      refine AW.region ?_
      refine s_move (d := (sc (.int .i64 0))) rfl ?_
      refine AWops.nil ?_
      refine AW.block ?_
      refine AW.loopw (st0 := ⟨30, (upd 30 (upd 30 (upd 30 (upd 30 (upd 30 topF 3 (sc (.int .u32 (Go.bits .xor .u32 x1 (IntKind.u32.wrap v4))))) 6 (D.one (C.p false (.sl a0.length (a0.flatMap e_u8))))) 7 (sc (.int .i64 (a0.length : Int)))) 8 (sc (.int .i64 x2))) 16 (sc (.int .i64 0))), []⟩) (fun k st => k ≤ ql0 ∧ ∃ (x5 : Int) (x6 : Int), wire_Crc.l1 k x5 x6 a0 x2 = some r ∧ st = ⟨30, (upd 30 (upd 30 (upd 30 (upd 30 (upd 30 topF 3 (sc (.int .u32 x5))) 6 (D.one (C.p false (.sl a0.length (a0.flatMap e_u8))))) 7 (sc (.int .i64 (a0.length : Int)))) 8 (sc (.int .i64 x2))) 16 (sc (.int .i64 x6))), []⟩) (k := ql0) (Weak.gen (kk := 0) [] [] hx rfl (by decide) (by decide) rfl rfl rfl (le_upd (le_upd (le_upd (le_upd (le_upd (le_top _) (.t (.one .sc))) (.t (.one .same))) (.t (.one .sc))) (.t (.one .sc))) (.t (.one .sc))) All2.nil) ⟨Nat.le_refl _, Go.bits .xor .u32 x1 (IntKind.u32.wrap v4), 0, h, rfl⟩ ?_
      rintro ql1 st ⟨hkl1, x5, x6, h, rfl⟩
      cases ql1 with
      | zero => exact absurd h (by simp [wire_Crc.l1])
      | succ ql1 =>
        replace h := (wire_Crc.l1.eq_2 _ _ _ _ _).symm.trans h
        refine AW.seq ?_
        refine AW.region ?_
        refine s_binI (v := (.bool (decide (x6 < 8)))) rfl rfl rfl ?_
        refine AWops.nil ?_
        refine AW.seq ?_
        by_cases c7 : (decide (x6 < 8)) = true
        · replace h := (if_pos c7).symm.trans h
          refine AW.cond_yes rfl c7 ?_
          refine AW.skip ?_
          refine AW.seq ?_
          refine AW.block ?_
          refine AW.region ?_
          refine s_move (d := (sc (.int .u32 x5))) rfl ?_
          refine s_shift (v := (.int .u32 (Int.fdiv x5 (2 ^ 1)))) rfl rfl rfl ?_
          refine s_move (d := (sc (.int .u32 x5))) rfl ?_
          refine s_binI (v := (.int .u32 (Go.bits .and .u32 x5 1))) rfl rfl rfl ?_
          refine s_unI (v := (.int .u32 (IntKind.u32.wrap (0 - (Go.bits .and .u32 x5 1))))) rfl rfl ?_
          refine s_binI (v := (.int .u32 (Go.bits .and .u32 3988292384 (IntKind.u32.wrap (0 - (Go.bits .and .u32 x5 1)))))) rfl rfl rfl ?_
          refine s_binI (v := (.int .u32 (Go.bits .xor .u32 (Int.fdiv x5 (2 ^ 1)) (Go.bits .and .u32 3988292384 (IntKind.u32.wrap (0 - (Go.bits .and .u32 x5 1))))))) rfl rfl rfl ?_
          refine s_assign (d := (sc (.int .u32 (Go.bits .xor .u32 (Int.fdiv x5 (2 ^ 1)) (Go.bits .and .u32 3988292384 (IntKind.u32.wrap (0 - (Go.bits .and .u32 x5 1)))))))) rfl ?_
          refine AWops.nil ?_
          refine AW.region ?_
          refine s_binI (v := (.int .i64 (IntKind.i64.wrap (x6 + 1)))) rfl rfl rfl ?_
          refine s_move (d := (sc (.int .i64 (IntKind.i64.wrap (x6 + 1))))) rfl ?_
          refine AWops.nil ?_
          exact ⟨_, ⟨30, (upd 30 (upd 30 (upd 30 (upd 30 (upd 30 topF 3 (sc (.int .u32 (Go.bits .xor .u32 (Int.fdiv x5 (2 ^ 1)) (Go.bits .and .u32 3988292384 (IntKind.u32.wrap (0 - (Go.bits .and .u32 x5 1)))))))) 6 (D.one (C.p false (.sl a0.length (a0.flatMap e_u8))))) 7 (sc (.int .i64 (a0.length : Int)))) 8 (sc (.int .i64 x2))) 16 (sc (.int .i64 (IntKind.i64.wrap (x6 + 1))))), []⟩, by omega, (Weak.gen (kk := 0) [] [] hx rfl (by decide) (by decide) rfl rfl rfl (le_upd (le_upd (le_upd (le_upd (le_upd (le_top _) (.t (.one .sc))) (.t (.one .same))) (.t (.one .sc))) (.t (.one .sc))) (.t (.one .sc))) All2.nil), by omega, Go.bits .xor .u32 (Int.fdiv x5 (2 ^ 1)) (Go.bits .and .u32 3988292384 (IntKind.u32.wrap (0 - (Go.bits .and .u32 x5 1)))), IntKind.i64.wrap (x6 + 1), h, rfl⟩
        · replace h := (if_neg c7).symm.trans h
          replace c7 := Bool.eq_false_iff.mpr c7
          refine AW.cond_no rfl c7 ?_
          refine AW.exit ?_
          refine AW.region ?_
          refine s_binI (v := (.int .i64 (IntKind.i64.wrap (x2 + 1)))) rfl rfl rfl ?_
          refine s_move (d := (sc (.int .i64 (IntKind.i64.wrap (x2 + 1))))) rfl ?_
          refine AWops.nil ?_
          exact ⟨_, ⟨30, (upd 30 (upd 30 (upd 30 (upd 30 topF 3 (sc (.int .u32 x5))) 6 (D.one (C.p false (.sl a0.length (a0.flatMap e_u8))))) 7 (sc (.int .i64 (a0.length : Int)))) 8 (sc (.int .i64 (IntKind.i64.wrap (x2 + 1))))), []⟩, by omega, (Weak.gen (kk := 0) [] [] hx rfl (by decide) (by decide) rfl rfl rfl (le_upd (le_upd (le_upd (le_upd (le_top _) (.t (.one .sc))) (.t (.one .same))) (.t (.one .sc))) (.t (.one .sc))) All2.nil), by omega, x5, IntKind.i64.wrap (x2 + 1), h, rfl⟩
    · replace h := (if_neg c3).symm.trans h
      replace c3 := Bool.eq_false_iff.mpr c3
      refine AW.cond_no rfl c3 ?_
      refine AW.exit ?_
      refine AW.seq ?_
      refine AW.region ?_
      refine s_move (d := (sc (.int .u32 x1))) rfl ?_
      refine s_unI (v := (.int .u32 (Go.bits .xor .u32 4294967295 x1))) rfl rfl ?_
      refine s_convI F.u_62 F.u_3 rfl ?_
      refine s_assign (d := (sc (.int .i64 (IntKind.i64.wrap (Go.bits .xor .u32 4294967295 x1))))) rfl ?_
      refine AWops.nil ?_
      refine AW.ret ?_
      obtain rfl := Option.some.inj h
      exact ⟨_, rfl, (Weak.gen (kk := 0) [] [] rfl rfl (by decide) (by decide) rfl rfl rfl (le_upd (le_top _) (.t (.one .sc))) All2.nil)⟩
mutual
def dossierref02_Crc.l1 : Nat → Int → Int → (List Int) → Int → Option Int
  | 0, _, _, _, _ => none
  | k + 1, x5, x6, a0, x2 => if (decide (x6 < 8)) = true then (if ((Int.tmod x5 2) == 1) = true then (dossierref02_Crc.l1 k (Go.bits .xor .u32 (Int.fdiv x5 (2 ^ 1)) 3988292384) (IntKind.i64.wrap (x6 + 1)) a0 x2) else (dossierref02_Crc.l1 k (Int.fdiv x5 (2 ^ 1)) (IntKind.i64.wrap (x6 + 1)) a0 x2)) else (dossierref02_Crc.l0 k x5 (IntKind.i64.wrap (x2 + 1)) a0)
def dossierref02_Crc.l0 : Nat → Int → Int → (List Int) → Option Int
  | 0, _, _, _ => none
  | k + 1, x1, x2, a0 => if (decide (x2 < (a0.length : Int))) = true then ((rd a0 x2).bind fun v4 => dossierref02_Crc.l1 k (Go.bits .xor .u32 x1 (IntKind.u32.wrap v4)) 0 a0 x2) else (some (IntKind.i64.wrap (Go.bits .xor .u32 x1 4294967295)))
end
def dossierref02_Crc.f (k : Nat) (a0 : List Int) : Option Int := dossierref02_Crc.l0 k 4294967295 0 a0
theorem dossierref02_Crc.meets (k : Nat) (a0 : List Int) (r : Int) (h : dossierref02_Crc.f k a0 = some r) : Meets Try.prog 18 [(D.one (C.p false (.sl a0.length (a0.flatMap e_u8))))] [] (sc (.int .i64 r)) [] := by
  unfold dossierref02_Crc.f at h
  refine Meets.of_body (n := 31) Try.func18 rfl rfl (Nat.le_of_ble_eq_true rfl) fun x hx => ?_
  replace hx : x.k = 0 := hx
  show AW _ x _ _ ⟨31, fr0 [(D.one (C.p false (.sl a0.length (a0.flatMap e_u8))))], []⟩
  refine AW.seq ?_
  refine AW.region ?_
  refine s_assign (d := (sc (.int .i64 0))) rfl ?_
  refine AWops.nil ?_
  refine AW.seq ?_
  refine AW.region ?_
  refine s_assign (d := (sc (.int .u32 4294967295))) rfl ?_
  refine AWops.nil ?_
  refine AW.seq ?_
  refine AW.seq ?_
  refine AW.region ?_
  refine s_move (d := (D.one (C.p false (.sl a0.length (a0.flatMap e_u8))))) rfl ?_
  refine s_len (n := a0.length) F.u_22 rfl (.inr ⟨(fun _ _ h => by cases h), ⟨_, rfl⟩⟩) ?_
  refine s_move (d := (sc (.int .i64 0))) rfl ?_
  refine AWops.nil ?_
  refine AW.block ?_
  refine AW.loopw (st0 := ⟨31, (upd 31 (upd 31 (upd 31 (upd 31 topF 3 (sc (.int .u32 4294967295))) 6 (D.one (C.p false (.sl a0.length (a0.flatMap e_u8))))) 7 (sc (.int .i64 (a0.length : Int)))) 8 (sc (.int .i64 0))), []⟩) (fun k st => k ≤ k ∧ ∃ (x1 : Int) (x2 : Int), dossierref02_Crc.l0 k x1 x2 a0 = some r ∧ st = ⟨31, (upd 31 (upd 31 (upd 31 (upd 31 topF 3 (sc (.int .u32 x1))) 6 (D.one (C.p false (.sl a0.length (a0.flatMap e_u8))))) 7 (sc (.int .i64 (a0.length : Int)))) 8 (sc (.int .i64 x2))), []⟩) (k := k) (Weak.gen (kk := 0) [] [] hx rfl (by decide) (by decide) rfl rfl rfl (le_upd (le_upd (le_upd (le_upd (le_top _) (.t (.one .sc))) (.t (.one .same))) (.t (.one .sc))) (.t (.one .sc))) All2.nil) ⟨Nat.le_refl _, 4294967295, 0, h, rfl⟩ ?_
  rintro ql0 st ⟨hkl0, x1, x2, h, rfl⟩
  cases ql0 with
  | zero => exact absurd h (by simp [dossierref02_Crc.l0])
  | succ ql0 =>
    replace h := (dossierref02_Crc.l0.eq_2 _ _ _ _).symm.trans h
    refine AW.seq ?_
    refine AW.region ?_
    refine s_binI (v := (.bool (decide (x2 < (a0.length : Int))))) rfl rfl rfl ?_
    refine AWops.nil ?_
    refine AW.seq ?_
    by_cases c3 : (decide (x2 < (a0.length : Int))) = true
    · replace h := (if_pos c3).symm.trans h
      refine AW.cond_yes rfl c3 ?_
      refine AW.skip ?_
      refine AW.seq ?_
      refine AW.block ?_
      refine AW.seq ?_
      refine AW.region ?_
      obtain ⟨v4, ev4, h⟩ := Option.bind_eq_some_iff.mp h
      obtain ⟨pv4, qv4, gv4⟩ := rd_some ev4
      refine s_indexImm (ps := [P.v (.int .u8 v4)]) F.u_22 F.sz_5 rfl rfl pv4 qv4 (flat_at e_u8_len gv4 (e_u8_eq v4)) ?_
      refine s_load1 (c' := (C.p true (.v (.int .u8 v4)))) F.ag_5 rfl rfl ?_
      refine s_assign (d := (sc (.int .u8 v4))) rfl ?_
      refine AWops.nil ?_
      refine AW.seq ?_
      refine AW.region ?_
      refine s_move (d := (sc (.int .u32 x1))) rfl ?_
      refine s_move (d := (sc (.int .u8 v4))) rfl ?_
      refine s_convI F.u_5 F.u_62 rfl ?_
      refine s_binI (v := (.int .u32 (Go.bits .xor .u32 x1 (IntKind.u32.wrap v4)))) rfl rfl rfl ?_
      refine s_assign (d := (sc (.int .u32 (Go.bits .xor .u32 x1 (IntKind.u32.wrap v4))))) rfl ?_
      refine AWops.nil ?_
      refine AW.seq ?_
      refine AW.region ?_
      refine s_move (d := (sc (.int .i64 0))) rfl ?_
      refine AWops.nil ?_
      refine AW.block ?_
      refine AW.loopw (st0 := ⟨31, (upd 31 (upd 31 (upd 31 (upd 31 (upd 31 topF 3 (sc (.int .u32 (Go.bits .xor .u32 x1 (IntKind.u32.wrap v4))))) 6 (D.one (C.p false (.sl a0.length (a0.flatMap e_u8))))) 7 (sc (.int .i64 (a0.length : Int)))) 8 (sc (.int .i64 x2))) 16 (sc (.int .i64 0))), []⟩) (fun k st => k ≤ ql0 ∧ ∃ (x5 : Int) (x6 : Int), dossierref02_Crc.l1 k x5 x6 a0 x2 = some r ∧ st = ⟨31, (upd 31 (upd 31 (upd 31 (upd 31 (upd 31 topF 3 (sc (.int .u32 x5))) 6 (D.one (C.p false (.sl a0.length (a0.flatMap e_u8))))) 7 (sc (.int .i64 (a0.length : Int)))) 8 (sc (.int .i64 x2))) 16 (sc (.int .i64 x6))), []⟩) (k := ql0) (Weak.gen (kk := 0) [] [] hx rfl (by decide) (by decide) rfl rfl rfl (le_upd (le_upd (le_upd (le_upd (le_upd (le_top _) (.t (.one .sc))) (.t (.one .same))) (.t (.one .sc))) (.t (.one .sc))) (.t (.one .sc))) All2.nil) ⟨Nat.le_refl _, Go.bits .xor .u32 x1 (IntKind.u32.wrap v4), 0, h, rfl⟩ ?_
      rintro ql1 st ⟨hkl1, x5, x6, h, rfl⟩
      cases ql1 with
      | zero => exact absurd h (by simp [dossierref02_Crc.l1])
      | succ ql1 =>
        replace h := (dossierref02_Crc.l1.eq_2 _ _ _ _ _).symm.trans h
        refine AW.seq ?_
        refine AW.region ?_
        refine s_binI (v := (.bool (decide (x6 < 8)))) rfl rfl rfl ?_
        refine AWops.nil ?_
        refine AW.seq ?_
        by_cases c7 : (decide (x6 < 8)) = true
        · replace h := (if_pos c7).symm.trans h
          refine AW.cond_yes rfl c7 ?_
          refine AW.skip ?_
          refine AW.seq ?_
          refine AW.block ?_
          refine AW.seq ?_
          refine AW.region ?_
          refine s_move (d := (sc (.int .u32 x5))) rfl ?_
          refine s_binI (v := (.int .u32 (Int.tmod x5 2))) rfl rfl rfl ?_
          refine s_binI (v := (.bool ((Int.tmod x5 2) == 1))) rfl rfl rfl ?_
          refine AWops.nil ?_
          by_cases c8 : ((Int.tmod x5 2) == 1) = true
          · replace h := (if_pos c8).symm.trans h
            refine AW.cond_yes rfl c8 ?_
            refine AW.region ?_
            refine s_move (d := (sc (.int .u32 x5))) rfl ?_
            refine s_shift (v := (.int .u32 (Int.fdiv x5 (2 ^ 1)))) rfl rfl rfl ?_
            refine s_binI (v := (.int .u32 (Go.bits .xor .u32 (Int.fdiv x5 (2 ^ 1)) 3988292384))) rfl rfl rfl ?_
            refine s_assign (d := (sc (.int .u32 (Go.bits .xor .u32 (Int.fdiv x5 (2 ^ 1)) 3988292384)))) rfl ?_
            refine AWops.nil ?_
            refine AW.region ?_
            refine s_binI (v := (.int .i64 (IntKind.i64.wrap (x6 + 1)))) rfl rfl rfl ?_
            refine s_move (d := (sc (.int .i64 (IntKind.i64.wrap (x6 + 1))))) rfl ?_
            refine AWops.nil ?_
            exact ⟨_, ⟨31, (upd 31 (upd 31 (upd 31 (upd 31 (upd 31 topF 3 (sc (.int .u32 (Go.bits .xor .u32 (Int.fdiv x5 (2 ^ 1)) 3988292384)))) 6 (D.one (C.p false (.sl a0.length (a0.flatMap e_u8))))) 7 (sc (.int .i64 (a0.length : Int)))) 8 (sc (.int .i64 x2))) 16 (sc (.int .i64 (IntKind.i64.wrap (x6 + 1))))), []⟩, by omega, (Weak.gen (kk := 0) [] [] hx rfl (by decide) (by decide) rfl rfl rfl (le_upd (le_upd (le_upd (le_upd (le_upd (le_top _) (.t (.one .sc))) (.t (.one .same))) (.t (.one .sc))) (.t (.one .sc))) (.t (.one .sc))) All2.nil), by omega, Go.bits .xor .u32 (Int.fdiv x5 (2 ^ 1)) 3988292384, IntKind.i64.wrap (x6 + 1), h, rfl⟩
          · replace h := (if_neg c8).symm.trans h
            replace c8 := Bool.eq_false_iff.mpr c8
            refine AW.cond_no rfl c8 ?_
            refine AW.region ?_
            refine s_move (d := (sc (.int .u32 x5))) rfl ?_
            refine s_shift (v := (.int .u32 (Int.fdiv x5 (2 ^ 1)))) rfl rfl rfl ?_
            refine s_assign (d := (sc (.int .u32 (Int.fdiv x5 (2 ^ 1))))) rfl ?_
            refine AWops.nil ?_
            refine AW.region ?_
            refine s_binI (v := (.int .i64 (IntKind.i64.wrap (x6 + 1)))) rfl rfl rfl ?_
            refine s_move (d := (sc (.int .i64 (IntKind.i64.wrap (x6 + 1))))) rfl ?_
            refine AWops.nil ?_
            exact ⟨_, ⟨31, (upd 31 (upd 31 (upd 31 (upd 31 (upd 31 topF 3 (sc (.int .u32 (Int.fdiv x5 (2 ^ 1))))) 6 (D.one (C.p false (.sl a0.length (a0.flatMap e_u8))))) 7 (sc (.int .i64 (a0.length : Int)))) 8 (sc (.int .i64 x2))) 16 (sc (.int .i64 (IntKind.i64.wrap (x6 + 1))))), []⟩, by omega, (Weak.gen (kk := 0) [] [] hx rfl (by decide) (by decide) rfl rfl rfl (le_upd (le_upd (le_upd (le_upd (le_upd (le_top _) (.t (.one .sc))) (.t (.one .same))) (.t (.one .sc))) (.t (.one .sc))) (.t (.one .sc))) All2.nil), by omega, Int.fdiv x5 (2 ^ 1), IntKind.i64.wrap (x6 + 1), h, rfl⟩
        · replace h := (if_neg c7).symm.trans h
          replace c7 := Bool.eq_false_iff.mpr c7
          refine AW.cond_no rfl c7 ?_
          refine AW.exit ?_
          refine AW.region ?_
          refine s_binI (v := (.int .i64 (IntKind.i64.wrap (x2 + 1)))) rfl rfl rfl ?_
          refine s_move (d := (sc (.int .i64 (IntKind.i64.wrap (x2 + 1))))) rfl ?_
          refine AWops.nil ?_
          exact ⟨_, ⟨31, (upd 31 (upd 31 (upd 31 (upd 31 topF 3 (sc (.int .u32 x5))) 6 (D.one (C.p false (.sl a0.length (a0.flatMap e_u8))))) 7 (sc (.int .i64 (a0.length : Int)))) 8 (sc (.int .i64 (IntKind.i64.wrap (x2 + 1))))), []⟩, by omega, (Weak.gen (kk := 0) [] [] hx rfl (by decide) (by decide) rfl rfl rfl (le_upd (le_upd (le_upd (le_upd (le_top _) (.t (.one .sc))) (.t (.one .same))) (.t (.one .sc))) (.t (.one .sc))) All2.nil), by omega, x5, IntKind.i64.wrap (x2 + 1), h, rfl⟩
    · replace h := (if_neg c3).symm.trans h
      replace c3 := Bool.eq_false_iff.mpr c3
      refine AW.cond_no rfl c3 ?_
      refine AW.exit ?_
      refine AW.seq ?_
      refine AW.region ?_
      refine s_move (d := (sc (.int .u32 x1))) rfl ?_
      refine s_binI (v := (.int .u32 (Go.bits .xor .u32 x1 4294967295))) rfl rfl rfl ?_
      refine s_convI F.u_62 F.u_3 rfl ?_
      refine s_assign (d := (sc (.int .i64 (IntKind.i64.wrap (Go.bits .xor .u32 x1 4294967295))))) rfl ?_
      refine AWops.nil ?_
      refine AW.ret ?_
      obtain rfl := Option.some.inj h
      exact ⟨_, rfl, (Weak.gen (kk := 0) [] [] rfl rfl (by decide) (by decide) rfl rfl rfl (le_upd (le_top _) (.t (.one .sc))) All2.nil)⟩
def dossierlaw02_awake.f (k : Nat) : Option Bool := (wire_Int.f k ([] : List Int) 64).bind fun r1 => (bytes_Equal.f k r1 ([128, 1] : List Int)).bind fun r2 => some r2
theorem dossierlaw02_awake.meets (k : Nat) (r : Bool) (h : dossierlaw02_awake.f k = some r) : Meets Try.prog 19 [] [] (sc (.bool r)) [] := by
  unfold dossierlaw02_awake.f at h
  refine Meets.of_body (n := 4) Try.func19 rfl rfl (Nat.le_of_ble_eq_true rfl) fun x hx => ?_
  replace hx : x.k = 0 := hx
  show AW _ x _ _ ⟨4, fr0 [], []⟩
  refine AW.seq ?_
  refine AW.region ?_
  refine s_assign (d := (sc (.bool false))) rfl ?_
  refine AWops.nil ?_
  refine AW.seq ?_
  refine AW.region ?_
  obtain ⟨r1, er1, h⟩ := Option.bind_eq_some_iff.mp h
  refine s_call (ρ := []) (br := false) (H2 := [(some (AObj.cells true (rowC e_u8 r1)))]) (d := (D.one (C.own 0 0 r1.length 1))) F.ca_11 rfl rfl (All2.cons (.one .nil) (All2.cons (.one .sc) All2.nil)) All2.nil (by decide) rfl (wire_Int.meets _ ([] : List Int) 64 r1 er1) (.inl rfl) (by first | rfl | (simp only [mergeH, mergeAt, mergeObj, renO, ren_row, List.drop_succ_cons, List.drop_zero, List.map_cons, List.map_nil, Option.map_some, Option.map_none, List.length_cons, List.length_nil, Nat.zero_add, List.append_assoc, List.cons_append, List.nil_append]; done) | (simp only [mergeH, mergeAt, mergeObj, renO, ren_row, List.drop_succ_cons, List.drop_zero, List.map_cons, List.map_nil, Option.map_some, Option.map_none, List.length_cons, List.length_nil, Nat.zero_add, List.append_assoc, List.cons_append, List.nil_append]; rfl)) rfl ?_
  refine s_buildSlice (n := 2) (ps := [(0, (sc (.int .u8 128))), (1, (sc (.int .u8 1)))]) (cs := rowC e_u8 ([128, 1] : List Int)) F.u_22 F.sz_5 F.z_5 rfl rfl (by decide) (by decide) rfl rfl ?_
  obtain ⟨r2, er2, h⟩ := Option.bind_eq_some_iff.mp h
  refine s_call (ρ := []) (br := true) (H2 := [(some (AObj.cells true (rowC e_u8 r1))), (some (AObj.cells true (rowC e_u8 ([128, 1] : List Int))))]) (d := (sc (.bool r2))) F.ca_10 rfl rfl (All2.cons (.one (LendC.bor e_u8_len rfl rfl rfl)) (All2.cons (.one (LendC.bor e_u8_len rfl rfl rfl)) All2.nil)) All2.nil (by decide) rfl (bytes_Equal.meets _ r1 ([128, 1] : List Int) r2 er2) (.inr ⟨rfl, rfl⟩) rfl rfl ?_
  refine s_assign (d := (sc (.bool r2))) rfl ?_
  refine AWops.nil ?_
  refine AW.ret ?_
  obtain rfl := Option.some.inj h
  exact ⟨_, rfl, (Weak.gen (kk := 0) [] [] rfl rfl (by decide) (by decide) rfl rfl rfl (le_upd (le_top _) (.t (.one .sc))) All2.nil)⟩
def dossierlaw02_WirePuts.f (k : Nat) (a0 : List Int) (a1 : ByteArray) (a2 : Int) (a3 : Bool) : Option Bool := (bytes_Clone.f k a0).bind fun r1 => (wire_Int.f k r1 a2).bind fun r2 => (dossierref02_Int.f k a0 a2).bind fun r3 => (bytes_Equal.f k r2 r3).bind fun r4 => if r4 = true then ((wire_Text.f k r1 a1).bind fun r6 => (dossierref02_Text.f k a0 a1).bind fun r7 => (bytes_Equal.f k r6 r7).bind fun r8 => if r8 = true then ((wire_Flag.f k r1 a3).bind fun r10 => (dossierref02_Flag.f k a0 a3).bind fun r11 => (bytes_Equal.f k r10 r11).bind fun r12 => if r12 = true then ((wire_Crc.f k r1).bind fun r14 => (dossierref02_Crc.f k a0).bind fun r15 => if (r14 == r15) = true then ((bytes_Equal.f k r1 a0).bind fun r17 => if r17 = true then ((dossierlaw02_awake.f k).bind fun r19 => some r19) else (some false)) else (some false)) else (some false)) else (some false)) else (some false)
theorem dossierlaw02_WirePuts.meets (k : Nat) (a0 : List Int) (a1 : ByteArray) (a2 : Int) (a3 : Bool) (r : Bool) (h : dossierlaw02_WirePuts.f k a0 a1 a2 a3 = some r) : Meets Try.prog 3 [(D.one (C.p false (.sl a0.length (a0.flatMap e_u8)))), (sc (.string a1)), (sc (.int .i64 a2)), (sc (.bool a3))] [] (sc (.bool r)) [] := by
  unfold dossierlaw02_WirePuts.f at h
  refine Meets.of_body (n := 52) Try.func3 rfl rfl (Nat.le_of_ble_eq_true rfl) fun x hx => ?_
  replace hx : x.k = 0 := hx
  show AW _ x _ _ ⟨52, fr0 [(D.one (C.p false (.sl a0.length (a0.flatMap e_u8)))), (sc (.string a1)), (sc (.int .i64 a2)), (sc (.bool a3))], []⟩
  refine AW.seq ?_
  refine AW.region ?_
  refine s_assign (d := (sc (.bool false))) rfl ?_
  refine AWops.nil ?_
  refine AW.seq ?_
  refine AW.region ?_
  refine s_move (d := (D.one (C.p false (.sl a0.length (a0.flatMap e_u8))))) rfl ?_
  obtain ⟨r1, er1, h⟩ := Option.bind_eq_some_iff.mp h
  refine s_call (ρ := []) (br := false) (H2 := [(some (AObj.cells true (rowC e_u8 r1)))]) (d := (D.one (C.own 0 0 r1.length 1))) F.ca_9 rfl rfl (All2.cons (.one .imm) All2.nil) All2.nil (by decide) rfl (bytes_Clone.meets _ a0 r1 er1) (.inl rfl) (by first | rfl | (simp only [mergeH, mergeAt, mergeObj, renO, ren_row, List.drop_succ_cons, List.drop_zero, List.map_cons, List.map_nil, Option.map_some, Option.map_none, List.length_cons, List.length_nil, Nat.zero_add, List.append_assoc, List.cons_append, List.nil_append]; done) | (simp only [mergeH, mergeAt, mergeObj, renO, ren_row, List.drop_succ_cons, List.drop_zero, List.map_cons, List.map_nil, Option.map_some, Option.map_none, List.length_cons, List.length_nil, Nat.zero_add, List.append_assoc, List.cons_append, List.nil_append]; rfl)) rfl ?_
  refine s_assign (d := (D.one (C.own 0 0 r1.length 1))) rfl ?_
  refine AWops.nil ?_
  refine AW.seq ?_
  refine AW.region ?_
  refine s_move (d := (D.one (C.own 0 0 r1.length 1))) rfl ?_
  refine s_move (d := (sc (.int .i64 a2))) rfl ?_
  obtain ⟨r2, er2, h⟩ := Option.bind_eq_some_iff.mp h
  refine s_call (ρ := []) (br := true) (H2 := [(some (AObj.cells true (rowC e_u8 r1))), (some (AObj.cells true (rowC e_u8 r2)))]) (d := (D.one (C.own 1 0 r2.length 1))) F.ca_11 rfl rfl (All2.cons (.one (LendC.bor e_u8_len rfl rfl rfl)) (All2.cons (.one .sc) All2.nil)) All2.nil (by decide) rfl (wire_Int.meets _ r1 a2 r2 er2) (.inr ⟨rfl, by simp [frH, frC, fr_row e_u8_fr]⟩) (by first | rfl | (simp only [mergeH, mergeAt, mergeObj, renO, ren_row, List.drop_succ_cons, List.drop_zero, List.map_cons, List.map_nil, Option.map_some, Option.map_none, List.length_cons, List.length_nil, Nat.zero_add, List.append_assoc, List.cons_append, List.nil_append]; done) | (simp only [mergeH, mergeAt, mergeObj, renO, ren_row, List.drop_succ_cons, List.drop_zero, List.map_cons, List.map_nil, Option.map_some, Option.map_none, List.length_cons, List.length_nil, Nat.zero_add, List.append_assoc, List.cons_append, List.nil_append]; rfl)) rfl ?_
  refine s_move (d := (D.one (C.p false (.sl a0.length (a0.flatMap e_u8))))) rfl ?_
  refine s_move (d := (sc (.int .i64 a2))) rfl ?_
  obtain ⟨r3, er3, h⟩ := Option.bind_eq_some_iff.mp h
  refine s_call (ρ := []) (br := false) (H2 := [(some (AObj.cells true (rowC e_u8 r1))), (some (AObj.cells true (rowC e_u8 r2))), (some (AObj.cells true (rowC e_u8 r3)))]) (d := (D.one (C.own 2 0 r3.length 1))) F.ca_12 rfl rfl (All2.cons (.one .imm) (All2.cons (.one .sc) All2.nil)) All2.nil (by decide) rfl (dossierref02_Int.meets _ a0 a2 r3 er3) (.inl rfl) (by first | rfl | (simp only [mergeH, mergeAt, mergeObj, renO, ren_row, List.drop_succ_cons, List.drop_zero, List.map_cons, List.map_nil, Option.map_some, Option.map_none, List.length_cons, List.length_nil, Nat.zero_add, List.append_assoc, List.cons_append, List.nil_append]; done) | (simp only [mergeH, mergeAt, mergeObj, renO, ren_row, List.drop_succ_cons, List.drop_zero, List.map_cons, List.map_nil, Option.map_some, Option.map_none, List.length_cons, List.length_nil, Nat.zero_add, List.append_assoc, List.cons_append, List.nil_append]; rfl)) rfl ?_
  obtain ⟨r4, er4, h⟩ := Option.bind_eq_some_iff.mp h
  refine s_call (ρ := []) (br := true) (H2 := [(some (AObj.cells true (rowC e_u8 r1))), (some (AObj.cells true (rowC e_u8 r2))), (some (AObj.cells true (rowC e_u8 r3)))]) (d := (sc (.bool r4))) F.ca_10 rfl rfl (All2.cons (.one (LendC.bor e_u8_len rfl rfl rfl)) (All2.cons (.one (LendC.bor e_u8_len rfl rfl rfl)) All2.nil)) All2.nil (by decide) rfl (bytes_Equal.meets _ r2 r3 r4 er4) (.inr ⟨rfl, rfl⟩) rfl rfl ?_
  refine s_move (d := (sc (.bool r4))) rfl ?_
  by_cases c5 : r4 = true
  · replace h := (if_pos c5).symm.trans h
    refine AWops.guard_yes rfl (Nat.le_of_ble_eq_true rfl) rfl c5 ?_
    refine s_move (d := (D.one (C.own 0 0 r1.length 1))) rfl ?_
    refine AWops.guard_yes rfl (Nat.le_of_ble_eq_true rfl) rfl c5 ?_
    refine s_move (d := (sc (.string a1))) rfl ?_
    refine AWops.guard_yes rfl (Nat.le_of_ble_eq_true rfl) rfl c5 ?_
    obtain ⟨r6, er6, h⟩ := Option.bind_eq_some_iff.mp h
    refine s_call (ρ := []) (br := true) (H2 := [(some (AObj.cells true (rowC e_u8 r1))), (some (AObj.cells true (rowC e_u8 r2))), (some (AObj.cells true (rowC e_u8 r3))), (some (AObj.cells true (rowC e_u8 r6)))]) (d := (D.one (C.own 3 0 r6.length 1))) F.ca_13 rfl rfl (All2.cons (.one (LendC.bor e_u8_len rfl rfl rfl)) (All2.cons (.one .sc) All2.nil)) All2.nil (by decide) rfl (wire_Text.meets _ r1 a1 r6 er6) (.inr ⟨rfl, by simp [frH, frC, fr_row e_u8_fr]⟩) (by first | rfl | (simp only [mergeH, mergeAt, mergeObj, renO, ren_row, List.drop_succ_cons, List.drop_zero, List.map_cons, List.map_nil, Option.map_some, Option.map_none, List.length_cons, List.length_nil, Nat.zero_add, List.append_assoc, List.cons_append, List.nil_append]; done) | (simp only [mergeH, mergeAt, mergeObj, renO, ren_row, List.drop_succ_cons, List.drop_zero, List.map_cons, List.map_nil, Option.map_some, Option.map_none, List.length_cons, List.length_nil, Nat.zero_add, List.append_assoc, List.cons_append, List.nil_append]; rfl)) rfl ?_
    refine AWops.guard_yes rfl (Nat.le_of_ble_eq_true rfl) rfl c5 ?_
    refine s_move (d := (D.one (C.p false (.sl a0.length (a0.flatMap e_u8))))) rfl ?_
    refine AWops.guard_yes rfl (Nat.le_of_ble_eq_true rfl) rfl c5 ?_
    refine s_move (d := (sc (.string a1))) rfl ?_
    refine AWops.guard_yes rfl (Nat.le_of_ble_eq_true rfl) rfl c5 ?_
    obtain ⟨r7, er7, h⟩ := Option.bind_eq_some_iff.mp h
    refine s_call (ρ := []) (br := false) (H2 := [(some (AObj.cells true (rowC e_u8 r1))), (some (AObj.cells true (rowC e_u8 r2))), (some (AObj.cells true (rowC e_u8 r3))), (some (AObj.cells true (rowC e_u8 r6))), (some (AObj.cells true (rowC e_u8 r7)))]) (d := (D.one (C.own 4 0 r7.length 1))) F.ca_14 rfl rfl (All2.cons (.one .imm) (All2.cons (.one .sc) All2.nil)) All2.nil (by decide) rfl (dossierref02_Text.meets _ a0 a1 r7 er7) (.inl rfl) (by first | rfl | (simp only [mergeH, mergeAt, mergeObj, renO, ren_row, List.drop_succ_cons, List.drop_zero, List.map_cons, List.map_nil, Option.map_some, Option.map_none, List.length_cons, List.length_nil, Nat.zero_add, List.append_assoc, List.cons_append, List.nil_append]; done) | (simp only [mergeH, mergeAt, mergeObj, renO, ren_row, List.drop_succ_cons, List.drop_zero, List.map_cons, List.map_nil, Option.map_some, Option.map_none, List.length_cons, List.length_nil, Nat.zero_add, List.append_assoc, List.cons_append, List.nil_append]; rfl)) rfl ?_
    refine AWops.guard_yes rfl (Nat.le_of_ble_eq_true rfl) rfl c5 ?_
    obtain ⟨r8, er8, h⟩ := Option.bind_eq_some_iff.mp h
    refine s_call (ρ := []) (br := true) (H2 := [(some (AObj.cells true (rowC e_u8 r1))), (some (AObj.cells true (rowC e_u8 r2))), (some (AObj.cells true (rowC e_u8 r3))), (some (AObj.cells true (rowC e_u8 r6))), (some (AObj.cells true (rowC e_u8 r7)))]) (d := (sc (.bool r8))) F.ca_10 rfl rfl (All2.cons (.one (LendC.bor e_u8_len rfl rfl rfl)) (All2.cons (.one (LendC.bor e_u8_len rfl rfl rfl)) All2.nil)) All2.nil (by decide) rfl (bytes_Equal.meets _ r6 r7 r8 er8) (.inr ⟨rfl, rfl⟩) rfl rfl ?_
    refine s_pick_yes (d := (sc (.bool r8))) rfl c5 rfl ?_
    refine s_move (d := (sc (.bool r8))) rfl ?_
    by_cases c9 : r8 = true
    · replace h := (if_pos c9).symm.trans h
      refine AWops.guard_yes rfl (Nat.le_of_ble_eq_true rfl) rfl c9 ?_
      refine s_move (d := (D.one (C.own 0 0 r1.length 1))) rfl ?_
      refine AWops.guard_yes rfl (Nat.le_of_ble_eq_true rfl) rfl c9 ?_
      refine s_move (d := (sc (.bool a3))) rfl ?_
      refine AWops.guard_yes rfl (Nat.le_of_ble_eq_true rfl) rfl c9 ?_
      obtain ⟨r10, er10, h⟩ := Option.bind_eq_some_iff.mp h
      refine s_call (ρ := []) (br := true) (H2 := [(some (AObj.cells true (rowC e_u8 r1))), (some (AObj.cells true (rowC e_u8 r2))), (some (AObj.cells true (rowC e_u8 r3))), (some (AObj.cells true (rowC e_u8 r6))), (some (AObj.cells true (rowC e_u8 r7))), (some (AObj.cells true (rowC e_u8 r10)))]) (d := (D.one (C.own 5 0 r10.length 1))) F.ca_15 rfl rfl (All2.cons (.one (LendC.bor e_u8_len rfl rfl rfl)) (All2.cons (.one .sc) All2.nil)) All2.nil (by decide) rfl (wire_Flag.meets _ r1 a3 r10 er10) (.inr ⟨rfl, by simp [frH, frC, fr_row e_u8_fr]⟩) (by first | rfl | (simp only [mergeH, mergeAt, mergeObj, renO, ren_row, List.drop_succ_cons, List.drop_zero, List.map_cons, List.map_nil, Option.map_some, Option.map_none, List.length_cons, List.length_nil, Nat.zero_add, List.append_assoc, List.cons_append, List.nil_append]; done) | (simp only [mergeH, mergeAt, mergeObj, renO, ren_row, List.drop_succ_cons, List.drop_zero, List.map_cons, List.map_nil, Option.map_some, Option.map_none, List.length_cons, List.length_nil, Nat.zero_add, List.append_assoc, List.cons_append, List.nil_append]; rfl)) rfl ?_
      refine AWops.guard_yes rfl (Nat.le_of_ble_eq_true rfl) rfl c9 ?_
      refine s_move (d := (D.one (C.p false (.sl a0.length (a0.flatMap e_u8))))) rfl ?_
      refine AWops.guard_yes rfl (Nat.le_of_ble_eq_true rfl) rfl c9 ?_
      refine s_move (d := (sc (.bool a3))) rfl ?_
      refine AWops.guard_yes rfl (Nat.le_of_ble_eq_true rfl) rfl c9 ?_
      obtain ⟨r11, er11, h⟩ := Option.bind_eq_some_iff.mp h
      refine s_call (ρ := []) (br := false) (H2 := [(some (AObj.cells true (rowC e_u8 r1))), (some (AObj.cells true (rowC e_u8 r2))), (some (AObj.cells true (rowC e_u8 r3))), (some (AObj.cells true (rowC e_u8 r6))), (some (AObj.cells true (rowC e_u8 r7))), (some (AObj.cells true (rowC e_u8 r10))), (some (AObj.cells true (rowC e_u8 r11)))]) (d := (D.one (C.own 6 0 r11.length 1))) F.ca_16 rfl rfl (All2.cons (.one .imm) (All2.cons (.one .sc) All2.nil)) All2.nil (by decide) rfl (dossierref02_Flag.meets _ a0 a3 r11 er11) (.inl rfl) (by first | rfl | (simp only [mergeH, mergeAt, mergeObj, renO, ren_row, List.drop_succ_cons, List.drop_zero, List.map_cons, List.map_nil, Option.map_some, Option.map_none, List.length_cons, List.length_nil, Nat.zero_add, List.append_assoc, List.cons_append, List.nil_append]; done) | (simp only [mergeH, mergeAt, mergeObj, renO, ren_row, List.drop_succ_cons, List.drop_zero, List.map_cons, List.map_nil, Option.map_some, Option.map_none, List.length_cons, List.length_nil, Nat.zero_add, List.append_assoc, List.cons_append, List.nil_append]; rfl)) rfl ?_
      refine AWops.guard_yes rfl (Nat.le_of_ble_eq_true rfl) rfl c9 ?_
      obtain ⟨r12, er12, h⟩ := Option.bind_eq_some_iff.mp h
      refine s_call (ρ := []) (br := true) (H2 := [(some (AObj.cells true (rowC e_u8 r1))), (some (AObj.cells true (rowC e_u8 r2))), (some (AObj.cells true (rowC e_u8 r3))), (some (AObj.cells true (rowC e_u8 r6))), (some (AObj.cells true (rowC e_u8 r7))), (some (AObj.cells true (rowC e_u8 r10))), (some (AObj.cells true (rowC e_u8 r11)))]) (d := (sc (.bool r12))) F.ca_10 rfl rfl (All2.cons (.one (LendC.bor e_u8_len rfl rfl rfl)) (All2.cons (.one (LendC.bor e_u8_len rfl rfl rfl)) All2.nil)) All2.nil (by decide) rfl (bytes_Equal.meets _ r10 r11 r12 er12) (.inr ⟨rfl, rfl⟩) rfl rfl ?_
      refine s_pick_yes (d := (sc (.bool r12))) rfl c9 rfl ?_
      refine s_move (d := (sc (.bool r12))) rfl ?_
      by_cases c13 : r12 = true
      · replace h := (if_pos c13).symm.trans h
        refine AWops.guard_yes rfl (Nat.le_of_ble_eq_true rfl) rfl c13 ?_
        refine s_move (d := (D.one (C.own 0 0 r1.length 1))) rfl ?_
        refine AWops.guard_yes rfl (Nat.le_of_ble_eq_true rfl) rfl c13 ?_
        obtain ⟨r14, er14, h⟩ := Option.bind_eq_some_iff.mp h
        refine s_call (ρ := []) (br := true) (H2 := [(some (AObj.cells true (rowC e_u8 r1))), (some (AObj.cells true (rowC e_u8 r2))), (some (AObj.cells true (rowC e_u8 r3))), (some (AObj.cells true (rowC e_u8 r6))), (some (AObj.cells true (rowC e_u8 r7))), (some (AObj.cells true (rowC e_u8 r10))), (some (AObj.cells true (rowC e_u8 r11)))]) (d := (sc (.int .i64 r14))) F.ca_17 rfl rfl (All2.cons (.one (LendC.bor e_u8_len rfl rfl rfl)) All2.nil) All2.nil (by decide) rfl (wire_Crc.meets _ r1 r14 er14) (.inr ⟨rfl, rfl⟩) rfl rfl ?_
        refine AWops.guard_yes rfl (Nat.le_of_ble_eq_true rfl) rfl c13 ?_
        refine s_move (d := (D.one (C.p false (.sl a0.length (a0.flatMap e_u8))))) rfl ?_
        refine AWops.guard_yes rfl (Nat.le_of_ble_eq_true rfl) rfl c13 ?_
        obtain ⟨r15, er15, h⟩ := Option.bind_eq_some_iff.mp h
        refine s_call (ρ := []) (br := false) (H2 := [(some (AObj.cells true (rowC e_u8 r1))), (some (AObj.cells true (rowC e_u8 r2))), (some (AObj.cells true (rowC e_u8 r3))), (some (AObj.cells true (rowC e_u8 r6))), (some (AObj.cells true (rowC e_u8 r7))), (some (AObj.cells true (rowC e_u8 r10))), (some (AObj.cells true (rowC e_u8 r11)))]) (d := (sc (.int .i64 r15))) F.ca_18 rfl rfl (All2.cons (.one .imm) All2.nil) All2.nil (by decide) rfl (dossierref02_Crc.meets _ a0 r15 er15) (.inl rfl) rfl rfl ?_
        refine AWops.guard_yes rfl (Nat.le_of_ble_eq_true rfl) rfl c13 ?_
        refine s_binI (v := (.bool (r14 == r15))) rfl rfl rfl ?_
        refine s_pick_yes (d := (sc (.bool (r14 == r15)))) rfl c13 rfl ?_
        refine s_move (d := (sc (.bool (r14 == r15)))) rfl ?_
        by_cases c16 : (r14 == r15) = true
        · replace h := (if_pos c16).symm.trans h
          refine AWops.guard_yes rfl (Nat.le_of_ble_eq_true rfl) rfl c16 ?_
          refine s_move (d := (D.one (C.own 0 0 r1.length 1))) rfl ?_
          refine AWops.guard_yes rfl (Nat.le_of_ble_eq_true rfl) rfl c16 ?_
          refine s_move (d := (D.one (C.p false (.sl a0.length (a0.flatMap e_u8))))) rfl ?_
          refine AWops.guard_yes rfl (Nat.le_of_ble_eq_true rfl) rfl c16 ?_
          obtain ⟨r17, er17, h⟩ := Option.bind_eq_some_iff.mp h
          refine s_call (ρ := []) (br := true) (H2 := [(some (AObj.cells true (rowC e_u8 r1))), (some (AObj.cells true (rowC e_u8 r2))), (some (AObj.cells true (rowC e_u8 r3))), (some (AObj.cells true (rowC e_u8 r6))), (some (AObj.cells true (rowC e_u8 r7))), (some (AObj.cells true (rowC e_u8 r10))), (some (AObj.cells true (rowC e_u8 r11)))]) (d := (sc (.bool r17))) F.ca_10 rfl rfl (All2.cons (.one (LendC.bor e_u8_len rfl rfl rfl)) (All2.cons (.one .imm) All2.nil)) All2.nil (by decide) rfl (bytes_Equal.meets _ r1 a0 r17 er17) (.inr ⟨rfl, rfl⟩) rfl rfl ?_
          refine s_pick_yes (d := (sc (.bool r17))) rfl c16 rfl ?_
          refine s_move (d := (sc (.bool r17))) rfl ?_
          by_cases c18 : r17 = true
          · replace h := (if_pos c18).symm.trans h
            refine AWops.guard_yes rfl (Nat.le_of_ble_eq_true rfl) rfl c18 ?_
            obtain ⟨r19, er19, h⟩ := Option.bind_eq_some_iff.mp h
            refine s_call (ρ := []) (br := false) (H2 := [(some (AObj.cells true (rowC e_u8 r1))), (some (AObj.cells true (rowC e_u8 r2))), (some (AObj.cells true (rowC e_u8 r3))), (some (AObj.cells true (rowC e_u8 r6))), (some (AObj.cells true (rowC e_u8 r7))), (some (AObj.cells true (rowC e_u8 r10))), (some (AObj.cells true (rowC e_u8 r11)))]) (d := (sc (.bool r19))) F.ca_19 rfl rfl All2.nil All2.nil (by decide) rfl (dossierlaw02_awake.meets _  r19 er19) (.inl rfl) rfl rfl ?_
            refine s_pick_yes (d := (sc (.bool r19))) rfl c18 rfl ?_
            refine s_assign (d := (sc (.bool r19))) rfl ?_
            refine AWops.nil ?_
            refine AW.ret ?_
            obtain rfl := Option.some.inj h
            exact ⟨_, rfl, (Weak.gen (kk := 0) [] [] rfl rfl (by decide) (by decide) rfl rfl rfl (le_upd (le_top _) (.t (.one .sc))) All2.nil)⟩
          · replace h := (if_neg c18).symm.trans h
            replace c18 := Bool.eq_false_iff.mpr c18
            refine AWops.guard_no rfl (Nat.le_of_ble_eq_true rfl) rfl c18 ?_
            refine s_pick_no (d := (sc (.bool false))) rfl c18 rfl ?_
            refine s_assign (d := (sc (.bool false))) rfl ?_
            refine AWops.nil ?_
            refine AW.ret ?_
            obtain rfl := Option.some.inj h
            exact ⟨_, rfl, (Weak.gen (kk := 0) [] [] rfl rfl (by decide) (by decide) rfl rfl rfl (le_upd (le_top _) (.t (.one .sc))) All2.nil)⟩
        · replace h := (if_neg c16).symm.trans h
          replace c16 := Bool.eq_false_iff.mpr c16
          refine AWops.guard_no rfl (Nat.le_of_ble_eq_true rfl) rfl c16 ?_
          refine AWops.guard_no rfl (Nat.le_of_ble_eq_true rfl) rfl c16 ?_
          refine AWops.guard_no rfl (Nat.le_of_ble_eq_true rfl) rfl c16 ?_
          refine s_pick_no (d := (sc (.bool false))) rfl c16 rfl ?_
          refine s_move (d := (sc (.bool false))) rfl ?_
          refine AWops.guard_no rfl (Nat.le_of_ble_eq_true rfl) rfl rfl ?_
          refine s_pick_no (d := (sc (.bool false))) rfl rfl rfl ?_
          refine s_assign (d := (sc (.bool false))) rfl ?_
          refine AWops.nil ?_
          refine AW.ret ?_
          obtain rfl := Option.some.inj h
          exact ⟨_, rfl, (Weak.gen (kk := 0) [] [] rfl rfl (by decide) (by decide) rfl rfl rfl (le_upd (le_top _) (.t (.one .sc))) All2.nil)⟩
      · replace h := (if_neg c13).symm.trans h
        replace c13 := Bool.eq_false_iff.mpr c13
        refine AWops.guard_no rfl (Nat.le_of_ble_eq_true rfl) rfl c13 ?_
        refine AWops.guard_no rfl (Nat.le_of_ble_eq_true rfl) rfl c13 ?_
        refine AWops.guard_no rfl (Nat.le_of_ble_eq_true rfl) rfl c13 ?_
        refine AWops.guard_no rfl (Nat.le_of_ble_eq_true rfl) rfl c13 ?_
        refine AWops.guard_no rfl (Nat.le_of_ble_eq_true rfl) rfl c13 ?_
        refine s_pick_no (d := (sc (.bool false))) rfl c13 rfl ?_
        refine s_move (d := (sc (.bool false))) rfl ?_
        refine AWops.guard_no rfl (Nat.le_of_ble_eq_true rfl) rfl rfl ?_
        refine AWops.guard_no rfl (Nat.le_of_ble_eq_true rfl) rfl rfl ?_
        refine AWops.guard_no rfl (Nat.le_of_ble_eq_true rfl) rfl rfl ?_
        refine s_pick_no (d := (sc (.bool false))) rfl rfl rfl ?_
        refine s_move (d := (sc (.bool false))) rfl ?_
        refine AWops.guard_no rfl (Nat.le_of_ble_eq_true rfl) rfl rfl ?_
        refine s_pick_no (d := (sc (.bool false))) rfl rfl rfl ?_
        refine s_assign (d := (sc (.bool false))) rfl ?_
        refine AWops.nil ?_
        refine AW.ret ?_
        obtain rfl := Option.some.inj h
        exact ⟨_, rfl, (Weak.gen (kk := 0) [] [] rfl rfl (by decide) (by decide) rfl rfl rfl (le_upd (le_top _) (.t (.one .sc))) All2.nil)⟩
    · replace h := (if_neg c9).symm.trans h
      replace c9 := Bool.eq_false_iff.mpr c9
      refine AWops.guard_no rfl (Nat.le_of_ble_eq_true rfl) rfl c9 ?_
      refine AWops.guard_no rfl (Nat.le_of_ble_eq_true rfl) rfl c9 ?_
      refine AWops.guard_no rfl (Nat.le_of_ble_eq_true rfl) rfl c9 ?_
      refine AWops.guard_no rfl (Nat.le_of_ble_eq_true rfl) rfl c9 ?_
      refine AWops.guard_no rfl (Nat.le_of_ble_eq_true rfl) rfl c9 ?_
      refine AWops.guard_no rfl (Nat.le_of_ble_eq_true rfl) rfl c9 ?_
      refine AWops.guard_no rfl (Nat.le_of_ble_eq_true rfl) rfl c9 ?_
      refine s_pick_no (d := (sc (.bool false))) rfl c9 rfl ?_
      refine s_move (d := (sc (.bool false))) rfl ?_
      refine AWops.guard_no rfl (Nat.le_of_ble_eq_true rfl) rfl rfl ?_
      refine AWops.guard_no rfl (Nat.le_of_ble_eq_true rfl) rfl rfl ?_
      refine AWops.guard_no rfl (Nat.le_of_ble_eq_true rfl) rfl rfl ?_
      refine AWops.guard_no rfl (Nat.le_of_ble_eq_true rfl) rfl rfl ?_
      refine AWops.guard_no rfl (Nat.le_of_ble_eq_true rfl) rfl rfl ?_
      refine s_pick_no (d := (sc (.bool false))) rfl rfl rfl ?_
      refine s_move (d := (sc (.bool false))) rfl ?_
      refine AWops.guard_no rfl (Nat.le_of_ble_eq_true rfl) rfl rfl ?_
      refine AWops.guard_no rfl (Nat.le_of_ble_eq_true rfl) rfl rfl ?_
      refine AWops.guard_no rfl (Nat.le_of_ble_eq_true rfl) rfl rfl ?_
      refine s_pick_no (d := (sc (.bool false))) rfl rfl rfl ?_
      refine s_move (d := (sc (.bool false))) rfl ?_
      refine AWops.guard_no rfl (Nat.le_of_ble_eq_true rfl) rfl rfl ?_
      refine s_pick_no (d := (sc (.bool false))) rfl rfl rfl ?_
      refine s_assign (d := (sc (.bool false))) rfl ?_
      refine AWops.nil ?_
      refine AW.ret ?_
      obtain rfl := Option.some.inj h
      exact ⟨_, rfl, (Weak.gen (kk := 0) [] [] rfl rfl (by decide) (by decide) rfl rfl rfl (le_upd (le_top _) (.t (.one .sc))) All2.nil)⟩
  · replace h := (if_neg c5).symm.trans h
    replace c5 := Bool.eq_false_iff.mpr c5
    refine AWops.guard_no rfl (Nat.le_of_ble_eq_true rfl) rfl c5 ?_
    refine AWops.guard_no rfl (Nat.le_of_ble_eq_true rfl) rfl c5 ?_
    refine AWops.guard_no rfl (Nat.le_of_ble_eq_true rfl) rfl c5 ?_
    refine AWops.guard_no rfl (Nat.le_of_ble_eq_true rfl) rfl c5 ?_
    refine AWops.guard_no rfl (Nat.le_of_ble_eq_true rfl) rfl c5 ?_
    refine AWops.guard_no rfl (Nat.le_of_ble_eq_true rfl) rfl c5 ?_
    refine AWops.guard_no rfl (Nat.le_of_ble_eq_true rfl) rfl c5 ?_
    refine s_pick_no (d := (sc (.bool false))) rfl c5 rfl ?_
    refine s_move (d := (sc (.bool false))) rfl ?_
    refine AWops.guard_no rfl (Nat.le_of_ble_eq_true rfl) rfl rfl ?_
    refine AWops.guard_no rfl (Nat.le_of_ble_eq_true rfl) rfl rfl ?_
    refine AWops.guard_no rfl (Nat.le_of_ble_eq_true rfl) rfl rfl ?_
    refine AWops.guard_no rfl (Nat.le_of_ble_eq_true rfl) rfl rfl ?_
    refine AWops.guard_no rfl (Nat.le_of_ble_eq_true rfl) rfl rfl ?_
    refine AWops.guard_no rfl (Nat.le_of_ble_eq_true rfl) rfl rfl ?_
    refine AWops.guard_no rfl (Nat.le_of_ble_eq_true rfl) rfl rfl ?_
    refine s_pick_no (d := (sc (.bool false))) rfl rfl rfl ?_
    refine s_move (d := (sc (.bool false))) rfl ?_
    refine AWops.guard_no rfl (Nat.le_of_ble_eq_true rfl) rfl rfl ?_
    refine AWops.guard_no rfl (Nat.le_of_ble_eq_true rfl) rfl rfl ?_
    refine AWops.guard_no rfl (Nat.le_of_ble_eq_true rfl) rfl rfl ?_
    refine AWops.guard_no rfl (Nat.le_of_ble_eq_true rfl) rfl rfl ?_
    refine AWops.guard_no rfl (Nat.le_of_ble_eq_true rfl) rfl rfl ?_
    refine s_pick_no (d := (sc (.bool false))) rfl rfl rfl ?_
    refine s_move (d := (sc (.bool false))) rfl ?_
    refine AWops.guard_no rfl (Nat.le_of_ble_eq_true rfl) rfl rfl ?_
    refine AWops.guard_no rfl (Nat.le_of_ble_eq_true rfl) rfl rfl ?_
    refine AWops.guard_no rfl (Nat.le_of_ble_eq_true rfl) rfl rfl ?_
    refine s_pick_no (d := (sc (.bool false))) rfl rfl rfl ?_
    refine s_move (d := (sc (.bool false))) rfl ?_
    refine AWops.guard_no rfl (Nat.le_of_ble_eq_true rfl) rfl rfl ?_
    refine s_pick_no (d := (sc (.bool false))) rfl rfl rfl ?_
    refine s_assign (d := (sc (.bool false))) rfl ?_
    refine AWops.nil ?_
    refine AW.ret ?_
    obtain rfl := Option.some.inj h
    exact ⟨_, rfl, (Weak.gen (kk := 0) [] [] rfl rfl (by decide) (by decide) rfl rfl rfl (le_upd (le_top _) (.t (.one .sc))) All2.nil)⟩
end Go.Abs.GenA
