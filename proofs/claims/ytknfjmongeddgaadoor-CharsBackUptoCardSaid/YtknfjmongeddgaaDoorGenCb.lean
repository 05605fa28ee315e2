import Derived.Test.YtknfjmongeddgaaDoorGenCa
set_option linter.unusedVariables false
set_option linter.unusedSimpArgs false
set_option maxRecDepth 100000
set_option maxHeartbeats 4000000
namespace Go.Abs.GenC
open Go.Abs Go.Proofs
mutual
def chars_Number.j2 : Nat → Int → Int → ByteArray → Int → Option (Int × Int)
  | 0, _, _, _, _ => none
  | k + 1, x15, v2, x3, x8 => if (decide ((x3.size : Int) > 19)) = true then (some (0, 4)) else (if (decide (x8 > x15)) = true then (some (0, 4)) else (if (v2 == 45) = true then (some (IntKind.i64.wrap (0 - (IntKind.i64.wrap x8)), 0)) else (some (IntKind.i64.wrap x8, 0))))
def chars_Number.l1 : Nat → Int → Int → Int → ByteArray → Option (Int × Int)
  | 0, _, _, _, _ => none
  | k + 1, x8, x9, v2, x3 => if (decide (x9 < ((bytesI x3).length : Int))) = true then ((rd (bytesI x3) x9).bind fun v11 => if (decide (v11 < 48)) = true then (some (0, 5)) else (if (decide (v11 > 57)) = true then (some (0, 5)) else (if (decide ((x3.size : Int) > 19)) = true then (chars_Number.l1 k x8 (IntKind.i64.wrap (x9 + 1)) v2 x3) else (chars_Number.l1 k (IntKind.u64.wrap ((IntKind.u64.wrap (10 * x8)) + (IntKind.u64.wrap (IntKind.u8.wrap (v11 - 48))))) (IntKind.i64.wrap (x9 + 1)) v2 x3)))) else (if (v2 == 45) = true then (chars_Number.j2 k 9223372036854775808 v2 x3 x8) else (chars_Number.j2 k 9223372036854775807 v2 x3 x8))
def chars_Number.j4 : Nat → Int → Int → ByteArray → Int → Option (Int × Int)
  | 0, _, _, _, _ => none
  | k + 1, x26, v2, x3, x19 => if (decide ((x3.size : Int) > 19)) = true then (some (0, 4)) else (if (decide (x19 > x26)) = true then (some (0, 4)) else (if (v2 == 45) = true then (some (IntKind.i64.wrap (0 - (IntKind.i64.wrap x19)), 0)) else (some (IntKind.i64.wrap x19, 0))))
def chars_Number.l3 : Nat → Int → Int → Int → ByteArray → Option (Int × Int)
  | 0, _, _, _, _ => none
  | k + 1, x19, x20, v2, x3 => if (decide (x20 < ((bytesI x3).length : Int))) = true then ((rd (bytesI x3) x20).bind fun v22 => if (decide (v22 < 48)) = true then (some (0, 5)) else (if (decide (v22 > 57)) = true then (some (0, 5)) else (if (decide ((x3.size : Int) > 19)) = true then (chars_Number.l3 k x19 (IntKind.i64.wrap (x20 + 1)) v2 x3) else (chars_Number.l3 k (IntKind.u64.wrap ((IntKind.u64.wrap (10 * x19)) + (IntKind.u64.wrap (IntKind.u8.wrap (v22 - 48))))) (IntKind.i64.wrap (x20 + 1)) v2 x3)))) else (if (v2 == 45) = true then (chars_Number.j4 k 9223372036854775808 v2 x3 x19) else (chars_Number.j4 k 9223372036854775807 v2 x3 x19))
def chars_Number.j0 : Nat → ByteArray → ByteArray → Int → Option (Int × Int)
  | 0, _, _, _ => none
  | k + 1, x3, a0, v2 => if (x3.toList == (⟨#[]⟩ : ByteArray).toList) = true then (some (0, 5)) else ((bt x3 0).bind fun v5 => if (v5 == 48) = true then (if (decide ((a0.size : Int) > 1)) = true then (some (0, 5)) else (chars_Number.l1 k 0 0 v2 x3)) else (chars_Number.l3 k 0 0 v2 x3))
def chars_Number.l5 : Nat → Int → Int → ByteArray → Option (Int × Int)
  | 0, _, _, _ => none
  | k + 1, x34, x35, a0 => if (decide (x35 < ((bytesI a0).length : Int))) = true then ((rd (bytesI a0) x35).bind fun v37 => if (decide (v37 < 48)) = true then (some (0, 5)) else (if (decide (v37 > 57)) = true then (some (0, 5)) else (if (decide ((a0.size : Int) > 19)) = true then (chars_Number.l5 k x34 (IntKind.i64.wrap (x35 + 1)) a0) else (chars_Number.l5 k (IntKind.u64.wrap ((IntKind.u64.wrap (10 * x34)) + (IntKind.u64.wrap (IntKind.u8.wrap (v37 - 48))))) (IntKind.i64.wrap (x35 + 1)) a0)))) else (if (decide ((a0.size : Int) > 19)) = true then (some (0, 4)) else (if (decide (x34 > 9223372036854775807)) = true then (some (0, 4)) else (some (IntKind.i64.wrap x34, 0))))
def chars_Number.l6 : Nat → Int → Int → ByteArray → Option (Int × Int)
  | 0, _, _, _ => none
  | k + 1, x43, x44, a0 => if (decide (x44 < ((bytesI a0).length : Int))) = true then ((rd (bytesI a0) x44).bind fun v46 => if (decide (v46 < 48)) = true then (some (0, 5)) else (if (decide (v46 > 57)) = true then (some (0, 5)) else (if (decide ((a0.size : Int) > 19)) = true then (chars_Number.l6 k x43 (IntKind.i64.wrap (x44 + 1)) a0) else (chars_Number.l6 k (IntKind.u64.wrap ((IntKind.u64.wrap (10 * x43)) + (IntKind.u64.wrap (IntKind.u8.wrap (v46 - 48))))) (IntKind.i64.wrap (x44 + 1)) a0)))) else (if (decide ((a0.size : Int) > 19)) = true then (some (0, 4)) else (if (decide (x43 > 9223372036854775807)) = true then (some (0, 4)) else (some (IntKind.i64.wrap x43, 0))))
end
def chars_Number.f (k : Nat) (a0 : ByteArray) : Option (Int × Int) := if (decide ((a0.size : Int) > 0)) = true then ((bt a0 0).bind fun v2 => if (v2 == 45) = true then (if (decide (0 ≤ 1 ∧ 1 ≤ (a0.size : Int) ∧ (a0.size : Int) ≤ (a0.size : Int))) = true then (chars_Number.j0 k (a0.extract 1 a0.size) a0 v2) else none) else (chars_Number.j0 k a0 a0 v2)) else (if (a0.toList == (⟨#[]⟩ : ByteArray).toList) = true then (some (0, 5)) else ((bt a0 0).bind fun v31 => if (v31 == 48) = true then (if (decide ((a0.size : Int) > 1)) = true then (some (0, 5)) else (chars_Number.l5 k 0 0 a0)) else (chars_Number.l6 k 0 0 a0)))
theorem chars_Number.meets (k : Nat) (a0 : ByteArray) (r : Int × Int) (h : chars_Number.f k a0 = some r) : Meets Tryd.prog 16 [(sc (.string a0))] [] (D.tup [(sc (.int .i64 r.1)), (sc (.int .i64 r.2))]) [] := by
  unfold chars_Number.f at h
  refine Meets.of_body (n := 78) Tryd.func16 rfl rfl (Nat.le_of_ble_eq_true rfl) fun x hx => ?_
  replace hx : x.k = 0 := hx
  show AW _ x _ _ ⟨78, fr0 [(sc (.string a0))], []⟩
  refine AW.seq ?_
  refine AW.region ?_
  refine s_assign (d := (sc (.int .i64 0))) rfl ?_
  refine s_assign (d := (sc (.int .i64 0))) rfl ?_
  refine AWops.nil ?_
  refine AW.seq ?_
  refine AW.region ?_
  refine s_move (d := (sc (.string a0))) rfl ?_
  refine s_len (n := a0.size) F.u_9 rfl (.inl ⟨⟨_, _, rfl⟩, rfl⟩) ?_
  refine s_binI (v := (.bool (decide ((a0.size : Int) > 0)))) rfl rfl rfl ?_
  refine s_move (d := (sc (.bool (decide ((a0.size : Int) > 0))))) rfl ?_
  by_cases c1 : (decide ((a0.size : Int) > 0)) = true
  · replace h := (if_pos c1).symm.trans h
    refine AWops.guard_yes rfl (Nat.le_of_ble_eq_true rfl) rfl c1 ?_
    refine s_move (d := (sc (.string a0))) rfl ?_
    refine AWops.guard_yes rfl (Nat.le_of_ble_eq_true rfl) rfl c1 ?_
    obtain ⟨v2, ev2, h⟩ := Option.bind_eq_some_iff.mp h
    obtain ⟨pv2, bv2, gv2, rfl⟩ := bt_some ev2
    refine s_indexStr F.u_9 rfl rfl pv2 gv2 ?_
    generalize hzv2 : ((bv2.toNat : Nat) : Int) = v2 at *
    refine AWops.guard_yes rfl (Nat.le_of_ble_eq_true rfl) rfl c1 ?_
    refine s_binI (v := (.bool (v2 == 45))) rfl rfl rfl ?_
    refine s_pick_yes (d := (sc (.bool (v2 == 45)))) rfl c1 rfl ?_
    refine s_assign (d := (sc (.bool (v2 == 45)))) rfl ?_
    refine AWops.nil ?_
    refine AW.seq ?_
    refine AW.region ?_
    refine s_move (d := (sc (.string a0))) rfl ?_
    refine s_assign (d := (sc (.string a0))) rfl ?_
    refine AWops.nil ?_
    refine AW.seqJ (fun st => ∃ (x3 : ByteArray), chars_Number.j0 k x3 a0 v2 = some r ∧ st = ⟨78, (upd 78 (upd 78 (upd 78 topF 0 (sc (.string a0))) 4 (sc (.bool (v2 == 45)))) 5 (sc (.string x3))), []⟩) ?_ ?_
    · refine AW.seq ?_
      refine AW.region ?_
      refine s_move (d := (sc (.bool (v2 == 45)))) rfl ?_
      refine AWops.nil ?_
      by_cases c3 : (v2 == 45) = true
      · replace h := (if_pos c3).symm.trans h
        refine AW.cond_yes rfl c3 ?_
        refine AW.region ?_
        refine s_move (d := (sc (.string a0))) rfl ?_
        by_cases c4 : (decide (0 ≤ 1 ∧ 1 ≤ (a0.size : Int) ∧ (a0.size : Int) ≤ (a0.size : Int))) = true
        · replace h := (if_pos c4).symm.trans h
          have dc4 := of_decide_eq_true c4
          refine s_sliceStr F.u_9 rfl (.yes rfl (by omega) rfl) .no (by omega) (by omega) ?_
          refine s_assign (d := (sc (.string (a0.extract 1 a0.size)))) rfl ?_
          refine AWops.nil ?_
          exact ⟨⟨78, (upd 78 (upd 78 (upd 78 topF 0 (sc (.string a0))) 4 (sc (.bool (v2 == 45)))) 5 (sc (.string (a0.extract 1 a0.size)))), []⟩, (Weak.gen (kk := 0) [] [] hx rfl (by decide) (by decide) rfl rfl rfl (le_upd (le_upd (le_upd (le_top _) (.t (.one .sc))) (.t (.one .sc))) (.t (.one .sc))) All2.nil), a0.extract 1 a0.size, h, rfl⟩
        · replace h := (if_neg c4).symm.trans h
          cases h
      · replace h := (if_neg c3).symm.trans h
        replace c3 := Bool.eq_false_iff.mpr c3
        refine AW.cond_no rfl c3 ?_
        refine AW.skip ?_
        exact ⟨⟨78, (upd 78 (upd 78 (upd 78 topF 0 (sc (.string a0))) 4 (sc (.bool (v2 == 45)))) 5 (sc (.string a0))), []⟩, (Weak.gen (kk := 0) [] [] hx rfl (by decide) (by decide) rfl rfl rfl (le_upd (le_upd (le_upd (le_top _) (.t (.one .sc))) (.t (.one .sc))) (.t (.one .sc))) All2.nil), a0, h, rfl⟩
    · rintro st ⟨x3, h, rfl⟩
      cases k with
      | zero => exact absurd h (by simp [chars_Number.j0])
      | succ qj0 =>
        replace h := (chars_Number.j0.eq_2 _ _ _ _).symm.trans h
        refine AW.seq ?_
        refine AW.seq ?_
        refine AW.region ?_
        refine s_move (d := (sc (.string x3))) rfl ?_
        refine s_binS (v := (.bool (x3.toList == (⟨#[]⟩ : ByteArray).toList))) rfl rfl rfl ?_
        refine s_move (d := (sc (.bool (x3.toList == (⟨#[]⟩ : ByteArray).toList)))) rfl ?_
        by_cases c4 : (x3.toList == (⟨#[]⟩ : ByteArray).toList) = true
        · replace h := (if_pos c4).symm.trans h
          refine AWops.guard_no rfl (Nat.le_of_ble_eq_true rfl) rfl c4 ?_
          refine AWops.guard_no rfl (Nat.le_of_ble_eq_true rfl) rfl c4 ?_
          refine AWops.guard_no rfl (Nat.le_of_ble_eq_true rfl) rfl c4 ?_
          refine AWops.guard_no rfl (Nat.le_of_ble_eq_true rfl) rfl c4 ?_
          refine AWops.guard_undef rfl rfl ?_
          refine AWops.guard_undef rfl rfl ?_
          refine AWops.guard_undef rfl rfl ?_
          refine AWops.guard_no rfl (Nat.le_of_ble_eq_true rfl) rfl c4 ?_
          refine s_pick_yes (d := (sc (.bool true))) rfl c4 rfl ?_
          refine AWops.nil ?_
          refine AW.cond_yes rfl rfl ?_
          refine AW.seq ?_
          refine AW.region ?_
          refine s_assign (d := (sc (.int .i64 0))) rfl ?_
          refine s_assign (d := (sc (.int .i64 5))) rfl ?_
          refine AWops.nil ?_
          refine AW.ret ?_
          obtain rfl := Option.some.inj h
          exact ⟨_, rfl, (Weak.gen (kk := 0) [] [] rfl rfl (by decide) (by decide) rfl rfl rfl (le_upd (le_top _) (DLe.tup (All2.cons (TLe.one .sc) (All2.cons (TLe.one .sc) All2.nil)))) All2.nil)⟩
        · replace h := (if_neg c4).symm.trans h
          replace c4 := Bool.eq_false_iff.mpr c4
          refine AWops.guard_yes rfl (Nat.le_of_ble_eq_true rfl) rfl c4 ?_
          refine s_move (d := (sc (.string x3))) rfl ?_
          refine AWops.guard_yes rfl (Nat.le_of_ble_eq_true rfl) rfl c4 ?_
          obtain ⟨v5, ev5, h⟩ := Option.bind_eq_some_iff.mp h
          obtain ⟨pv5, bv5, gv5, rfl⟩ := bt_some ev5
          refine s_indexStr F.u_9 rfl rfl pv5 gv5 ?_
          generalize hzv5 : ((bv5.toNat : Nat) : Int) = v5 at *
          refine AWops.guard_yes rfl (Nat.le_of_ble_eq_true rfl) rfl c4 ?_
          refine s_binI (v := (.bool (v5 == 48))) rfl rfl rfl ?_
          refine AWops.guard_yes rfl (Nat.le_of_ble_eq_true rfl) rfl c4 ?_
          refine s_move (d := (sc (.bool (v5 == 48)))) rfl ?_
          by_cases c6 : (v5 == 48) = true
          · replace h := (if_pos c6).symm.trans h
            refine AWops.guard_yes rfl (Nat.le_of_ble_eq_true rfl) rfl c6 ?_
            refine s_move (d := (sc (.string a0))) rfl ?_
            refine AWops.guard_yes rfl (Nat.le_of_ble_eq_true rfl) rfl c6 ?_
            refine s_len (n := a0.size) F.u_9 rfl (.inl ⟨⟨_, _, rfl⟩, rfl⟩) ?_
            refine AWops.guard_yes rfl (Nat.le_of_ble_eq_true rfl) rfl c6 ?_
            refine s_binI (v := (.bool (decide ((a0.size : Int) > 1)))) rfl rfl rfl ?_
            refine AWops.guard_yes rfl (Nat.le_of_ble_eq_true rfl) rfl c4 ?_
            refine s_pick_yes (d := (sc (.bool (decide ((a0.size : Int) > 1))))) rfl c6 rfl ?_
            refine s_pick_no (d := (sc (.bool (decide ((a0.size : Int) > 1))))) rfl c4 rfl ?_
            refine AWops.nil ?_
            by_cases c7 : (decide ((a0.size : Int) > 1)) = true
            · replace h := (if_pos c7).symm.trans h
              refine AW.cond_yes rfl c7 ?_
              refine AW.seq ?_
              refine AW.region ?_
              refine s_assign (d := (sc (.int .i64 0))) rfl ?_
              refine s_assign (d := (sc (.int .i64 5))) rfl ?_
              refine AWops.nil ?_
              refine AW.ret ?_
              obtain rfl := Option.some.inj h
              exact ⟨_, rfl, (Weak.gen (kk := 0) [] [] rfl rfl (by decide) (by decide) rfl rfl rfl (le_upd (le_top _) (DLe.tup (All2.cons (TLe.one .sc) (All2.cons (TLe.one .sc) All2.nil)))) All2.nil)⟩
            · replace h := (if_neg c7).symm.trans h
              replace c7 := Bool.eq_false_iff.mpr c7
              refine AW.cond_no rfl c7 ?_
              refine AW.skip ?_
              refine AW.seq ?_
              refine AW.region ?_
              refine s_assign (d := (sc (.int .u64 0))) rfl ?_
              refine AWops.nil ?_
              refine AW.seq ?_
              refine AW.region ?_
              refine s_move (d := (sc (.string x3))) rfl ?_
              refine s_len (n := x3.size) F.u_9 rfl (.inl ⟨⟨_, _, rfl⟩, rfl⟩) ?_
              refine s_binI (v := (.bool (decide ((x3.size : Int) > 19)))) rfl rfl rfl ?_
              refine s_assign (d := (sc (.bool (decide ((x3.size : Int) > 19))))) rfl ?_
              refine AWops.nil ?_
              refine AW.seq ?_
              refine AW.seq ?_
              refine AW.region ?_
              refine s_move (d := (sc (.string x3))) rfl ?_
              refine t_ofStr F.u_9 F.u_31 F.u_5 rfl ?_
              refine s_len (n := (bytesI x3).length) F.u_31 rfl (.inr ⟨(fun _ _ h => by cases h), ⟨_, rfl⟩⟩) ?_
              refine s_move (d := (sc (.int .i64 0))) rfl ?_
              refine AWops.nil ?_
              refine AW.block ?_
              refine AW.loopw (st0 := ⟨78, (upd 78 (upd 78 (upd 78 (upd 78 (upd 78 (upd 78 topF 4 (sc (.bool (v2 == 45)))) 6 (sc (.int .u64 0))) 7 (sc (.bool (decide ((x3.size : Int) > 19))))) 39 (D.one (C.p false (.sl (bytesI x3).length ((bytesI x3).flatMap e_u8))))) 40 (sc (.int .i64 ((bytesI x3).length : Int)))) 41 (sc (.int .i64 0))), []⟩) (fun kv st => kv ≤ qj0 ∧ ∃ (x8 : Int) (x9 : Int), chars_Number.l1 kv x8 x9 v2 x3 = some r ∧ st = ⟨78, (upd 78 (upd 78 (upd 78 (upd 78 (upd 78 (upd 78 topF 4 (sc (.bool (v2 == 45)))) 6 (sc (.int .u64 x8))) 7 (sc (.bool (decide ((x3.size : Int) > 19))))) 39 (D.one (C.p false (.sl (bytesI x3).length ((bytesI x3).flatMap e_u8))))) 40 (sc (.int .i64 ((bytesI x3).length : Int)))) 41 (sc (.int .i64 x9))), []⟩) (k := qj0) (Weak.gen (kk := 0) [] [] hx rfl (by decide) (by decide) rfl rfl rfl (le_upd (le_upd (le_upd (le_upd (le_upd (le_upd (le_top _) (.t (.one .sc))) (.t (.one .sc))) (.t (.one .sc))) (.t (.one .same))) (.t (.one .sc))) (.t (.one .sc))) All2.nil) ⟨Nat.le_refl _, 0, 0, h, rfl⟩ ?_
              rintro ql1 st ⟨hkl1, x8, x9, h, rfl⟩
              cases ql1 with
              | zero => exact absurd h (by simp [chars_Number.l1])
              | succ ql1 =>
                replace h := (chars_Number.l1.eq_2 _ _ _ _ _).symm.trans h
                refine AW.seq ?_
                refine AW.region ?_
                refine s_binI (v := (.bool (decide (x9 < ((bytesI x3).length : Int))))) rfl rfl rfl ?_
                refine AWops.nil ?_
                refine AW.seq ?_
                by_cases c10 : (decide (x9 < ((bytesI x3).length : Int))) = true
                · replace h := (if_pos c10).symm.trans h
                  refine AW.cond_yes rfl c10 ?_
                  refine AW.skip ?_
                  refine AW.seq ?_
                  refine AW.block ?_
                  refine AW.seq ?_
                  refine AW.region ?_
                  obtain ⟨v11, ev11, h⟩ := Option.bind_eq_some_iff.mp h
                  obtain ⟨pv11, qv11, gv11⟩ := rd_some ev11
                  refine s_indexImm (ps := [P.v (.int .u8 v11)]) F.u_31 F.sz_5 rfl rfl pv11 qv11 (flat_at e_u8_len gv11 (e_u8_eq v11)) ?_
                  refine s_load1 (c' := (C.p true (.v (.int .u8 v11)))) F.ag_5 rfl rfl ?_
                  refine s_assign (d := (sc (.int .u8 v11))) rfl ?_
                  refine AWops.nil ?_
                  refine AW.seq ?_
                  refine AW.seq ?_
                  refine AW.region ?_
                  refine s_move (d := (sc (.int .u8 v11))) rfl ?_
                  refine s_binI (v := (.bool (decide (v11 < 48)))) rfl rfl rfl ?_
                  refine s_move (d := (sc (.bool (decide (v11 < 48))))) rfl ?_
                  by_cases c12 : (decide (v11 < 48)) = true
                  · replace h := (if_pos c12).symm.trans h
                    refine AWops.guard_no rfl (Nat.le_of_ble_eq_true rfl) rfl c12 ?_
                    refine AWops.guard_no rfl (Nat.le_of_ble_eq_true rfl) rfl c12 ?_
                    refine s_pick_yes (d := (sc (.bool true))) rfl c12 rfl ?_
                    refine AWops.nil ?_
                    refine AW.cond_yes rfl rfl ?_
                    refine AW.seq ?_
                    refine AW.region ?_
                    refine s_assign (d := (sc (.int .i64 0))) rfl ?_
                    refine s_assign (d := (sc (.int .i64 5))) rfl ?_
                    refine AWops.nil ?_
                    refine AW.ret ?_
                    obtain rfl := Option.some.inj h
                    exact ⟨_, rfl, (Weak.gen (kk := 0) [] [] rfl rfl (by decide) (by decide) rfl rfl rfl (le_upd (le_top _) (DLe.tup (All2.cons (TLe.one .sc) (All2.cons (TLe.one .sc) All2.nil)))) All2.nil)⟩
                  · replace h := (if_neg c12).symm.trans h
                    replace c12 := Bool.eq_false_iff.mpr c12
                    refine AWops.guard_yes rfl (Nat.le_of_ble_eq_true rfl) rfl c12 ?_
                    refine s_move (d := (sc (.int .u8 v11))) rfl ?_
                    refine AWops.guard_yes rfl (Nat.le_of_ble_eq_true rfl) rfl c12 ?_
                    refine s_binI (v := (.bool (decide (v11 > 57)))) rfl rfl rfl ?_
                    refine s_pick_no (d := (sc (.bool (decide (v11 > 57))))) rfl c12 rfl ?_
                    refine AWops.nil ?_
                    by_cases c13 : (decide (v11 > 57)) = true
                    · replace h := (if_pos c13).symm.trans h
                      refine AW.cond_yes rfl c13 ?_
                      refine AW.seq ?_
                      refine AW.region ?_
                      refine s_assign (d := (sc (.int .i64 0))) rfl ?_
                      refine s_assign (d := (sc (.int .i64 5))) rfl ?_
                      refine AWops.nil ?_
                      refine AW.ret ?_
                      obtain rfl := Option.some.inj h
                      exact ⟨_, rfl, (Weak.gen (kk := 0) [] [] rfl rfl (by decide) (by decide) rfl rfl rfl (le_upd (le_top _) (DLe.tup (All2.cons (TLe.one .sc) (All2.cons (TLe.one .sc) All2.nil)))) All2.nil)⟩
                    · replace h := (if_neg c13).symm.trans h
                      replace c13 := Bool.eq_false_iff.mpr c13
                      refine AW.cond_no rfl c13 ?_
                      refine AW.skip ?_
                      refine AW.seq ?_
                      refine AW.region ?_
                      refine s_move (d := (sc (.bool (decide ((x3.size : Int) > 19))))) rfl ?_
                      refine s_not rfl ?_
                      refine AWops.nil ?_
                      by_cases c14 : (decide ((x3.size : Int) > 19)) = true
                      · replace h := (if_pos c14).symm.trans h
                        refine AW.cond_no rfl (by rw [c14] <;> rfl) ?_
                        refine AW.skip ?_
                        refine AW.region ?_
                        refine s_binI (v := (.int .i64 (IntKind.i64.wrap (x9 + 1)))) rfl rfl rfl ?_
                        refine s_move (d := (sc (.int .i64 (IntKind.i64.wrap (x9 + 1))))) rfl ?_
                        refine AWops.nil ?_
                        exact ⟨_, ⟨78, (upd 78 (upd 78 (upd 78 (upd 78 (upd 78 (upd 78 topF 4 (sc (.bool (v2 == 45)))) 6 (sc (.int .u64 x8))) 7 (sc (.bool (decide ((x3.size : Int) > 19))))) 39 (D.one (C.p false (.sl (bytesI x3).length ((bytesI x3).flatMap e_u8))))) 40 (sc (.int .i64 ((bytesI x3).length : Int)))) 41 (sc (.int .i64 (IntKind.i64.wrap (x9 + 1))))), []⟩, by omega, (Weak.gen (kk := 0) [] [] hx rfl (by decide) (by decide) rfl rfl rfl (le_upd (le_upd (le_upd (le_upd (le_upd (le_upd (le_top _) (.t (.one .sc))) (.t (.one .sc))) (.t (.one .sc))) (.t (.one .same))) (.t (.one .sc))) (.t (.one .sc))) All2.nil), by omega, x8, IntKind.i64.wrap (x9 + 1), h, rfl⟩
                      · replace h := (if_neg c14).symm.trans h
                        replace c14 := Bool.eq_false_iff.mpr c14
                        refine AW.cond_yes rfl (by rw [c14] <;> rfl) ?_
                        refine AW.region ?_
                        refine s_move (d := (sc (.int .u64 x8))) rfl ?_
                        refine s_binI (v := (.int .u64 (IntKind.u64.wrap (10 * x8)))) rfl rfl rfl ?_
                        refine s_move (d := (sc (.int .u8 v11))) rfl ?_
                        refine s_binI (v := (.int .u8 (IntKind.u8.wrap (v11 - 48)))) rfl rfl rfl ?_
                        refine s_convI F.u_5 F.u_45 rfl ?_
                        refine s_binI (v := (.int .u64 (IntKind.u64.wrap ((IntKind.u64.wrap (10 * x8)) + (IntKind.u64.wrap (IntKind.u8.wrap (v11 - 48))))))) rfl rfl rfl ?_
                        refine s_assign (d := (sc (.int .u64 (IntKind.u64.wrap ((IntKind.u64.wrap (10 * x8)) + (IntKind.u64.wrap (IntKind.u8.wrap (v11 - 48)))))))) rfl ?_
                        refine AWops.nil ?_
                        refine AW.region ?_
                        refine s_binI (v := (.int .i64 (IntKind.i64.wrap (x9 + 1)))) rfl rfl rfl ?_
                        refine s_move (d := (sc (.int .i64 (IntKind.i64.wrap (x9 + 1))))) rfl ?_
                        refine AWops.nil ?_
                        exact ⟨_, ⟨78, (upd 78 (upd 78 (upd 78 (upd 78 (upd 78 (upd 78 topF 4 (sc (.bool (v2 == 45)))) 6 (sc (.int .u64 (IntKind.u64.wrap ((IntKind.u64.wrap (10 * x8)) + (IntKind.u64.wrap (IntKind.u8.wrap (v11 - 48)))))))) 7 (sc (.bool (decide ((x3.size : Int) > 19))))) 39 (D.one (C.p false (.sl (bytesI x3).length ((bytesI x3).flatMap e_u8))))) 40 (sc (.int .i64 ((bytesI x3).length : Int)))) 41 (sc (.int .i64 (IntKind.i64.wrap (x9 + 1))))), []⟩, by omega, (Weak.gen (kk := 0) [] [] hx rfl (by decide) (by decide) rfl rfl rfl (le_upd (le_upd (le_upd (le_upd (le_upd (le_upd (le_top _) (.t (.one .sc))) (.t (.one .sc))) (.t (.one .sc))) (.t (.one .same))) (.t (.one .sc))) (.t (.one .sc))) All2.nil), by omega, IntKind.u64.wrap ((IntKind.u64.wrap (10 * x8)) + (IntKind.u64.wrap (IntKind.u8.wrap (v11 - 48)))), IntKind.i64.wrap (x9 + 1), h, rfl⟩
                · replace h := (if_neg c10).symm.trans h
                  replace c10 := Bool.eq_false_iff.mpr c10
                  refine AW.cond_no rfl c10 ?_
                  refine AW.exit ?_
                  refine AW.seq ?_
                  refine AW.region ?_
                  refine s_assign (d := (sc (.int .u64 9223372036854775808))) rfl ?_
                  refine AWops.nil ?_
                  refine AW.seqJ (fun st => ∃ (x15 : Int), chars_Number.j2 ql1 x15 v2 x3 x8 = some r ∧ st = ⟨78, (upd 78 (upd 78 (upd 78 (upd 78 topF 4 (sc (.bool (v2 == 45)))) 6 (sc (.int .u64 x8))) 7 (sc (.bool (decide ((x3.size : Int) > 19))))) 10 (sc (.int .u64 x15))), []⟩) ?_ ?_
                  · refine AW.seq ?_
                    refine AW.region ?_
                    refine s_move (d := (sc (.bool (v2 == 45)))) rfl ?_
                    refine s_not rfl ?_
                    refine AWops.nil ?_
                    by_cases c15 : (v2 == 45) = true
                    · replace h := (if_pos c15).symm.trans h
                      refine AW.cond_no rfl (by rw [c15] <;> rfl) ?_
                      refine AW.skip ?_
                      exact ⟨⟨78, (upd 78 (upd 78 (upd 78 (upd 78 topF 4 (sc (.bool (v2 == 45)))) 6 (sc (.int .u64 x8))) 7 (sc (.bool (decide ((x3.size : Int) > 19))))) 10 (sc (.int .u64 9223372036854775808))), []⟩, (Weak.gen (kk := 0) [] [] hx rfl (by decide) (by decide) rfl rfl rfl (le_upd (le_upd (le_upd (le_upd (le_top _) (.t (.one .sc))) (.t (.one .sc))) (.t (.one .sc))) (.t (.one .sc))) All2.nil), 9223372036854775808, h, rfl⟩
                    · replace h := (if_neg c15).symm.trans h
                      replace c15 := Bool.eq_false_iff.mpr c15
                      refine AW.cond_yes rfl (by rw [c15] <;> rfl) ?_
                      refine AW.region ?_
                      refine s_move (d := (sc (.int .u64 9223372036854775808))) rfl ?_
                      refine s_binI (v := (.int .u64 9223372036854775807)) rfl rfl (by rfl) ?_
                      refine s_assign (d := (sc (.int .u64 9223372036854775807))) rfl ?_
                      refine AWops.nil ?_
                      exact ⟨⟨78, (upd 78 (upd 78 (upd 78 (upd 78 topF 4 (sc (.bool (v2 == 45)))) 6 (sc (.int .u64 x8))) 7 (sc (.bool (decide ((x3.size : Int) > 19))))) 10 (sc (.int .u64 9223372036854775807))), []⟩, (Weak.gen (kk := 0) [] [] hx rfl (by decide) (by decide) rfl rfl rfl (le_upd (le_upd (le_upd (le_upd (le_top _) (.t (.one .sc))) (.t (.one .sc))) (.t (.one .sc))) (.t (.one .sc))) All2.nil), 9223372036854775807, h, rfl⟩
                  · rintro st ⟨x15, h, rfl⟩
                    cases ql1 with
                    | zero => exact absurd h (by simp [chars_Number.j2])
                    | succ qj2 =>
                      replace h := (chars_Number.j2.eq_2 _ _ _ _ _).symm.trans h
                      refine AW.seq ?_
                      refine AW.block ?_
                      refine AW.seq ?_
                      refine AW.region ?_
                      refine s_move (d := (sc (.bool (decide ((x3.size : Int) > 19))))) rfl ?_
                      refine s_move (d := (sc (.bool (decide ((x3.size : Int) > 19))))) rfl ?_
                      by_cases c16 : (decide ((x3.size : Int) > 19)) = true
                      · replace h := (if_pos c16).symm.trans h
                        refine AWops.guard_no rfl (Nat.le_of_ble_eq_true rfl) rfl c16 ?_
                        refine AWops.guard_no rfl (Nat.le_of_ble_eq_true rfl) rfl c16 ?_
                        refine AWops.guard_no rfl (Nat.le_of_ble_eq_true rfl) rfl c16 ?_
                        refine s_pick_yes (d := (sc (.bool true))) rfl c16 rfl ?_
                        refine s_assign (d := (sc (.bool true))) rfl ?_
                        refine AWops.nil ?_
                        refine AW.cond_yes rfl rfl ?_
                        refine AW.seq ?_
                        refine AW.region ?_
                        refine s_assign (d := (sc (.int .i64 0))) rfl ?_
                        refine s_assign (d := (sc (.int .i64 4))) rfl ?_
                        refine AWops.nil ?_
                        refine AW.ret ?_
                        obtain rfl := Option.some.inj h
                        exact ⟨_, rfl, (Weak.gen (kk := 0) [] [] rfl rfl (by decide) (by decide) rfl rfl rfl (le_upd (le_top _) (DLe.tup (All2.cons (TLe.one .sc) (All2.cons (TLe.one .sc) All2.nil)))) All2.nil)⟩
                      · replace h := (if_neg c16).symm.trans h
                        replace c16 := Bool.eq_false_iff.mpr c16
                        refine AWops.guard_yes rfl (Nat.le_of_ble_eq_true rfl) rfl c16 ?_
                        refine s_move (d := (sc (.int .u64 x8))) rfl ?_
                        refine AWops.guard_yes rfl (Nat.le_of_ble_eq_true rfl) rfl c16 ?_
                        refine s_move (d := (sc (.int .u64 x15))) rfl ?_
                        refine AWops.guard_yes rfl (Nat.le_of_ble_eq_true rfl) rfl c16 ?_
                        refine s_binI (v := (.bool (decide (x8 > x15)))) rfl rfl rfl ?_
                        refine s_pick_no (d := (sc (.bool (decide (x8 > x15))))) rfl c16 rfl ?_
                        refine s_assign (d := (sc (.bool (decide (x8 > x15))))) rfl ?_
                        refine AWops.nil ?_
                        by_cases c17 : (decide (x8 > x15)) = true
                        · replace h := (if_pos c17).symm.trans h
                          refine AW.cond_yes rfl c17 ?_
                          refine AW.seq ?_
                          refine AW.region ?_
                          refine s_assign (d := (sc (.int .i64 0))) rfl ?_
                          refine s_assign (d := (sc (.int .i64 4))) rfl ?_
                          refine AWops.nil ?_
                          refine AW.ret ?_
                          obtain rfl := Option.some.inj h
                          exact ⟨_, rfl, (Weak.gen (kk := 0) [] [] rfl rfl (by decide) (by decide) rfl rfl rfl (le_upd (le_top _) (DLe.tup (All2.cons (TLe.one .sc) (All2.cons (TLe.one .sc) All2.nil)))) All2.nil)⟩
                        · replace h := (if_neg c17).symm.trans h
                          replace c17 := Bool.eq_false_iff.mpr c17
                          refine AW.cond_no rfl c17 ?_
                          refine AW.seq ?_
                          refine AW.region ?_
                          refine s_move (d := (sc (.bool (v2 == 45)))) rfl ?_
                          refine s_assign (d := (sc (.bool (v2 == 45)))) rfl ?_
                          refine AWops.nil ?_
                          by_cases c18 : (v2 == 45) = true
                          · replace h := (if_pos c18).symm.trans h
                            refine AW.cond_yes rfl c18 ?_
                            refine AW.seq ?_
                            refine AW.region ?_
                            refine s_move (d := (sc (.int .u64 x8))) rfl ?_
                            refine s_convI F.u_45 F.u_3 rfl ?_
                            refine s_unI (v := (.int .i64 (IntKind.i64.wrap (0 - (IntKind.i64.wrap x8))))) rfl rfl ?_
                            refine s_assign (d := (sc (.int .i64 (IntKind.i64.wrap (0 - (IntKind.i64.wrap x8)))))) rfl ?_
                            refine s_assign (d := (sc (.int .i64 0))) rfl ?_
                            refine AWops.nil ?_
                            refine AW.ret ?_
                            obtain rfl := Option.some.inj h
                            exact ⟨_, rfl, (Weak.gen (kk := 0) [] [] rfl rfl (by decide) (by decide) rfl rfl rfl (le_upd (le_top _) (DLe.tup (All2.cons (TLe.one .sc) (All2.cons (TLe.one .sc) All2.nil)))) All2.nil)⟩
                          · replace h := (if_neg c18).symm.trans h
                            replace c18 := Bool.eq_false_iff.mpr c18
                            refine AW.cond_no rfl c18 ?_
                            refine AW.skip ?_
                            refine AW.seq ?_
                            refine AW.region ?_
                            refine s_move (d := (sc (.int .u64 x8))) rfl ?_
                            refine s_convI F.u_45 F.u_3 rfl ?_
                            refine s_assign (d := (sc (.int .i64 (IntKind.i64.wrap x8)))) rfl ?_
                            refine s_assign (d := (sc (.int .i64 0))) rfl ?_
                            refine AWops.nil ?_
                            refine AW.ret ?_
                            obtain rfl := Option.some.inj h
                            exact ⟨_, rfl, (Weak.gen (kk := 0) [] [] rfl rfl (by decide) (by decide) rfl rfl rfl (le_upd (le_top _) (DLe.tup (All2.cons (TLe.one .sc) (All2.cons (TLe.one .sc) All2.nil)))) All2.nil)⟩
          · replace h := (if_neg c6).symm.trans h
            replace c6 := Bool.eq_false_iff.mpr c6
            refine AWops.guard_no rfl (Nat.le_of_ble_eq_true rfl) rfl c6 ?_
            refine AWops.guard_no rfl (Nat.le_of_ble_eq_true rfl) rfl c6 ?_
            refine AWops.guard_no rfl (Nat.le_of_ble_eq_true rfl) rfl c6 ?_
            refine AWops.guard_yes rfl (Nat.le_of_ble_eq_true rfl) rfl c4 ?_
            refine s_pick_no (d := (sc (.bool false))) rfl c6 rfl ?_
            refine s_pick_no (d := (sc (.bool false))) rfl c4 rfl ?_
            refine AWops.nil ?_
            refine AW.cond_no rfl rfl ?_
            refine AW.skip ?_
            refine AW.seq ?_
            refine AW.region ?_
            refine s_assign (d := (sc (.int .u64 0))) rfl ?_
            refine AWops.nil ?_
            refine AW.seq ?_
            refine AW.region ?_
            refine s_move (d := (sc (.string x3))) rfl ?_
            refine s_len (n := x3.size) F.u_9 rfl (.inl ⟨⟨_, _, rfl⟩, rfl⟩) ?_
            refine s_binI (v := (.bool (decide ((x3.size : Int) > 19)))) rfl rfl rfl ?_
            refine s_assign (d := (sc (.bool (decide ((x3.size : Int) > 19))))) rfl ?_
            refine AWops.nil ?_
            refine AW.seq ?_
            refine AW.seq ?_
            refine AW.region ?_
            refine s_move (d := (sc (.string x3))) rfl ?_
            refine t_ofStr F.u_9 F.u_31 F.u_5 rfl ?_
            refine s_len (n := (bytesI x3).length) F.u_31 rfl (.inr ⟨(fun _ _ h => by cases h), ⟨_, rfl⟩⟩) ?_
            refine s_move (d := (sc (.int .i64 0))) rfl ?_
            refine AWops.nil ?_
            refine AW.block ?_
            refine AW.loopw (st0 := ⟨78, (upd 78 (upd 78 (upd 78 (upd 78 (upd 78 (upd 78 topF 4 (sc (.bool (v2 == 45)))) 6 (sc (.int .u64 0))) 7 (sc (.bool (decide ((x3.size : Int) > 19))))) 39 (D.one (C.p false (.sl (bytesI x3).length ((bytesI x3).flatMap e_u8))))) 40 (sc (.int .i64 ((bytesI x3).length : Int)))) 41 (sc (.int .i64 0))), []⟩) (fun kv st => kv ≤ qj0 ∧ ∃ (x19 : Int) (x20 : Int), chars_Number.l3 kv x19 x20 v2 x3 = some r ∧ st = ⟨78, (upd 78 (upd 78 (upd 78 (upd 78 (upd 78 (upd 78 topF 4 (sc (.bool (v2 == 45)))) 6 (sc (.int .u64 x19))) 7 (sc (.bool (decide ((x3.size : Int) > 19))))) 39 (D.one (C.p false (.sl (bytesI x3).length ((bytesI x3).flatMap e_u8))))) 40 (sc (.int .i64 ((bytesI x3).length : Int)))) 41 (sc (.int .i64 x20))), []⟩) (k := qj0) (Weak.gen (kk := 0) [] [] hx rfl (by decide) (by decide) rfl rfl rfl (le_upd (le_upd (le_upd (le_upd (le_upd (le_upd (le_top _) (.t (.one .sc))) (.t (.one .sc))) (.t (.one .sc))) (.t (.one .same))) (.t (.one .sc))) (.t (.one .sc))) All2.nil) ⟨Nat.le_refl _, 0, 0, h, rfl⟩ ?_
            rintro ql3 st ⟨hkl3, x19, x20, h, rfl⟩
            cases ql3 with
            | zero => exact absurd h (by simp [chars_Number.l3])
            | succ ql3 =>
              replace h := (chars_Number.l3.eq_2 _ _ _ _ _).symm.trans h
              refine AW.seq ?_
              refine AW.region ?_
              refine s_binI (v := (.bool (decide (x20 < ((bytesI x3).length : Int))))) rfl rfl rfl ?_
              refine AWops.nil ?_
              refine AW.seq ?_
              by_cases c21 : (decide (x20 < ((bytesI x3).length : Int))) = true
              · replace h := (if_pos c21).symm.trans h
                refine AW.cond_yes rfl c21 ?_
                refine AW.skip ?_
                refine AW.seq ?_
                refine AW.block ?_
                refine AW.seq ?_
                refine AW.region ?_
                obtain ⟨v22, ev22, h⟩ := Option.bind_eq_some_iff.mp h
                obtain ⟨pv22, qv22, gv22⟩ := rd_some ev22
                refine s_indexImm (ps := [P.v (.int .u8 v22)]) F.u_31 F.sz_5 rfl rfl pv22 qv22 (flat_at e_u8_len gv22 (e_u8_eq v22)) ?_
                refine s_load1 (c' := (C.p true (.v (.int .u8 v22)))) F.ag_5 rfl rfl ?_
                refine s_assign (d := (sc (.int .u8 v22))) rfl ?_
                refine AWops.nil ?_
                refine AW.seq ?_
                refine AW.seq ?_
                refine AW.region ?_
                refine s_move (d := (sc (.int .u8 v22))) rfl ?_
                refine s_binI (v := (.bool (decide (v22 < 48)))) rfl rfl rfl ?_
                refine s_move (d := (sc (.bool (decide (v22 < 48))))) rfl ?_
                by_cases c23 : (decide (v22 < 48)) = true
                · replace h := (if_pos c23).symm.trans h
                  refine AWops.guard_no rfl (Nat.le_of_ble_eq_true rfl) rfl c23 ?_
                  refine AWops.guard_no rfl (Nat.le_of_ble_eq_true rfl) rfl c23 ?_
                  refine s_pick_yes (d := (sc (.bool true))) rfl c23 rfl ?_
                  refine AWops.nil ?_
                  refine AW.cond_yes rfl rfl ?_
                  refine AW.seq ?_
                  refine AW.region ?_
                  refine s_assign (d := (sc (.int .i64 0))) rfl ?_
                  refine s_assign (d := (sc (.int .i64 5))) rfl ?_
                  refine AWops.nil ?_
                  refine AW.ret ?_
                  obtain rfl := Option.some.inj h
                  exact ⟨_, rfl, (Weak.gen (kk := 0) [] [] rfl rfl (by decide) (by decide) rfl rfl rfl (le_upd (le_top _) (DLe.tup (All2.cons (TLe.one .sc) (All2.cons (TLe.one .sc) All2.nil)))) All2.nil)⟩
                · replace h := (if_neg c23).symm.trans h
                  replace c23 := Bool.eq_false_iff.mpr c23
                  refine AWops.guard_yes rfl (Nat.le_of_ble_eq_true rfl) rfl c23 ?_
                  refine s_move (d := (sc (.int .u8 v22))) rfl ?_
                  refine AWops.guard_yes rfl (Nat.le_of_ble_eq_true rfl) rfl c23 ?_
                  refine s_binI (v := (.bool (decide (v22 > 57)))) rfl rfl rfl ?_
                  refine s_pick_no (d := (sc (.bool (decide (v22 > 57))))) rfl c23 rfl ?_
                  refine AWops.nil ?_
                  by_cases c24 : (decide (v22 > 57)) = true
                  · replace h := (if_pos c24).symm.trans h
                    refine AW.cond_yes rfl c24 ?_
                    refine AW.seq ?_
                    refine AW.region ?_
                    refine s_assign (d := (sc (.int .i64 0))) rfl ?_
                    refine s_assign (d := (sc (.int .i64 5))) rfl ?_
                    refine AWops.nil ?_
                    refine AW.ret ?_
                    obtain rfl := Option.some.inj h
                    exact ⟨_, rfl, (Weak.gen (kk := 0) [] [] rfl rfl (by decide) (by decide) rfl rfl rfl (le_upd (le_top _) (DLe.tup (All2.cons (TLe.one .sc) (All2.cons (TLe.one .sc) All2.nil)))) All2.nil)⟩
                  · replace h := (if_neg c24).symm.trans h
                    replace c24 := Bool.eq_false_iff.mpr c24
                    refine AW.cond_no rfl c24 ?_
                    refine AW.skip ?_
                    refine AW.seq ?_
                    refine AW.region ?_
                    refine s_move (d := (sc (.bool (decide ((x3.size : Int) > 19))))) rfl ?_
                    refine s_not rfl ?_
                    refine AWops.nil ?_
                    by_cases c25 : (decide ((x3.size : Int) > 19)) = true
                    · replace h := (if_pos c25).symm.trans h
                      refine AW.cond_no rfl (by rw [c25] <;> rfl) ?_
                      refine AW.skip ?_
                      refine AW.region ?_
                      refine s_binI (v := (.int .i64 (IntKind.i64.wrap (x20 + 1)))) rfl rfl rfl ?_
                      refine s_move (d := (sc (.int .i64 (IntKind.i64.wrap (x20 + 1))))) rfl ?_
                      refine AWops.nil ?_
                      exact ⟨_, ⟨78, (upd 78 (upd 78 (upd 78 (upd 78 (upd 78 (upd 78 topF 4 (sc (.bool (v2 == 45)))) 6 (sc (.int .u64 x19))) 7 (sc (.bool (decide ((x3.size : Int) > 19))))) 39 (D.one (C.p false (.sl (bytesI x3).length ((bytesI x3).flatMap e_u8))))) 40 (sc (.int .i64 ((bytesI x3).length : Int)))) 41 (sc (.int .i64 (IntKind.i64.wrap (x20 + 1))))), []⟩, by omega, (Weak.gen (kk := 0) [] [] hx rfl (by decide) (by decide) rfl rfl rfl (le_upd (le_upd (le_upd (le_upd (le_upd (le_upd (le_top _) (.t (.one .sc))) (.t (.one .sc))) (.t (.one .sc))) (.t (.one .same))) (.t (.one .sc))) (.t (.one .sc))) All2.nil), by omega, x19, IntKind.i64.wrap (x20 + 1), h, rfl⟩
                    · replace h := (if_neg c25).symm.trans h
                      replace c25 := Bool.eq_false_iff.mpr c25
                      refine AW.cond_yes rfl (by rw [c25] <;> rfl) ?_
                      refine AW.region ?_
                      refine s_move (d := (sc (.int .u64 x19))) rfl ?_
                      refine s_binI (v := (.int .u64 (IntKind.u64.wrap (10 * x19)))) rfl rfl rfl ?_
                      refine s_move (d := (sc (.int .u8 v22))) rfl ?_
                      refine s_binI (v := (.int .u8 (IntKind.u8.wrap (v22 - 48)))) rfl rfl rfl ?_
                      refine s_convI F.u_5 F.u_45 rfl ?_
                      refine s_binI (v := (.int .u64 (IntKind.u64.wrap ((IntKind.u64.wrap (10 * x19)) + (IntKind.u64.wrap (IntKind.u8.wrap (v22 - 48))))))) rfl rfl rfl ?_
                      refine s_assign (d := (sc (.int .u64 (IntKind.u64.wrap ((IntKind.u64.wrap (10 * x19)) + (IntKind.u64.wrap (IntKind.u8.wrap (v22 - 48)))))))) rfl ?_
                      refine AWops.nil ?_
                      refine AW.region ?_
                      refine s_binI (v := (.int .i64 (IntKind.i64.wrap (x20 + 1)))) rfl rfl rfl ?_
                      refine s_move (d := (sc (.int .i64 (IntKind.i64.wrap (x20 + 1))))) rfl ?_
                      refine AWops.nil ?_
                      exact ⟨_, ⟨78, (upd 78 (upd 78 (upd 78 (upd 78 (upd 78 (upd 78 topF 4 (sc (.bool (v2 == 45)))) 6 (sc (.int .u64 (IntKind.u64.wrap ((IntKind.u64.wrap (10 * x19)) + (IntKind.u64.wrap (IntKind.u8.wrap (v22 - 48)))))))) 7 (sc (.bool (decide ((x3.size : Int) > 19))))) 39 (D.one (C.p false (.sl (bytesI x3).length ((bytesI x3).flatMap e_u8))))) 40 (sc (.int .i64 ((bytesI x3).length : Int)))) 41 (sc (.int .i64 (IntKind.i64.wrap (x20 + 1))))), []⟩, by omega, (Weak.gen (kk := 0) [] [] hx rfl (by decide) (by decide) rfl rfl rfl (le_upd (le_upd (le_upd (le_upd (le_upd (le_upd (le_top _) (.t (.one .sc))) (.t (.one .sc))) (.t (.one .sc))) (.t (.one .same))) (.t (.one .sc))) (.t (.one .sc))) All2.nil), by omega, IntKind.u64.wrap ((IntKind.u64.wrap (10 * x19)) + (IntKind.u64.wrap (IntKind.u8.wrap (v22 - 48)))), IntKind.i64.wrap (x20 + 1), h, rfl⟩
              · replace h := (if_neg c21).symm.trans h
                replace c21 := Bool.eq_false_iff.mpr c21
                refine AW.cond_no rfl c21 ?_
                refine AW.exit ?_
                refine AW.seq ?_
                refine AW.region ?_
                refine s_assign (d := (sc (.int .u64 9223372036854775808))) rfl ?_
                refine AWops.nil ?_
                refine AW.seqJ (fun st => ∃ (x26 : Int), chars_Number.j4 ql3 x26 v2 x3 x19 = some r ∧ st = ⟨78, (upd 78 (upd 78 (upd 78 (upd 78 topF 4 (sc (.bool (v2 == 45)))) 6 (sc (.int .u64 x19))) 7 (sc (.bool (decide ((x3.size : Int) > 19))))) 10 (sc (.int .u64 x26))), []⟩) ?_ ?_
                · refine AW.seq ?_
                  refine AW.region ?_
                  refine s_move (d := (sc (.bool (v2 == 45)))) rfl ?_
                  refine s_not rfl ?_
                  refine AWops.nil ?_
                  by_cases c26 : (v2 == 45) = true
                  · replace h := (if_pos c26).symm.trans h
                    refine AW.cond_no rfl (by rw [c26] <;> rfl) ?_
                    refine AW.skip ?_
                    exact ⟨⟨78, (upd 78 (upd 78 (upd 78 (upd 78 topF 4 (sc (.bool (v2 == 45)))) 6 (sc (.int .u64 x19))) 7 (sc (.bool (decide ((x3.size : Int) > 19))))) 10 (sc (.int .u64 9223372036854775808))), []⟩, (Weak.gen (kk := 0) [] [] hx rfl (by decide) (by decide) rfl rfl rfl (le_upd (le_upd (le_upd (le_upd (le_top _) (.t (.one .sc))) (.t (.one .sc))) (.t (.one .sc))) (.t (.one .sc))) All2.nil), 9223372036854775808, h, rfl⟩
                  · replace h := (if_neg c26).symm.trans h
                    replace c26 := Bool.eq_false_iff.mpr c26
                    refine AW.cond_yes rfl (by rw [c26] <;> rfl) ?_
                    refine AW.region ?_
                    refine s_move (d := (sc (.int .u64 9223372036854775808))) rfl ?_
                    refine s_binI (v := (.int .u64 9223372036854775807)) rfl rfl (by rfl) ?_
                    refine s_assign (d := (sc (.int .u64 9223372036854775807))) rfl ?_
                    refine AWops.nil ?_
                    exact ⟨⟨78, (upd 78 (upd 78 (upd 78 (upd 78 topF 4 (sc (.bool (v2 == 45)))) 6 (sc (.int .u64 x19))) 7 (sc (.bool (decide ((x3.size : Int) > 19))))) 10 (sc (.int .u64 9223372036854775807))), []⟩, (Weak.gen (kk := 0) [] [] hx rfl (by decide) (by decide) rfl rfl rfl (le_upd (le_upd (le_upd (le_upd (le_top _) (.t (.one .sc))) (.t (.one .sc))) (.t (.one .sc))) (.t (.one .sc))) All2.nil), 9223372036854775807, h, rfl⟩
                · rintro st ⟨x26, h, rfl⟩
                  cases ql3 with
                  | zero => exact absurd h (by simp [chars_Number.j4])
                  | succ qj4 =>
                    replace h := (chars_Number.j4.eq_2 _ _ _ _ _).symm.trans h
                    refine AW.seq ?_
                    refine AW.block ?_
                    refine AW.seq ?_
                    refine AW.region ?_
                    refine s_move (d := (sc (.bool (decide ((x3.size : Int) > 19))))) rfl ?_
                    refine s_move (d := (sc (.bool (decide ((x3.size : Int) > 19))))) rfl ?_
                    by_cases c27 : (decide ((x3.size : Int) > 19)) = true
                    · replace h := (if_pos c27).symm.trans h
                      refine AWops.guard_no rfl (Nat.le_of_ble_eq_true rfl) rfl c27 ?_
                      refine AWops.guard_no rfl (Nat.le_of_ble_eq_true rfl) rfl c27 ?_
                      refine AWops.guard_no rfl (Nat.le_of_ble_eq_true rfl) rfl c27 ?_
                      refine s_pick_yes (d := (sc (.bool true))) rfl c27 rfl ?_
                      refine s_assign (d := (sc (.bool true))) rfl ?_
                      refine AWops.nil ?_
                      refine AW.cond_yes rfl rfl ?_
                      refine AW.seq ?_
                      refine AW.region ?_
                      refine s_assign (d := (sc (.int .i64 0))) rfl ?_
                      refine s_assign (d := (sc (.int .i64 4))) rfl ?_
                      refine AWops.nil ?_
                      refine AW.ret ?_
                      obtain rfl := Option.some.inj h
                      exact ⟨_, rfl, (Weak.gen (kk := 0) [] [] rfl rfl (by decide) (by decide) rfl rfl rfl (le_upd (le_top _) (DLe.tup (All2.cons (TLe.one .sc) (All2.cons (TLe.one .sc) All2.nil)))) All2.nil)⟩
                    · replace h := (if_neg c27).symm.trans h
                      replace c27 := Bool.eq_false_iff.mpr c27
                      refine AWops.guard_yes rfl (Nat.le_of_ble_eq_true rfl) rfl c27 ?_
                      refine s_move (d := (sc (.int .u64 x19))) rfl ?_
                      refine AWops.guard_yes rfl (Nat.le_of_ble_eq_true rfl) rfl c27 ?_
                      refine s_move (d := (sc (.int .u64 x26))) rfl ?_
                      refine AWops.guard_yes rfl (Nat.le_of_ble_eq_true rfl) rfl c27 ?_
                      refine s_binI (v := (.bool (decide (x19 > x26)))) rfl rfl rfl ?_
                      refine s_pick_no (d := (sc (.bool (decide (x19 > x26))))) rfl c27 rfl ?_
                      refine s_assign (d := (sc (.bool (decide (x19 > x26))))) rfl ?_
                      refine AWops.nil ?_
                      by_cases c28 : (decide (x19 > x26)) = true
                      · replace h := (if_pos c28).symm.trans h
                        refine AW.cond_yes rfl c28 ?_
                        refine AW.seq ?_
                        refine AW.region ?_
                        refine s_assign (d := (sc (.int .i64 0))) rfl ?_
                        refine s_assign (d := (sc (.int .i64 4))) rfl ?_
                        refine AWops.nil ?_
                        refine AW.ret ?_
                        obtain rfl := Option.some.inj h
                        exact ⟨_, rfl, (Weak.gen (kk := 0) [] [] rfl rfl (by decide) (by decide) rfl rfl rfl (le_upd (le_top _) (DLe.tup (All2.cons (TLe.one .sc) (All2.cons (TLe.one .sc) All2.nil)))) All2.nil)⟩
                      · replace h := (if_neg c28).symm.trans h
                        replace c28 := Bool.eq_false_iff.mpr c28
                        refine AW.cond_no rfl c28 ?_
                        refine AW.seq ?_
                        refine AW.region ?_
                        refine s_move (d := (sc (.bool (v2 == 45)))) rfl ?_
                        refine s_assign (d := (sc (.bool (v2 == 45)))) rfl ?_
                        refine AWops.nil ?_
                        by_cases c29 : (v2 == 45) = true
                        · replace h := (if_pos c29).symm.trans h
                          refine AW.cond_yes rfl c29 ?_
                          refine AW.seq ?_
                          refine AW.region ?_
                          refine s_move (d := (sc (.int .u64 x19))) rfl ?_
                          refine s_convI F.u_45 F.u_3 rfl ?_
                          refine s_unI (v := (.int .i64 (IntKind.i64.wrap (0 - (IntKind.i64.wrap x19))))) rfl rfl ?_
                          refine s_assign (d := (sc (.int .i64 (IntKind.i64.wrap (0 - (IntKind.i64.wrap x19)))))) rfl ?_
                          refine s_assign (d := (sc (.int .i64 0))) rfl ?_
                          refine AWops.nil ?_
                          refine AW.ret ?_
                          obtain rfl := Option.some.inj h
                          exact ⟨_, rfl, (Weak.gen (kk := 0) [] [] rfl rfl (by decide) (by decide) rfl rfl rfl (le_upd (le_top _) (DLe.tup (All2.cons (TLe.one .sc) (All2.cons (TLe.one .sc) All2.nil)))) All2.nil)⟩
                        · replace h := (if_neg c29).symm.trans h
                          replace c29 := Bool.eq_false_iff.mpr c29
                          refine AW.cond_no rfl c29 ?_
                          refine AW.skip ?_
                          refine AW.seq ?_
                          refine AW.region ?_
                          refine s_move (d := (sc (.int .u64 x19))) rfl ?_
                          refine s_convI F.u_45 F.u_3 rfl ?_
                          refine s_assign (d := (sc (.int .i64 (IntKind.i64.wrap x19)))) rfl ?_
                          refine s_assign (d := (sc (.int .i64 0))) rfl ?_
                          refine AWops.nil ?_
                          refine AW.ret ?_
                          obtain rfl := Option.some.inj h
                          exact ⟨_, rfl, (Weak.gen (kk := 0) [] [] rfl rfl (by decide) (by decide) rfl rfl rfl (le_upd (le_top _) (DLe.tup (All2.cons (TLe.one .sc) (All2.cons (TLe.one .sc) All2.nil)))) All2.nil)⟩
  · replace h := (if_neg c1).symm.trans h
    replace c1 := Bool.eq_false_iff.mpr c1
    refine AWops.guard_no rfl (Nat.le_of_ble_eq_true rfl) rfl c1 ?_
    refine AWops.guard_no rfl (Nat.le_of_ble_eq_true rfl) rfl c1 ?_
    refine AWops.guard_no rfl (Nat.le_of_ble_eq_true rfl) rfl c1 ?_
    refine s_pick_no (d := (sc (.bool false))) rfl c1 rfl ?_
    refine s_assign (d := (sc (.bool false))) rfl ?_
    refine AWops.nil ?_
    refine AW.seq ?_
    refine AW.region ?_
    refine s_move (d := (sc (.string a0))) rfl ?_
    refine s_assign (d := (sc (.string a0))) rfl ?_
    refine AWops.nil ?_
    refine AW.seq ?_
    refine AW.seq ?_
    refine AW.region ?_
    refine s_move (d := (sc (.bool false))) rfl ?_
    refine AWops.nil ?_
    refine AW.cond_no rfl rfl ?_
    refine AW.skip ?_
    refine AW.seq ?_
    refine AW.seq ?_
    refine AW.region ?_
    refine s_move (d := (sc (.string a0))) rfl ?_
    refine s_binS (v := (.bool (a0.toList == (⟨#[]⟩ : ByteArray).toList))) rfl rfl rfl ?_
    refine s_move (d := (sc (.bool (a0.toList == (⟨#[]⟩ : ByteArray).toList)))) rfl ?_
    by_cases c30 : (a0.toList == (⟨#[]⟩ : ByteArray).toList) = true
    · replace h := (if_pos c30).symm.trans h
      refine AWops.guard_no rfl (Nat.le_of_ble_eq_true rfl) rfl c30 ?_
      refine AWops.guard_no rfl (Nat.le_of_ble_eq_true rfl) rfl c30 ?_
      refine AWops.guard_no rfl (Nat.le_of_ble_eq_true rfl) rfl c30 ?_
      refine AWops.guard_no rfl (Nat.le_of_ble_eq_true rfl) rfl c30 ?_
      refine AWops.guard_undef rfl rfl ?_
      refine AWops.guard_undef rfl rfl ?_
      refine AWops.guard_undef rfl rfl ?_
      refine AWops.guard_no rfl (Nat.le_of_ble_eq_true rfl) rfl c30 ?_
      refine s_pick_yes (d := (sc (.bool true))) rfl c30 rfl ?_
      refine AWops.nil ?_
      refine AW.cond_yes rfl rfl ?_
      refine AW.seq ?_
      refine AW.region ?_
      refine s_assign (d := (sc (.int .i64 0))) rfl ?_
      refine s_assign (d := (sc (.int .i64 5))) rfl ?_
      refine AWops.nil ?_
      refine AW.ret ?_
      obtain rfl := Option.some.inj h
      exact ⟨_, rfl, (Weak.gen (kk := 0) [] [] rfl rfl (by decide) (by decide) rfl rfl rfl (le_upd (le_top _) (DLe.tup (All2.cons (TLe.one .sc) (All2.cons (TLe.one .sc) All2.nil)))) All2.nil)⟩
    · replace h := (if_neg c30).symm.trans h
      replace c30 := Bool.eq_false_iff.mpr c30
      refine AWops.guard_yes rfl (Nat.le_of_ble_eq_true rfl) rfl c30 ?_
      refine s_move (d := (sc (.string a0))) rfl ?_
      refine AWops.guard_yes rfl (Nat.le_of_ble_eq_true rfl) rfl c30 ?_
      obtain ⟨v31, ev31, h⟩ := Option.bind_eq_some_iff.mp h
      obtain ⟨pv31, bv31, gv31, rfl⟩ := bt_some ev31
      refine s_indexStr F.u_9 rfl rfl pv31 gv31 ?_
      generalize hzv31 : ((bv31.toNat : Nat) : Int) = v31 at *
      refine AWops.guard_yes rfl (Nat.le_of_ble_eq_true rfl) rfl c30 ?_
      refine s_binI (v := (.bool (v31 == 48))) rfl rfl rfl ?_
      refine AWops.guard_yes rfl (Nat.le_of_ble_eq_true rfl) rfl c30 ?_
      refine s_move (d := (sc (.bool (v31 == 48)))) rfl ?_
      by_cases c32 : (v31 == 48) = true
      · replace h := (if_pos c32).symm.trans h
        refine AWops.guard_yes rfl (Nat.le_of_ble_eq_true rfl) rfl c32 ?_
        refine s_move (d := (sc (.string a0))) rfl ?_
        refine AWops.guard_yes rfl (Nat.le_of_ble_eq_true rfl) rfl c32 ?_
        refine s_len (n := a0.size) F.u_9 rfl (.inl ⟨⟨_, _, rfl⟩, rfl⟩) ?_
        refine AWops.guard_yes rfl (Nat.le_of_ble_eq_true rfl) rfl c32 ?_
        refine s_binI (v := (.bool (decide ((a0.size : Int) > 1)))) rfl rfl rfl ?_
        refine AWops.guard_yes rfl (Nat.le_of_ble_eq_true rfl) rfl c30 ?_
        refine s_pick_yes (d := (sc (.bool (decide ((a0.size : Int) > 1))))) rfl c32 rfl ?_
        refine s_pick_no (d := (sc (.bool (decide ((a0.size : Int) > 1))))) rfl c30 rfl ?_
        refine AWops.nil ?_
        by_cases c33 : (decide ((a0.size : Int) > 1)) = true
        · replace h := (if_pos c33).symm.trans h
          refine AW.cond_yes rfl c33 ?_
          refine AW.seq ?_
          refine AW.region ?_
          refine s_assign (d := (sc (.int .i64 0))) rfl ?_
          refine s_assign (d := (sc (.int .i64 5))) rfl ?_
          refine AWops.nil ?_
          refine AW.ret ?_
          obtain rfl := Option.some.inj h
          exact ⟨_, rfl, (Weak.gen (kk := 0) [] [] rfl rfl (by decide) (by decide) rfl rfl rfl (le_upd (le_top _) (DLe.tup (All2.cons (TLe.one .sc) (All2.cons (TLe.one .sc) All2.nil)))) All2.nil)⟩
        · replace h := (if_neg c33).symm.trans h
          replace c33 := Bool.eq_false_iff.mpr c33
          refine AW.cond_no rfl c33 ?_
          refine AW.skip ?_
          refine AW.seq ?_
          refine AW.region ?_
          refine s_assign (d := (sc (.int .u64 0))) rfl ?_
          refine AWops.nil ?_
          refine AW.seq ?_
          refine AW.region ?_
          refine s_move (d := (sc (.string a0))) rfl ?_
          refine s_len (n := a0.size) F.u_9 rfl (.inl ⟨⟨_, _, rfl⟩, rfl⟩) ?_
          refine s_binI (v := (.bool (decide ((a0.size : Int) > 19)))) rfl rfl rfl ?_
          refine s_assign (d := (sc (.bool (decide ((a0.size : Int) > 19))))) rfl ?_
          refine AWops.nil ?_
          refine AW.seq ?_
          refine AW.seq ?_
          refine AW.region ?_
          refine s_move (d := (sc (.string a0))) rfl ?_
          refine t_ofStr F.u_9 F.u_31 F.u_5 rfl ?_
          refine s_len (n := (bytesI a0).length) F.u_31 rfl (.inr ⟨(fun _ _ h => by cases h), ⟨_, rfl⟩⟩) ?_
          refine s_move (d := (sc (.int .i64 0))) rfl ?_
          refine AWops.nil ?_
          refine AW.block ?_
          refine AW.loopw (st0 := ⟨78, (upd 78 (upd 78 (upd 78 (upd 78 (upd 78 (upd 78 topF 4 (sc (.bool false))) 6 (sc (.int .u64 0))) 7 (sc (.bool (decide ((a0.size : Int) > 19))))) 39 (D.one (C.p false (.sl (bytesI a0).length ((bytesI a0).flatMap e_u8))))) 40 (sc (.int .i64 ((bytesI a0).length : Int)))) 41 (sc (.int .i64 0))), []⟩) (fun kv st => kv ≤ k ∧ ∃ (x34 : Int) (x35 : Int), chars_Number.l5 kv x34 x35 a0 = some r ∧ st = ⟨78, (upd 78 (upd 78 (upd 78 (upd 78 (upd 78 (upd 78 topF 4 (sc (.bool false))) 6 (sc (.int .u64 x34))) 7 (sc (.bool (decide ((a0.size : Int) > 19))))) 39 (D.one (C.p false (.sl (bytesI a0).length ((bytesI a0).flatMap e_u8))))) 40 (sc (.int .i64 ((bytesI a0).length : Int)))) 41 (sc (.int .i64 x35))), []⟩) (k := k) (Weak.gen (kk := 0) [] [] hx rfl (by decide) (by decide) rfl rfl rfl (le_upd (le_upd (le_upd (le_upd (le_upd (le_upd (le_top _) (.t (.one .sc))) (.t (.one .sc))) (.t (.one .sc))) (.t (.one .same))) (.t (.one .sc))) (.t (.one .sc))) All2.nil) ⟨Nat.le_refl _, 0, 0, h, rfl⟩ ?_
          rintro ql5 st ⟨hkl5, x34, x35, h, rfl⟩
          cases ql5 with
          | zero => exact absurd h (by simp [chars_Number.l5])
          | succ ql5 =>
            replace h := (chars_Number.l5.eq_2 _ _ _ _).symm.trans h
            refine AW.seq ?_
            refine AW.region ?_
            refine s_binI (v := (.bool (decide (x35 < ((bytesI a0).length : Int))))) rfl rfl rfl ?_
            refine AWops.nil ?_
            refine AW.seq ?_
            by_cases c36 : (decide (x35 < ((bytesI a0).length : Int))) = true
            · replace h := (if_pos c36).symm.trans h
              refine AW.cond_yes rfl c36 ?_
              refine AW.skip ?_
              refine AW.seq ?_
              refine AW.block ?_
              refine AW.seq ?_
              refine AW.region ?_
              obtain ⟨v37, ev37, h⟩ := Option.bind_eq_some_iff.mp h
              obtain ⟨pv37, qv37, gv37⟩ := rd_some ev37
              refine s_indexImm (ps := [P.v (.int .u8 v37)]) F.u_31 F.sz_5 rfl rfl pv37 qv37 (flat_at e_u8_len gv37 (e_u8_eq v37)) ?_
              refine s_load1 (c' := (C.p true (.v (.int .u8 v37)))) F.ag_5 rfl rfl ?_
              refine s_assign (d := (sc (.int .u8 v37))) rfl ?_
              refine AWops.nil ?_
              refine AW.seq ?_
              refine AW.seq ?_
              refine AW.region ?_
              refine s_move (d := (sc (.int .u8 v37))) rfl ?_
              refine s_binI (v := (.bool (decide (v37 < 48)))) rfl rfl rfl ?_
              refine s_move (d := (sc (.bool (decide (v37 < 48))))) rfl ?_
              by_cases c38 : (decide (v37 < 48)) = true
              · replace h := (if_pos c38).symm.trans h
                refine AWops.guard_no rfl (Nat.le_of_ble_eq_true rfl) rfl c38 ?_
                refine AWops.guard_no rfl (Nat.le_of_ble_eq_true rfl) rfl c38 ?_
                refine s_pick_yes (d := (sc (.bool true))) rfl c38 rfl ?_
                refine AWops.nil ?_
                refine AW.cond_yes rfl rfl ?_
                refine AW.seq ?_
                refine AW.region ?_
                refine s_assign (d := (sc (.int .i64 0))) rfl ?_
                refine s_assign (d := (sc (.int .i64 5))) rfl ?_
                refine AWops.nil ?_
                refine AW.ret ?_
                obtain rfl := Option.some.inj h
                exact ⟨_, rfl, (Weak.gen (kk := 0) [] [] rfl rfl (by decide) (by decide) rfl rfl rfl (le_upd (le_top _) (DLe.tup (All2.cons (TLe.one .sc) (All2.cons (TLe.one .sc) All2.nil)))) All2.nil)⟩
              · replace h := (if_neg c38).symm.trans h
                replace c38 := Bool.eq_false_iff.mpr c38
                refine AWops.guard_yes rfl (Nat.le_of_ble_eq_true rfl) rfl c38 ?_
                refine s_move (d := (sc (.int .u8 v37))) rfl ?_
                refine AWops.guard_yes rfl (Nat.le_of_ble_eq_true rfl) rfl c38 ?_
                refine s_binI (v := (.bool (decide (v37 > 57)))) rfl rfl rfl ?_
                refine s_pick_no (d := (sc (.bool (decide (v37 > 57))))) rfl c38 rfl ?_
                refine AWops.nil ?_
                by_cases c39 : (decide (v37 > 57)) = true
                · replace h := (if_pos c39).symm.trans h
                  refine AW.cond_yes rfl c39 ?_
                  refine AW.seq ?_
                  refine AW.region ?_
                  refine s_assign (d := (sc (.int .i64 0))) rfl ?_
                  refine s_assign (d := (sc (.int .i64 5))) rfl ?_
                  refine AWops.nil ?_
                  refine AW.ret ?_
                  obtain rfl := Option.some.inj h
                  exact ⟨_, rfl, (Weak.gen (kk := 0) [] [] rfl rfl (by decide) (by decide) rfl rfl rfl (le_upd (le_top _) (DLe.tup (All2.cons (TLe.one .sc) (All2.cons (TLe.one .sc) All2.nil)))) All2.nil)⟩
                · replace h := (if_neg c39).symm.trans h
                  replace c39 := Bool.eq_false_iff.mpr c39
                  refine AW.cond_no rfl c39 ?_
                  refine AW.skip ?_
                  refine AW.seq ?_
                  refine AW.region ?_
                  refine s_move (d := (sc (.bool (decide ((a0.size : Int) > 19))))) rfl ?_
                  refine s_not rfl ?_
                  refine AWops.nil ?_
                  by_cases c40 : (decide ((a0.size : Int) > 19)) = true
                  · replace h := (if_pos c40).symm.trans h
                    refine AW.cond_no rfl (by rw [c40] <;> rfl) ?_
                    refine AW.skip ?_
                    refine AW.region ?_
                    refine s_binI (v := (.int .i64 (IntKind.i64.wrap (x35 + 1)))) rfl rfl rfl ?_
                    refine s_move (d := (sc (.int .i64 (IntKind.i64.wrap (x35 + 1))))) rfl ?_
                    refine AWops.nil ?_
                    exact ⟨_, ⟨78, (upd 78 (upd 78 (upd 78 (upd 78 (upd 78 (upd 78 topF 4 (sc (.bool false))) 6 (sc (.int .u64 x34))) 7 (sc (.bool (decide ((a0.size : Int) > 19))))) 39 (D.one (C.p false (.sl (bytesI a0).length ((bytesI a0).flatMap e_u8))))) 40 (sc (.int .i64 ((bytesI a0).length : Int)))) 41 (sc (.int .i64 (IntKind.i64.wrap (x35 + 1))))), []⟩, by omega, (Weak.gen (kk := 0) [] [] hx rfl (by decide) (by decide) rfl rfl rfl (le_upd (le_upd (le_upd (le_upd (le_upd (le_upd (le_top _) (.t (.one .sc))) (.t (.one .sc))) (.t (.one .sc))) (.t (.one .same))) (.t (.one .sc))) (.t (.one .sc))) All2.nil), by omega, x34, IntKind.i64.wrap (x35 + 1), h, rfl⟩
                  · replace h := (if_neg c40).symm.trans h
                    replace c40 := Bool.eq_false_iff.mpr c40
                    refine AW.cond_yes rfl (by rw [c40] <;> rfl) ?_
                    refine AW.region ?_
                    refine s_move (d := (sc (.int .u64 x34))) rfl ?_
                    refine s_binI (v := (.int .u64 (IntKind.u64.wrap (10 * x34)))) rfl rfl rfl ?_
                    refine s_move (d := (sc (.int .u8 v37))) rfl ?_
                    refine s_binI (v := (.int .u8 (IntKind.u8.wrap (v37 - 48)))) rfl rfl rfl ?_
                    refine s_convI F.u_5 F.u_45 rfl ?_
                    refine s_binI (v := (.int .u64 (IntKind.u64.wrap ((IntKind.u64.wrap (10 * x34)) + (IntKind.u64.wrap (IntKind.u8.wrap (v37 - 48))))))) rfl rfl rfl ?_
                    refine s_assign (d := (sc (.int .u64 (IntKind.u64.wrap ((IntKind.u64.wrap (10 * x34)) + (IntKind.u64.wrap (IntKind.u8.wrap (v37 - 48)))))))) rfl ?_
                    refine AWops.nil ?_
                    refine AW.region ?_
                    refine s_binI (v := (.int .i64 (IntKind.i64.wrap (x35 + 1)))) rfl rfl rfl ?_
                    refine s_move (d := (sc (.int .i64 (IntKind.i64.wrap (x35 + 1))))) rfl ?_
                    refine AWops.nil ?_
                    exact ⟨_, ⟨78, (upd 78 (upd 78 (upd 78 (upd 78 (upd 78 (upd 78 topF 4 (sc (.bool false))) 6 (sc (.int .u64 (IntKind.u64.wrap ((IntKind.u64.wrap (10 * x34)) + (IntKind.u64.wrap (IntKind.u8.wrap (v37 - 48)))))))) 7 (sc (.bool (decide ((a0.size : Int) > 19))))) 39 (D.one (C.p false (.sl (bytesI a0).length ((bytesI a0).flatMap e_u8))))) 40 (sc (.int .i64 ((bytesI a0).length : Int)))) 41 (sc (.int .i64 (IntKind.i64.wrap (x35 + 1))))), []⟩, by omega, (Weak.gen (kk := 0) [] [] hx rfl (by decide) (by decide) rfl rfl rfl (le_upd (le_upd (le_upd (le_upd (le_upd (le_upd (le_top _) (.t (.one .sc))) (.t (.one .sc))) (.t (.one .sc))) (.t (.one .same))) (.t (.one .sc))) (.t (.one .sc))) All2.nil), by omega, IntKind.u64.wrap ((IntKind.u64.wrap (10 * x34)) + (IntKind.u64.wrap (IntKind.u8.wrap (v37 - 48)))), IntKind.i64.wrap (x35 + 1), h, rfl⟩
            · replace h := (if_neg c36).symm.trans h
              replace c36 := Bool.eq_false_iff.mpr c36
              refine AW.cond_no rfl c36 ?_
              refine AW.exit ?_
              refine AW.seq ?_
              refine AW.region ?_
              refine s_assign (d := (sc (.int .u64 9223372036854775808))) rfl ?_
              refine AWops.nil ?_
              refine AW.seq ?_
              refine AW.seq ?_
              refine AW.region ?_
              refine s_move (d := (sc (.bool false))) rfl ?_
              refine s_not rfl ?_
              refine AWops.nil ?_
              refine AW.cond_yes rfl rfl ?_
              refine AW.region ?_
              refine s_move (d := (sc (.int .u64 9223372036854775808))) rfl ?_
              refine s_binI (v := (.int .u64 9223372036854775807)) rfl rfl (by rfl) ?_
              refine s_assign (d := (sc (.int .u64 9223372036854775807))) rfl ?_
              refine AWops.nil ?_
              refine AW.seq ?_
              refine AW.block ?_
              refine AW.seq ?_
              refine AW.region ?_
              refine s_move (d := (sc (.bool (decide ((a0.size : Int) > 19))))) rfl ?_
              refine s_move (d := (sc (.bool (decide ((a0.size : Int) > 19))))) rfl ?_
              by_cases c41 : (decide ((a0.size : Int) > 19)) = true
              · replace h := (if_pos c41).symm.trans h
                refine AWops.guard_no rfl (Nat.le_of_ble_eq_true rfl) rfl c41 ?_
                refine AWops.guard_no rfl (Nat.le_of_ble_eq_true rfl) rfl c41 ?_
                refine AWops.guard_no rfl (Nat.le_of_ble_eq_true rfl) rfl c41 ?_
                refine s_pick_yes (d := (sc (.bool true))) rfl c41 rfl ?_
                refine s_assign (d := (sc (.bool true))) rfl ?_
                refine AWops.nil ?_
                refine AW.cond_yes rfl rfl ?_
                refine AW.seq ?_
                refine AW.region ?_
                refine s_assign (d := (sc (.int .i64 0))) rfl ?_
                refine s_assign (d := (sc (.int .i64 4))) rfl ?_
                refine AWops.nil ?_
                refine AW.ret ?_
                obtain rfl := Option.some.inj h
                exact ⟨_, rfl, (Weak.gen (kk := 0) [] [] rfl rfl (by decide) (by decide) rfl rfl rfl (le_upd (le_top _) (DLe.tup (All2.cons (TLe.one .sc) (All2.cons (TLe.one .sc) All2.nil)))) All2.nil)⟩
              · replace h := (if_neg c41).symm.trans h
                replace c41 := Bool.eq_false_iff.mpr c41
                refine AWops.guard_yes rfl (Nat.le_of_ble_eq_true rfl) rfl c41 ?_
                refine s_move (d := (sc (.int .u64 x34))) rfl ?_
                refine AWops.guard_yes rfl (Nat.le_of_ble_eq_true rfl) rfl c41 ?_
                refine s_move (d := (sc (.int .u64 9223372036854775807))) rfl ?_
                refine AWops.guard_yes rfl (Nat.le_of_ble_eq_true rfl) rfl c41 ?_
                refine s_binI (v := (.bool (decide (x34 > 9223372036854775807)))) rfl rfl rfl ?_
                refine s_pick_no (d := (sc (.bool (decide (x34 > 9223372036854775807))))) rfl c41 rfl ?_
                refine s_assign (d := (sc (.bool (decide (x34 > 9223372036854775807))))) rfl ?_
                refine AWops.nil ?_
                by_cases c42 : (decide (x34 > 9223372036854775807)) = true
                · replace h := (if_pos c42).symm.trans h
                  refine AW.cond_yes rfl c42 ?_
                  refine AW.seq ?_
                  refine AW.region ?_
                  refine s_assign (d := (sc (.int .i64 0))) rfl ?_
                  refine s_assign (d := (sc (.int .i64 4))) rfl ?_
                  refine AWops.nil ?_
                  refine AW.ret ?_
                  obtain rfl := Option.some.inj h
                  exact ⟨_, rfl, (Weak.gen (kk := 0) [] [] rfl rfl (by decide) (by decide) rfl rfl rfl (le_upd (le_top _) (DLe.tup (All2.cons (TLe.one .sc) (All2.cons (TLe.one .sc) All2.nil)))) All2.nil)⟩
                · replace h := (if_neg c42).symm.trans h
                  replace c42 := Bool.eq_false_iff.mpr c42
                  refine AW.cond_no rfl c42 ?_
                  refine AW.seq ?_
                  refine AW.region ?_
                  refine s_move (d := (sc (.bool false))) rfl ?_
                  refine s_assign (d := (sc (.bool false))) rfl ?_
                  refine AWops.nil ?_
                  refine AW.cond_no rfl rfl ?_
                  refine AW.skip ?_
                  refine AW.seq ?_
                  refine AW.region ?_
                  refine s_move (d := (sc (.int .u64 x34))) rfl ?_
                  refine s_convI F.u_45 F.u_3 rfl ?_
                  refine s_assign (d := (sc (.int .i64 (IntKind.i64.wrap x34)))) rfl ?_
                  refine s_assign (d := (sc (.int .i64 0))) rfl ?_
                  refine AWops.nil ?_
                  refine AW.ret ?_
                  obtain rfl := Option.some.inj h
                  exact ⟨_, rfl, (Weak.gen (kk := 0) [] [] rfl rfl (by decide) (by decide) rfl rfl rfl (le_upd (le_top _) (DLe.tup (All2.cons (TLe.one .sc) (All2.cons (TLe.one .sc) All2.nil)))) All2.nil)⟩
      · replace h := (if_neg c32).symm.trans h
        replace c32 := Bool.eq_false_iff.mpr c32
        refine AWops.guard_no rfl (Nat.le_of_ble_eq_true rfl) rfl c32 ?_
        refine AWops.guard_no rfl (Nat.le_of_ble_eq_true rfl) rfl c32 ?_
        refine AWops.guard_no rfl (Nat.le_of_ble_eq_true rfl) rfl c32 ?_
        refine AWops.guard_yes rfl (Nat.le_of_ble_eq_true rfl) rfl c30 ?_
        refine s_pick_no (d := (sc (.bool false))) rfl c32 rfl ?_
        refine s_pick_no (d := (sc (.bool false))) rfl c30 rfl ?_
        refine AWops.nil ?_
        refine AW.cond_no rfl rfl ?_
        refine AW.skip ?_
        refine AW.seq ?_
        refine AW.region ?_
        refine s_assign (d := (sc (.int .u64 0))) rfl ?_
        refine AWops.nil ?_
        refine AW.seq ?_
        refine AW.region ?_
        refine s_move (d := (sc (.string a0))) rfl ?_
        refine s_len (n := a0.size) F.u_9 rfl (.inl ⟨⟨_, _, rfl⟩, rfl⟩) ?_
        refine s_binI (v := (.bool (decide ((a0.size : Int) > 19)))) rfl rfl rfl ?_
        refine s_assign (d := (sc (.bool (decide ((a0.size : Int) > 19))))) rfl ?_
        refine AWops.nil ?_
        refine AW.seq ?_
        refine AW.seq ?_
        refine AW.region ?_
        refine s_move (d := (sc (.string a0))) rfl ?_
        refine t_ofStr F.u_9 F.u_31 F.u_5 rfl ?_
        refine s_len (n := (bytesI a0).length) F.u_31 rfl (.inr ⟨(fun _ _ h => by cases h), ⟨_, rfl⟩⟩) ?_
        refine s_move (d := (sc (.int .i64 0))) rfl ?_
        refine AWops.nil ?_
        refine AW.block ?_
        refine AW.loopw (st0 := ⟨78, (upd 78 (upd 78 (upd 78 (upd 78 (upd 78 (upd 78 topF 4 (sc (.bool false))) 6 (sc (.int .u64 0))) 7 (sc (.bool (decide ((a0.size : Int) > 19))))) 39 (D.one (C.p false (.sl (bytesI a0).length ((bytesI a0).flatMap e_u8))))) 40 (sc (.int .i64 ((bytesI a0).length : Int)))) 41 (sc (.int .i64 0))), []⟩) (fun kv st => kv ≤ k ∧ ∃ (x43 : Int) (x44 : Int), chars_Number.l6 kv x43 x44 a0 = some r ∧ st = ⟨78, (upd 78 (upd 78 (upd 78 (upd 78 (upd 78 (upd 78 topF 4 (sc (.bool false))) 6 (sc (.int .u64 x43))) 7 (sc (.bool (decide ((a0.size : Int) > 19))))) 39 (D.one (C.p false (.sl (bytesI a0).length ((bytesI a0).flatMap e_u8))))) 40 (sc (.int .i64 ((bytesI a0).length : Int)))) 41 (sc (.int .i64 x44))), []⟩) (k := k) (Weak.gen (kk := 0) [] [] hx rfl (by decide) (by decide) rfl rfl rfl (le_upd (le_upd (le_upd (le_upd (le_upd (le_upd (le_top _) (.t (.one .sc))) (.t (.one .sc))) (.t (.one .sc))) (.t (.one .same))) (.t (.one .sc))) (.t (.one .sc))) All2.nil) ⟨Nat.le_refl _, 0, 0, h, rfl⟩ ?_
        rintro ql6 st ⟨hkl6, x43, x44, h, rfl⟩
        cases ql6 with
        | zero => exact absurd h (by simp [chars_Number.l6])
        | succ ql6 =>
          replace h := (chars_Number.l6.eq_2 _ _ _ _).symm.trans h
          refine AW.seq ?_
          refine AW.region ?_
          refine s_binI (v := (.bool (decide (x44 < ((bytesI a0).length : Int))))) rfl rfl rfl ?_
          refine AWops.nil ?_
          refine AW.seq ?_
          by_cases c45 : (decide (x44 < ((bytesI a0).length : Int))) = true
          · replace h := (if_pos c45).symm.trans h
            refine AW.cond_yes rfl c45 ?_
            refine AW.skip ?_
            refine AW.seq ?_
            refine AW.block ?_
            refine AW.seq ?_
            refine AW.region ?_
            obtain ⟨v46, ev46, h⟩ := Option.bind_eq_some_iff.mp h
            obtain ⟨pv46, qv46, gv46⟩ := rd_some ev46
            refine s_indexImm (ps := [P.v (.int .u8 v46)]) F.u_31 F.sz_5 rfl rfl pv46 qv46 (flat_at e_u8_len gv46 (e_u8_eq v46)) ?_
            refine s_load1 (c' := (C.p true (.v (.int .u8 v46)))) F.ag_5 rfl rfl ?_
            refine s_assign (d := (sc (.int .u8 v46))) rfl ?_
            refine AWops.nil ?_
            refine AW.seq ?_
            refine AW.seq ?_
            refine AW.region ?_
            refine s_move (d := (sc (.int .u8 v46))) rfl ?_
            refine s_binI (v := (.bool (decide (v46 < 48)))) rfl rfl rfl ?_
            refine s_move (d := (sc (.bool (decide (v46 < 48))))) rfl ?_
            by_cases c47 : (decide (v46 < 48)) = true
            · replace h := (if_pos c47).symm.trans h
              refine AWops.guard_no rfl (Nat.le_of_ble_eq_true rfl) rfl c47 ?_
              refine AWops.guard_no rfl (Nat.le_of_ble_eq_true rfl) rfl c47 ?_
              refine s_pick_yes (d := (sc (.bool true))) rfl c47 rfl ?_
              refine AWops.nil ?_
              refine AW.cond_yes rfl rfl ?_
              refine AW.seq ?_
              refine AW.region ?_
              refine s_assign (d := (sc (.int .i64 0))) rfl ?_
              refine s_assign (d := (sc (.int .i64 5))) rfl ?_
              refine AWops.nil ?_
              refine AW.ret ?_
              obtain rfl := Option.some.inj h
              exact ⟨_, rfl, (Weak.gen (kk := 0) [] [] rfl rfl (by decide) (by decide) rfl rfl rfl (le_upd (le_top _) (DLe.tup (All2.cons (TLe.one .sc) (All2.cons (TLe.one .sc) All2.nil)))) All2.nil)⟩
            · replace h := (if_neg c47).symm.trans h
              replace c47 := Bool.eq_false_iff.mpr c47
              refine AWops.guard_yes rfl (Nat.le_of_ble_eq_true rfl) rfl c47 ?_
              refine s_move (d := (sc (.int .u8 v46))) rfl ?_
              refine AWops.guard_yes rfl (Nat.le_of_ble_eq_true rfl) rfl c47 ?_
              refine s_binI (v := (.bool (decide (v46 > 57)))) rfl rfl rfl ?_
              refine s_pick_no (d := (sc (.bool (decide (v46 > 57))))) rfl c47 rfl ?_
              refine AWops.nil ?_
              by_cases c48 : (decide (v46 > 57)) = true
              · replace h := (if_pos c48).symm.trans h
                refine AW.cond_yes rfl c48 ?_
                refine AW.seq ?_
                refine AW.region ?_
                refine s_assign (d := (sc (.int .i64 0))) rfl ?_
                refine s_assign (d := (sc (.int .i64 5))) rfl ?_
                refine AWops.nil ?_
                refine AW.ret ?_
                obtain rfl := Option.some.inj h
                exact ⟨_, rfl, (Weak.gen (kk := 0) [] [] rfl rfl (by decide) (by decide) rfl rfl rfl (le_upd (le_top _) (DLe.tup (All2.cons (TLe.one .sc) (All2.cons (TLe.one .sc) All2.nil)))) All2.nil)⟩
              · replace h := (if_neg c48).symm.trans h
                replace c48 := Bool.eq_false_iff.mpr c48
                refine AW.cond_no rfl c48 ?_
                refine AW.skip ?_
                refine AW.seq ?_
                refine AW.region ?_
                refine s_move (d := (sc (.bool (decide ((a0.size : Int) > 19))))) rfl ?_
                refine s_not rfl ?_
                refine AWops.nil ?_
                by_cases c49 : (decide ((a0.size : Int) > 19)) = true
                · replace h := (if_pos c49).symm.trans h
                  refine AW.cond_no rfl (by rw [c49] <;> rfl) ?_
                  refine AW.skip ?_
                  refine AW.region ?_
                  refine s_binI (v := (.int .i64 (IntKind.i64.wrap (x44 + 1)))) rfl rfl rfl ?_
                  refine s_move (d := (sc (.int .i64 (IntKind.i64.wrap (x44 + 1))))) rfl ?_
                  refine AWops.nil ?_
                  exact ⟨_, ⟨78, (upd 78 (upd 78 (upd 78 (upd 78 (upd 78 (upd 78 topF 4 (sc (.bool false))) 6 (sc (.int .u64 x43))) 7 (sc (.bool (decide ((a0.size : Int) > 19))))) 39 (D.one (C.p false (.sl (bytesI a0).length ((bytesI a0).flatMap e_u8))))) 40 (sc (.int .i64 ((bytesI a0).length : Int)))) 41 (sc (.int .i64 (IntKind.i64.wrap (x44 + 1))))), []⟩, by omega, (Weak.gen (kk := 0) [] [] hx rfl (by decide) (by decide) rfl rfl rfl (le_upd (le_upd (le_upd (le_upd (le_upd (le_upd (le_top _) (.t (.one .sc))) (.t (.one .sc))) (.t (.one .sc))) (.t (.one .same))) (.t (.one .sc))) (.t (.one .sc))) All2.nil), by omega, x43, IntKind.i64.wrap (x44 + 1), h, rfl⟩
                · replace h := (if_neg c49).symm.trans h
                  replace c49 := Bool.eq_false_iff.mpr c49
                  refine AW.cond_yes rfl (by rw [c49] <;> rfl) ?_
                  refine AW.region ?_
                  refine s_move (d := (sc (.int .u64 x43))) rfl ?_
                  refine s_binI (v := (.int .u64 (IntKind.u64.wrap (10 * x43)))) rfl rfl rfl ?_
                  refine s_move (d := (sc (.int .u8 v46))) rfl ?_
                  refine s_binI (v := (.int .u8 (IntKind.u8.wrap (v46 - 48)))) rfl rfl rfl ?_
                  refine s_convI F.u_5 F.u_45 rfl ?_
                  refine s_binI (v := (.int .u64 (IntKind.u64.wrap ((IntKind.u64.wrap (10 * x43)) + (IntKind.u64.wrap (IntKind.u8.wrap (v46 - 48))))))) rfl rfl rfl ?_
                  refine s_assign (d := (sc (.int .u64 (IntKind.u64.wrap ((IntKind.u64.wrap (10 * x43)) + (IntKind.u64.wrap (IntKind.u8.wrap (v46 - 48)))))))) rfl ?_
                  refine AWops.nil ?_
                  refine AW.region ?_
                  refine s_binI (v := (.int .i64 (IntKind.i64.wrap (x44 + 1)))) rfl rfl rfl ?_
                  refine s_move (d := (sc (.int .i64 (IntKind.i64.wrap (x44 + 1))))) rfl ?_
                  refine AWops.nil ?_
                  exact ⟨_, ⟨78, (upd 78 (upd 78 (upd 78 (upd 78 (upd 78 (upd 78 topF 4 (sc (.bool false))) 6 (sc (.int .u64 (IntKind.u64.wrap ((IntKind.u64.wrap (10 * x43)) + (IntKind.u64.wrap (IntKind.u8.wrap (v46 - 48)))))))) 7 (sc (.bool (decide ((a0.size : Int) > 19))))) 39 (D.one (C.p false (.sl (bytesI a0).length ((bytesI a0).flatMap e_u8))))) 40 (sc (.int .i64 ((bytesI a0).length : Int)))) 41 (sc (.int .i64 (IntKind.i64.wrap (x44 + 1))))), []⟩, by omega, (Weak.gen (kk := 0) [] [] hx rfl (by decide) (by decide) rfl rfl rfl (le_upd (le_upd (le_upd (le_upd (le_upd (le_upd (le_top _) (.t (.one .sc))) (.t (.one .sc))) (.t (.one .sc))) (.t (.one .same))) (.t (.one .sc))) (.t (.one .sc))) All2.nil), by omega, IntKind.u64.wrap ((IntKind.u64.wrap (10 * x43)) + (IntKind.u64.wrap (IntKind.u8.wrap (v46 - 48)))), IntKind.i64.wrap (x44 + 1), h, rfl⟩
          · replace h := (if_neg c45).symm.trans h
            replace c45 := Bool.eq_false_iff.mpr c45
            refine AW.cond_no rfl c45 ?_
            refine AW.exit ?_
            refine AW.seq ?_
            refine AW.region ?_
            refine s_assign (d := (sc (.int .u64 9223372036854775808))) rfl ?_
            refine AWops.nil ?_
            refine AW.seq ?_
            refine AW.seq ?_
            refine AW.region ?_
            refine s_move (d := (sc (.bool false))) rfl ?_
            refine s_not rfl ?_
            refine AWops.nil ?_
            refine AW.cond_yes rfl rfl ?_
            refine AW.region ?_
            refine s_move (d := (sc (.int .u64 9223372036854775808))) rfl ?_
            refine s_binI (v := (.int .u64 9223372036854775807)) rfl rfl (by rfl) ?_
            refine s_assign (d := (sc (.int .u64 9223372036854775807))) rfl ?_
            refine AWops.nil ?_
            refine AW.seq ?_
            refine AW.block ?_
            refine AW.seq ?_
            refine AW.region ?_
            refine s_move (d := (sc (.bool (decide ((a0.size : Int) > 19))))) rfl ?_
            refine s_move (d := (sc (.bool (decide ((a0.size : Int) > 19))))) rfl ?_
            by_cases c50 : (decide ((a0.size : Int) > 19)) = true
            · replace h := (if_pos c50).symm.trans h
              refine AWops.guard_no rfl (Nat.le_of_ble_eq_true rfl) rfl c50 ?_
              refine AWops.guard_no rfl (Nat.le_of_ble_eq_true rfl) rfl c50 ?_
              refine AWops.guard_no rfl (Nat.le_of_ble_eq_true rfl) rfl c50 ?_
              refine s_pick_yes (d := (sc (.bool true))) rfl c50 rfl ?_
              refine s_assign (d := (sc (.bool true))) rfl ?_
              refine AWops.nil ?_
              refine AW.cond_yes rfl rfl ?_
              refine AW.seq ?_
              refine AW.region ?_
              refine s_assign (d := (sc (.int .i64 0))) rfl ?_
              refine s_assign (d := (sc (.int .i64 4))) rfl ?_
              refine AWops.nil ?_
              refine AW.ret ?_
              obtain rfl := Option.some.inj h
              exact ⟨_, rfl, (Weak.gen (kk := 0) [] [] rfl rfl (by decide) (by decide) rfl rfl rfl (le_upd (le_top _) (DLe.tup (All2.cons (TLe.one .sc) (All2.cons (TLe.one .sc) All2.nil)))) All2.nil)⟩
            · replace h := (if_neg c50).symm.trans h
              replace c50 := Bool.eq_false_iff.mpr c50
              refine AWops.guard_yes rfl (Nat.le_of_ble_eq_true rfl) rfl c50 ?_
              refine s_move (d := (sc (.int .u64 x43))) rfl ?_
              refine AWops.guard_yes rfl (Nat.le_of_ble_eq_true rfl) rfl c50 ?_
              refine s_move (d := (sc (.int .u64 9223372036854775807))) rfl ?_
              refine AWops.guard_yes rfl (Nat.le_of_ble_eq_true rfl) rfl c50 ?_
              refine s_binI (v := (.bool (decide (x43 > 9223372036854775807)))) rfl rfl rfl ?_
              refine s_pick_no (d := (sc (.bool (decide (x43 > 9223372036854775807))))) rfl c50 rfl ?_
              refine s_assign (d := (sc (.bool (decide (x43 > 9223372036854775807))))) rfl ?_
              refine AWops.nil ?_
              by_cases c51 : (decide (x43 > 9223372036854775807)) = true
              · replace h := (if_pos c51).symm.trans h
                refine AW.cond_yes rfl c51 ?_
                refine AW.seq ?_
                refine AW.region ?_
                refine s_assign (d := (sc (.int .i64 0))) rfl ?_
                refine s_assign (d := (sc (.int .i64 4))) rfl ?_
                refine AWops.nil ?_
                refine AW.ret ?_
                obtain rfl := Option.some.inj h
                exact ⟨_, rfl, (Weak.gen (kk := 0) [] [] rfl rfl (by decide) (by decide) rfl rfl rfl (le_upd (le_top _) (DLe.tup (All2.cons (TLe.one .sc) (All2.cons (TLe.one .sc) All2.nil)))) All2.nil)⟩
              · replace h := (if_neg c51).symm.trans h
                replace c51 := Bool.eq_false_iff.mpr c51
                refine AW.cond_no rfl c51 ?_
                refine AW.seq ?_
                refine AW.region ?_
                refine s_move (d := (sc (.bool false))) rfl ?_
                refine s_assign (d := (sc (.bool false))) rfl ?_
                refine AWops.nil ?_
                refine AW.cond_no rfl rfl ?_
                refine AW.skip ?_
                refine AW.seq ?_
                refine AW.region ?_
                refine s_move (d := (sc (.int .u64 x43))) rfl ?_
                refine s_convI F.u_45 F.u_3 rfl ?_
                refine s_assign (d := (sc (.int .i64 (IntKind.i64.wrap x43)))) rfl ?_
                refine s_assign (d := (sc (.int .i64 0))) rfl ?_
                refine AWops.nil ?_
                refine AW.ret ?_
                obtain rfl := Option.some.inj h
                exact ⟨_, rfl, (Weak.gen (kk := 0) [] [] rfl rfl (by decide) (by decide) rfl rfl rfl (le_upd (le_top _) (DLe.tup (All2.cons (TLe.one .sc) (All2.cons (TLe.one .sc) All2.nil)))) All2.nil)⟩
mutual
def dossierref01_Text.f : Nat → Int → Option ByteArray
  | 0, _ => none
  | k + 1, a0 => if (decide (a0 < 0)) = true then (if (decide (a0 > (-10))) = true then ((dossierref01_Text.f k (IntKind.i64.wrap (0 - a0))).bind fun r3 => if (decide ((⟨#[45]⟩ : ByteArray).size + r3.size ≤ 9223372036854775807)) = true then (some ((⟨#[45]⟩ : ByteArray) ++ r3)) else none) else ((dossierref01_Text.f k (IntKind.i64.wrap (Int.tdiv a0 10))).bind fun r5 => (dossierref01_Text.f k (IntKind.i64.wrap (0 - (Int.tmod a0 10)))).bind fun r6 => if (decide (r5.size + r6.size ≤ 9223372036854775807)) = true then (some (r5 ++ r6)) else none)) else (if (decide (a0 < 10)) = true then (if (decide (0 ≤ a0 ∧ a0 ≤ (IntKind.i64.wrap (a0 + 1)) ∧ (IntKind.i64.wrap (a0 + 1)) ≤ ((⟨#[48, 49, 50, 51, 52, 53, 54, 55, 56, 57]⟩ : ByteArray).size : Int))) = true then (some ((⟨#[48, 49, 50, 51, 52, 53, 54, 55, 56, 57]⟩ : ByteArray).extract a0.toNat (IntKind.i64.wrap (a0 + 1)).toNat)) else none) else ((dossierref01_Text.f k (IntKind.i64.wrap (Int.tdiv a0 10))).bind fun r10 => (dossierref01_Text.f k (Int.tmod a0 10)).bind fun r11 => if (decide (r10.size + r11.size ≤ 9223372036854775807)) = true then (some (r10 ++ r11)) else none))
end
theorem dossierref01_Text.meets (k : Nat) : ∀ (a0 : Int) (r : ByteArray), dossierref01_Text.f k a0 = some r → Meets Tryd.prog 19 [(sc (.int .i64 a0))] [] (sc (.string r)) [] := by
  induction k using Nat.strongRecOn with
  | _ k ih =>
    cases k with
    | zero =>
      · intro a0 r h; exact absurd h (by simp [dossierref01_Text.f])
    | succ k =>
      · intro a0 r h
        replace h := (dossierref01_Text.f.eq_2 _ _).symm.trans h
        refine Meets.of_body (n := 32) Tryd.func19 rfl rfl (Nat.le_of_ble_eq_true rfl) fun x hx => ?_
        replace hx : x.k = 0 := hx
        show AW _ x _ _ ⟨32, fr0 [(sc (.int .i64 a0))], []⟩
        refine AW.seq ?_
        refine AW.region ?_
        refine s_assign (d := (sc (.string (⟨#[]⟩ : ByteArray)))) rfl ?_
        refine AWops.nil ?_
        refine AW.seq ?_
        refine AW.seq ?_
        refine AW.region ?_
        refine s_move (d := (sc (.int .i64 a0))) rfl ?_
        refine s_binI (v := (.bool (decide (a0 < 0)))) rfl rfl rfl ?_
        refine AWops.nil ?_
        by_cases c1 : (decide (a0 < 0)) = true
        · replace h := (if_pos c1).symm.trans h
          refine AW.cond_yes rfl c1 ?_
          refine AW.seq ?_
          refine AW.seq ?_
          refine AW.region ?_
          refine s_move (d := (sc (.int .i64 a0))) rfl ?_
          refine s_binI (v := (.bool (decide (a0 > (-10))))) rfl rfl rfl ?_
          refine AWops.nil ?_
          by_cases c2 : (decide (a0 > (-10))) = true
          · replace h := (if_pos c2).symm.trans h
            refine AW.cond_yes rfl c2 ?_
            refine AW.seq ?_
            refine AW.region ?_
            refine s_move (d := (sc (.int .i64 a0))) rfl ?_
            refine s_unI (v := (.int .i64 (IntKind.i64.wrap (0 - a0)))) rfl rfl ?_
            obtain ⟨r3, er3, h⟩ := Option.bind_eq_some_iff.mp h
            refine s_call2 (ρ := []) (br := false) (H2 := []) (d := (sc (.string r3))) F.ca_19 rfl rfl (All2.cons (.one .sc) All2.nil) All2.nil (by decide) rfl (ih _ (by omega) (IntKind.i64.wrap (0 - a0)) r3 er3) (.inl rfl) rfl rfl ?_
            by_cases c4 : (decide ((⟨#[45]⟩ : ByteArray).size + r3.size ≤ 9223372036854775807)) = true
            · replace h := (if_pos c4).symm.trans h
              refine s_binS (v := (.string ((⟨#[45]⟩ : ByteArray) ++ r3))) rfl rfl (if_neg (by have := of_decide_eq_true c4; omega)) ?_
              refine s_assign (d := (sc (.string ((⟨#[45]⟩ : ByteArray) ++ r3)))) rfl ?_
              refine AWops.nil ?_
              refine AW.ret ?_
              obtain rfl := Option.some.inj h
              exact ⟨_, rfl, (Weak.gen (kk := 0) [] [] rfl rfl (by decide) (by decide) rfl rfl rfl (le_upd (le_top _) (.t (.one .sc))) All2.nil)⟩
            · replace h := (if_neg c4).symm.trans h
              cases h
          · replace h := (if_neg c2).symm.trans h
            replace c2 := Bool.eq_false_iff.mpr c2
            refine AW.cond_no rfl c2 ?_
            refine AW.skip ?_
            refine AW.seq ?_
            refine AW.region ?_
            refine s_move (d := (sc (.int .i64 a0))) rfl ?_
            refine s_binI (v := (.int .i64 (IntKind.i64.wrap (Int.tdiv a0 10)))) rfl rfl rfl ?_
            obtain ⟨r5, er5, h⟩ := Option.bind_eq_some_iff.mp h
            refine s_call2 (ρ := []) (br := false) (H2 := []) (d := (sc (.string r5))) F.ca_19 rfl rfl (All2.cons (.one .sc) All2.nil) All2.nil (by decide) rfl (ih _ (by omega) (IntKind.i64.wrap (Int.tdiv a0 10)) r5 er5) (.inl rfl) rfl rfl ?_
            refine s_move (d := (sc (.int .i64 a0))) rfl ?_
            refine s_binI (v := (.int .i64 (Int.tmod a0 10))) rfl rfl rfl ?_
            refine s_unI (v := (.int .i64 (IntKind.i64.wrap (0 - (Int.tmod a0 10))))) rfl rfl ?_
            obtain ⟨r6, er6, h⟩ := Option.bind_eq_some_iff.mp h
            refine s_call2 (ρ := []) (br := false) (H2 := []) (d := (sc (.string r6))) F.ca_19 rfl rfl (All2.cons (.one .sc) All2.nil) All2.nil (by decide) rfl (ih _ (by omega) (IntKind.i64.wrap (0 - (Int.tmod a0 10))) r6 er6) (.inl rfl) rfl rfl ?_
            by_cases c7 : (decide (r5.size + r6.size ≤ 9223372036854775807)) = true
            · replace h := (if_pos c7).symm.trans h
              refine s_binS (v := (.string (r5 ++ r6))) rfl rfl (if_neg (by have := of_decide_eq_true c7; omega)) ?_
              refine s_assign (d := (sc (.string (r5 ++ r6)))) rfl ?_
              refine AWops.nil ?_
              refine AW.ret ?_
              obtain rfl := Option.some.inj h
              exact ⟨_, rfl, (Weak.gen (kk := 0) [] [] rfl rfl (by decide) (by decide) rfl rfl rfl (le_upd (le_top _) (.t (.one .sc))) All2.nil)⟩
            · replace h := (if_neg c7).symm.trans h
              cases h
        · replace h := (if_neg c1).symm.trans h
          replace c1 := Bool.eq_false_iff.mpr c1
          refine AW.cond_no rfl c1 ?_
          refine AW.skip ?_
          refine AW.seq ?_
          refine AW.seq ?_
          refine AW.region ?_
          refine s_move (d := (sc (.int .i64 a0))) rfl ?_
          refine s_binI (v := (.bool (decide (a0 < 10)))) rfl rfl rfl ?_
          refine AWops.nil ?_
          by_cases c8 : (decide (a0 < 10)) = true
          · replace h := (if_pos c8).symm.trans h
            refine AW.cond_yes rfl c8 ?_
            refine AW.seq ?_
            refine AW.region ?_
            refine s_move (d := (sc (.int .i64 a0))) rfl ?_
            refine s_move (d := (sc (.int .i64 a0))) rfl ?_
            refine s_binI (v := (.int .i64 (IntKind.i64.wrap (a0 + 1)))) rfl rfl rfl ?_
            by_cases c9 : (decide (0 ≤ a0 ∧ a0 ≤ (IntKind.i64.wrap (a0 + 1)) ∧ (IntKind.i64.wrap (a0 + 1)) ≤ ((⟨#[48, 49, 50, 51, 52, 53, 54, 55, 56, 57]⟩ : ByteArray).size : Int))) = true
            · replace h := (if_pos c9).symm.trans h
              have dc9 := of_decide_eq_true c9
              refine s_sliceStr F.u_9 rfl (.yes rfl (by omega) rfl) (.yes rfl (by omega) rfl) (by omega) (by omega) ?_
              refine s_assign (d := (sc (.string ((⟨#[48, 49, 50, 51, 52, 53, 54, 55, 56, 57]⟩ : ByteArray).extract a0.toNat (IntKind.i64.wrap (a0 + 1)).toNat)))) rfl ?_
              refine AWops.nil ?_
              refine AW.ret ?_
              obtain rfl := Option.some.inj h
              exact ⟨_, rfl, (Weak.gen (kk := 0) [] [] rfl rfl (by decide) (by decide) rfl rfl rfl (le_upd (le_top _) (.t (.one .sc))) All2.nil)⟩
            · replace h := (if_neg c9).symm.trans h
              cases h
          · replace h := (if_neg c8).symm.trans h
            replace c8 := Bool.eq_false_iff.mpr c8
            refine AW.cond_no rfl c8 ?_
            refine AW.skip ?_
            refine AW.seq ?_
            refine AW.region ?_
            refine s_move (d := (sc (.int .i64 a0))) rfl ?_
            refine s_binI (v := (.int .i64 (IntKind.i64.wrap (Int.tdiv a0 10)))) rfl rfl rfl ?_
            obtain ⟨r10, er10, h⟩ := Option.bind_eq_some_iff.mp h
            refine s_call2 (ρ := []) (br := false) (H2 := []) (d := (sc (.string r10))) F.ca_19 rfl rfl (All2.cons (.one .sc) All2.nil) All2.nil (by decide) rfl (ih _ (by omega) (IntKind.i64.wrap (Int.tdiv a0 10)) r10 er10) (.inl rfl) rfl rfl ?_
            refine s_move (d := (sc (.int .i64 a0))) rfl ?_
            refine s_binI (v := (.int .i64 (Int.tmod a0 10))) rfl rfl rfl ?_
            obtain ⟨r11, er11, h⟩ := Option.bind_eq_some_iff.mp h
            refine s_call2 (ρ := []) (br := false) (H2 := []) (d := (sc (.string r11))) F.ca_19 rfl rfl (All2.cons (.one .sc) All2.nil) All2.nil (by decide) rfl (ih _ (by omega) (Int.tmod a0 10) r11 er11) (.inl rfl) rfl rfl ?_
            by_cases c12 : (decide (r10.size + r11.size ≤ 9223372036854775807)) = true
            · replace h := (if_pos c12).symm.trans h
              refine s_binS (v := (.string (r10 ++ r11))) rfl rfl (if_neg (by have := of_decide_eq_true c12; omega)) ?_
              refine s_assign (d := (sc (.string (r10 ++ r11)))) rfl ?_
              refine AWops.nil ?_
              refine AW.ret ?_
              obtain rfl := Option.some.inj h
              exact ⟨_, rfl, (Weak.gen (kk := 0) [] [] rfl rfl (by decide) (by decide) rfl rfl rfl (le_upd (le_top _) (.t (.one .sc))) All2.nil)⟩
            · replace h := (if_neg c12).symm.trans h
              cases h
mutual
def dossierref01_Number.j3 : Nat → Int → ByteArray → Option (Int × Int)
  | 0, _, _ => none
  | k + 1, x17, a0 => (dossierref01_Text.f k x17).bind fun r18 => if (r18.toList == a0.toList) = true then (some (x17, 0)) else (some (0, 4))
def dossierref01_Number.l2 : Nat → Int → Int → ByteArray → ByteArray → Option (Int × Int)
  | 0, _, _, _, _ => none
  | k + 1, x13, x14, a0, x1 => if (decide (x14 < (x1.size : Int))) = true then ((bt x1 x14).bind fun v16 => dossierref01_Number.l2 k (IntKind.i64.wrap ((IntKind.i64.wrap (10 * x13)) - (IntKind.i64.wrap (IntKind.u8.wrap (v16 - 48))))) (IntKind.i64.wrap (x14 + 1)) a0 x1) else (if ((x1.size : Int) == (a0.size : Int)) = true then (dossierref01_Number.j3 k (IntKind.i64.wrap (0 - x13)) a0) else (dossierref01_Number.j3 k x13 a0))
def dossierref01_Number.l1 : Nat → Int → ByteArray → ByteArray → Option (Int × Int)
  | 0, _, _, _ => none
  | k + 1, x6, a0, x1 => if (decide (x6 < (x1.size : Int))) = true then ((bt x1 x6).bind fun v8 => if (decide (v8 < 48)) = true then (some (0, 5)) else ((bt x1 x6).bind fun v10 => if (decide (v10 > 57)) = true then (some (0, 5)) else (dossierref01_Number.l1 k (IntKind.i64.wrap (x6 + 1)) a0 x1))) else (if (decide ((x1.size : Int) > 19)) = true then (some (0, 4)) else (dossierref01_Number.l2 k 0 0 a0 x1))
def dossierref01_Number.j6 : Nat → Int → ByteArray → Option (Int × Int)
  | 0, _, _ => none
  | k + 1, x31, a0 => (dossierref01_Text.f k x31).bind fun r32 => if (r32.toList == a0.toList) = true then (some (x31, 0)) else (some (0, 4))
def dossierref01_Number.l5 : Nat → Int → Int → ByteArray → ByteArray → Option (Int × Int)
  | 0, _, _, _, _ => none
  | k + 1, x27, x28, a0, x1 => if (decide (x28 < (x1.size : Int))) = true then ((bt x1 x28).bind fun v30 => dossierref01_Number.l5 k (IntKind.i64.wrap ((IntKind.i64.wrap (10 * x27)) - (IntKind.i64.wrap (IntKind.u8.wrap (v30 - 48))))) (IntKind.i64.wrap (x28 + 1)) a0 x1) else (if ((x1.size : Int) == (a0.size : Int)) = true then (dossierref01_Number.j6 k (IntKind.i64.wrap (0 - x27)) a0) else (dossierref01_Number.j6 k x27 a0))
def dossierref01_Number.l4 : Nat → Int → ByteArray → ByteArray → Option (Int × Int)
  | 0, _, _, _ => none
  | k + 1, x20, a0, x1 => if (decide (x20 < (x1.size : Int))) = true then ((bt x1 x20).bind fun v22 => if (decide (v22 < 48)) = true then (some (0, 5)) else ((bt x1 x20).bind fun v24 => if (decide (v24 > 57)) = true then (some (0, 5)) else (dossierref01_Number.l4 k (IntKind.i64.wrap (x20 + 1)) a0 x1))) else (if (decide ((x1.size : Int) > 19)) = true then (some (0, 4)) else (dossierref01_Number.l5 k 0 0 a0 x1))
def dossierref01_Number.j0 : Nat → ByteArray → ByteArray → Option (Int × Int)
  | 0, _, _ => none
  | k + 1, x1, a0 => if ((x1.size : Int) == 0) = true then (some (0, 5)) else ((bt x1 0).bind fun v3 => if (v3 == 48) = true then (if (decide ((a0.size : Int) > 1)) = true then (some (0, 5)) else (dossierref01_Number.l1 k 0 a0 x1)) else (dossierref01_Number.l4 k 0 a0 x1))
end
def dossierref01_Number.f (k : Nat) (a0 : ByteArray) : Option (Int × Int) := if (decide ((a0.size : Int) > 0)) = true then ((bt a0 0).bind fun v2 => if (v2 == 45) = true then (if (decide (0 ≤ 1 ∧ 1 ≤ (a0.size : Int) ∧ (a0.size : Int) ≤ (a0.size : Int))) = true then (dossierref01_Number.j0 k (a0.extract 1 a0.size) a0) else none) else (dossierref01_Number.j0 k a0 a0)) else (dossierref01_Number.j0 k a0 a0)
theorem dossierref01_Number.meets (k : Nat) (a0 : ByteArray) (r : Int × Int) (h : dossierref01_Number.f k a0 = some r) : Meets Tryd.prog 17 [(sc (.string a0))] [] (D.tup [(sc (.int .i64 r.1)), (sc (.int .i64 r.2))]) [] := by
  unfold dossierref01_Number.f at h
  refine Meets.of_body (n := 77) Tryd.func17 rfl rfl (Nat.le_of_ble_eq_true rfl) fun x hx => ?_
  replace hx : x.k = 0 := hx
  show AW _ x _ _ ⟨77, fr0 [(sc (.string a0))], []⟩
  refine AW.seq ?_
  refine AW.region ?_
  refine s_assign (d := (sc (.int .i64 0))) rfl ?_
  refine s_assign (d := (sc (.int .i64 0))) rfl ?_
  refine AWops.nil ?_
  refine AW.seq ?_
  refine AW.region ?_
  refine s_move (d := (sc (.string a0))) rfl ?_
  refine s_assign (d := (sc (.string a0))) rfl ?_
  refine AWops.nil ?_
  refine AW.seqJ (fun st => ∃ (x1 : ByteArray), dossierref01_Number.j0 k x1 a0 = some r ∧ st = ⟨77, (upd 77 (upd 77 topF 0 (sc (.string a0))) 4 (sc (.string x1))), []⟩) ?_ ?_
  · refine AW.seq ?_
    refine AW.region ?_
    refine s_move (d := (sc (.string a0))) rfl ?_
    refine s_len (n := a0.size) F.u_9 rfl (.inl ⟨⟨_, _, rfl⟩, rfl⟩) ?_
    refine s_binI (v := (.bool (decide ((a0.size : Int) > 0)))) rfl rfl rfl ?_
    refine s_move (d := (sc (.bool (decide ((a0.size : Int) > 0))))) rfl ?_
    by_cases c1 : (decide ((a0.size : Int) > 0)) = true
    · replace h := (if_pos c1).symm.trans h
      refine AWops.guard_yes rfl (Nat.le_of_ble_eq_true rfl) rfl c1 ?_
      refine s_move (d := (sc (.string a0))) rfl ?_
      refine AWops.guard_yes rfl (Nat.le_of_ble_eq_true rfl) rfl c1 ?_
      obtain ⟨v2, ev2, h⟩ := Option.bind_eq_some_iff.mp h
      obtain ⟨pv2, bv2, gv2, rfl⟩ := bt_some ev2
      refine s_indexStr F.u_9 rfl rfl pv2 gv2 ?_
      generalize hzv2 : ((bv2.toNat : Nat) : Int) = v2 at *
      refine AWops.guard_yes rfl (Nat.le_of_ble_eq_true rfl) rfl c1 ?_
      refine s_binI (v := (.bool (v2 == 45))) rfl rfl rfl ?_
      refine s_pick_yes (d := (sc (.bool (v2 == 45)))) rfl c1 rfl ?_
      refine AWops.nil ?_
      by_cases c3 : (v2 == 45) = true
      · replace h := (if_pos c3).symm.trans h
        refine AW.cond_yes rfl c3 ?_
        refine AW.region ?_
        refine s_move (d := (sc (.string a0))) rfl ?_
        by_cases c4 : (decide (0 ≤ 1 ∧ 1 ≤ (a0.size : Int) ∧ (a0.size : Int) ≤ (a0.size : Int))) = true
        · replace h := (if_pos c4).symm.trans h
          have dc4 := of_decide_eq_true c4
          refine s_sliceStr F.u_9 rfl (.yes rfl (by omega) rfl) .no (by omega) (by omega) ?_
          refine s_assign (d := (sc (.string (a0.extract 1 a0.size)))) rfl ?_
          refine AWops.nil ?_
          exact ⟨⟨77, (upd 77 (upd 77 topF 0 (sc (.string a0))) 4 (sc (.string (a0.extract 1 a0.size)))), []⟩, (Weak.gen (kk := 0) [] [] hx rfl (by decide) (by decide) rfl rfl rfl (le_upd (le_upd (le_top _) (.t (.one .sc))) (.t (.one .sc))) All2.nil), a0.extract 1 a0.size, h, rfl⟩
        · replace h := (if_neg c4).symm.trans h
          cases h
      · replace h := (if_neg c3).symm.trans h
        replace c3 := Bool.eq_false_iff.mpr c3
        refine AW.cond_no rfl c3 ?_
        refine AW.skip ?_
        exact ⟨⟨77, (upd 77 (upd 77 topF 0 (sc (.string a0))) 4 (sc (.string a0))), []⟩, (Weak.gen (kk := 0) [] [] hx rfl (by decide) (by decide) rfl rfl rfl (le_upd (le_upd (le_top _) (.t (.one .sc))) (.t (.one .sc))) All2.nil), a0, h, rfl⟩
    · replace h := (if_neg c1).symm.trans h
      replace c1 := Bool.eq_false_iff.mpr c1
      refine AWops.guard_no rfl (Nat.le_of_ble_eq_true rfl) rfl c1 ?_
      refine AWops.guard_no rfl (Nat.le_of_ble_eq_true rfl) rfl c1 ?_
      refine AWops.guard_no rfl (Nat.le_of_ble_eq_true rfl) rfl c1 ?_
      refine s_pick_no (d := (sc (.bool false))) rfl c1 rfl ?_
      refine AWops.nil ?_
      refine AW.cond_no rfl rfl ?_
      refine AW.skip ?_
      exact ⟨⟨77, (upd 77 (upd 77 topF 0 (sc (.string a0))) 4 (sc (.string a0))), []⟩, (Weak.gen (kk := 0) [] [] hx rfl (by decide) (by decide) rfl rfl rfl (le_upd (le_upd (le_top _) (.t (.one .sc))) (.t (.one .sc))) All2.nil), a0, h, rfl⟩
  · rintro st ⟨x1, h, rfl⟩
    cases k with
    | zero => exact absurd h (by simp [dossierref01_Number.j0])
    | succ qj0 =>
      replace h := (dossierref01_Number.j0.eq_2 _ _ _).symm.trans h
      refine AW.seq ?_
      refine AW.seq ?_
      refine AW.region ?_
      refine s_move (d := (sc (.string x1))) rfl ?_
      refine s_len (n := x1.size) F.u_9 rfl (.inl ⟨⟨_, _, rfl⟩, rfl⟩) ?_
      refine s_binI (v := (.bool ((x1.size : Int) == 0))) rfl rfl rfl ?_
      refine s_move (d := (sc (.bool ((x1.size : Int) == 0)))) rfl ?_
      by_cases c2 : ((x1.size : Int) == 0) = true
      · replace h := (if_pos c2).symm.trans h
        refine AWops.guard_no rfl (Nat.le_of_ble_eq_true rfl) rfl c2 ?_
        refine AWops.guard_no rfl (Nat.le_of_ble_eq_true rfl) rfl c2 ?_
        refine AWops.guard_no rfl (Nat.le_of_ble_eq_true rfl) rfl c2 ?_
        refine AWops.guard_no rfl (Nat.le_of_ble_eq_true rfl) rfl c2 ?_
        refine AWops.guard_undef rfl rfl ?_
        refine AWops.guard_undef rfl rfl ?_
        refine AWops.guard_undef rfl rfl ?_
        refine AWops.guard_no rfl (Nat.le_of_ble_eq_true rfl) rfl c2 ?_
        refine s_pick_yes (d := (sc (.bool true))) rfl c2 rfl ?_
        refine AWops.nil ?_
        refine AW.cond_yes rfl rfl ?_
        refine AW.seq ?_
        refine AW.region ?_
        refine s_assign (d := (sc (.int .i64 0))) rfl ?_
        refine s_assign (d := (sc (.int .i64 5))) rfl ?_
        refine AWops.nil ?_
        refine AW.ret ?_
        obtain rfl := Option.some.inj h
        exact ⟨_, rfl, (Weak.gen (kk := 0) [] [] rfl rfl (by decide) (by decide) rfl rfl rfl (le_upd (le_top _) (DLe.tup (All2.cons (TLe.one .sc) (All2.cons (TLe.one .sc) All2.nil)))) All2.nil)⟩
      · replace h := (if_neg c2).symm.trans h
        replace c2 := Bool.eq_false_iff.mpr c2
        refine AWops.guard_yes rfl (Nat.le_of_ble_eq_true rfl) rfl c2 ?_
        refine s_move (d := (sc (.string x1))) rfl ?_
        refine AWops.guard_yes rfl (Nat.le_of_ble_eq_true rfl) rfl c2 ?_
        obtain ⟨v3, ev3, h⟩ := Option.bind_eq_some_iff.mp h
        obtain ⟨pv3, bv3, gv3, rfl⟩ := bt_some ev3
        refine s_indexStr F.u_9 rfl rfl pv3 gv3 ?_
        generalize hzv3 : ((bv3.toNat : Nat) : Int) = v3 at *
        refine AWops.guard_yes rfl (Nat.le_of_ble_eq_true rfl) rfl c2 ?_
        refine s_binI (v := (.bool (v3 == 48))) rfl rfl rfl ?_
        refine AWops.guard_yes rfl (Nat.le_of_ble_eq_true rfl) rfl c2 ?_
        refine s_move (d := (sc (.bool (v3 == 48)))) rfl ?_
        by_cases c4 : (v3 == 48) = true
        · replace h := (if_pos c4).symm.trans h
          refine AWops.guard_yes rfl (Nat.le_of_ble_eq_true rfl) rfl c4 ?_
          refine s_move (d := (sc (.string a0))) rfl ?_
          refine AWops.guard_yes rfl (Nat.le_of_ble_eq_true rfl) rfl c4 ?_
          refine s_len (n := a0.size) F.u_9 rfl (.inl ⟨⟨_, _, rfl⟩, rfl⟩) ?_
          refine AWops.guard_yes rfl (Nat.le_of_ble_eq_true rfl) rfl c4 ?_
          refine s_binI (v := (.bool (decide ((a0.size : Int) > 1)))) rfl rfl rfl ?_
          refine AWops.guard_yes rfl (Nat.le_of_ble_eq_true rfl) rfl c2 ?_
          refine s_pick_yes (d := (sc (.bool (decide ((a0.size : Int) > 1))))) rfl c4 rfl ?_
          refine s_pick_no (d := (sc (.bool (decide ((a0.size : Int) > 1))))) rfl c2 rfl ?_
          refine AWops.nil ?_
          by_cases c5 : (decide ((a0.size : Int) > 1)) = true
          · replace h := (if_pos c5).symm.trans h
            refine AW.cond_yes rfl c5 ?_
            refine AW.seq ?_
            refine AW.region ?_
            refine s_assign (d := (sc (.int .i64 0))) rfl ?_
            refine s_assign (d := (sc (.int .i64 5))) rfl ?_
            refine AWops.nil ?_
            refine AW.ret ?_
            obtain rfl := Option.some.inj h
            exact ⟨_, rfl, (Weak.gen (kk := 0) [] [] rfl rfl (by decide) (by decide) rfl rfl rfl (le_upd (le_top _) (DLe.tup (All2.cons (TLe.one .sc) (All2.cons (TLe.one .sc) All2.nil)))) All2.nil)⟩
          · replace h := (if_neg c5).symm.trans h
            replace c5 := Bool.eq_false_iff.mpr c5
            refine AW.cond_no rfl c5 ?_
            refine AW.skip ?_
            refine AW.seq ?_
            refine AW.seq ?_
            refine AW.region ?_
            refine s_move (d := (sc (.string x1))) rfl ?_
            refine s_len (n := x1.size) F.u_9 rfl (.inl ⟨⟨_, _, rfl⟩, rfl⟩) ?_
            refine s_move (d := (sc (.int .i64 0))) rfl ?_
            refine AWops.nil ?_
            refine AW.block ?_
            refine AW.loopw (st0 := ⟨77, (upd 77 (upd 77 (upd 77 (upd 77 topF 0 (sc (.string a0))) 4 (sc (.string x1))) 33 (sc (.int .i64 (x1.size : Int)))) 34 (sc (.int .i64 0))), []⟩) (fun kv st => kv ≤ qj0 ∧ ∃ (x6 : Int), dossierref01_Number.l1 kv x6 a0 x1 = some r ∧ st = ⟨77, (upd 77 (upd 77 (upd 77 (upd 77 topF 0 (sc (.string a0))) 4 (sc (.string x1))) 33 (sc (.int .i64 (x1.size : Int)))) 34 (sc (.int .i64 x6))), []⟩) (k := qj0) (Weak.gen (kk := 0) [] [] hx rfl (by decide) (by decide) rfl rfl rfl (le_upd (le_upd (le_upd (le_upd (le_top _) (.t (.one .sc))) (.t (.one .sc))) (.t (.one .sc))) (.t (.one .sc))) All2.nil) ⟨Nat.le_refl _, 0, h, rfl⟩ ?_
            rintro ql1 st ⟨hkl1, x6, h, rfl⟩
            cases ql1 with
            | zero => exact absurd h (by simp [dossierref01_Number.l1])
            | succ ql1 =>
              replace h := (dossierref01_Number.l1.eq_2 _ _ _ _).symm.trans h
              refine AW.seq ?_
              refine AW.region ?_
              refine s_binI (v := (.bool (decide (x6 < (x1.size : Int))))) rfl rfl rfl ?_
              refine AWops.nil ?_
              refine AW.seq ?_
              by_cases c7 : (decide (x6 < (x1.size : Int))) = true
              · replace h := (if_pos c7).symm.trans h
                refine AW.cond_yes rfl c7 ?_
                refine AW.skip ?_
                refine AW.seq ?_
                refine AW.block ?_
                refine AW.seq ?_
                refine AW.region ?_
                refine s_move (d := (sc (.int .i64 x6))) rfl ?_
                refine s_assign (d := (sc (.int .i64 x6))) rfl ?_
                refine AWops.nil ?_
                refine AW.seq ?_
                refine AW.region ?_
                refine s_move (d := (sc (.string x1))) rfl ?_
                refine s_move (d := (sc (.int .i64 x6))) rfl ?_
                obtain ⟨v8, ev8, h⟩ := Option.bind_eq_some_iff.mp h
                obtain ⟨pv8, bv8, gv8, rfl⟩ := bt_some ev8
                refine s_indexStr F.u_9 rfl rfl pv8 gv8 ?_
                generalize hzv8 : ((bv8.toNat : Nat) : Int) = v8 at *
                refine s_binI (v := (.bool (decide (v8 < 48)))) rfl rfl rfl ?_
                refine s_move (d := (sc (.bool (decide (v8 < 48))))) rfl ?_
                by_cases c9 : (decide (v8 < 48)) = true
                · replace h := (if_pos c9).symm.trans h
                  refine AWops.guard_no rfl (Nat.le_of_ble_eq_true rfl) rfl c9 ?_
                  refine AWops.guard_no rfl (Nat.le_of_ble_eq_true rfl) rfl c9 ?_
                  refine AWops.guard_no rfl (Nat.le_of_ble_eq_true rfl) rfl c9 ?_
                  refine AWops.guard_no rfl (Nat.le_of_ble_eq_true rfl) rfl c9 ?_
                  refine s_pick_yes (d := (sc (.bool true))) rfl c9 rfl ?_
                  refine AWops.nil ?_
                  refine AW.cond_yes rfl rfl ?_
                  refine AW.seq ?_
                  refine AW.region ?_
                  refine s_assign (d := (sc (.int .i64 0))) rfl ?_
                  refine s_assign (d := (sc (.int .i64 5))) rfl ?_
                  refine AWops.nil ?_
                  refine AW.ret ?_
                  obtain rfl := Option.some.inj h
                  exact ⟨_, rfl, (Weak.gen (kk := 0) [] [] rfl rfl (by decide) (by decide) rfl rfl rfl (le_upd (le_top _) (DLe.tup (All2.cons (TLe.one .sc) (All2.cons (TLe.one .sc) All2.nil)))) All2.nil)⟩
                · replace h := (if_neg c9).symm.trans h
                  replace c9 := Bool.eq_false_iff.mpr c9
                  refine AWops.guard_yes rfl (Nat.le_of_ble_eq_true rfl) rfl c9 ?_
                  refine s_move (d := (sc (.string x1))) rfl ?_
                  refine AWops.guard_yes rfl (Nat.le_of_ble_eq_true rfl) rfl c9 ?_
                  refine s_move (d := (sc (.int .i64 x6))) rfl ?_
                  refine AWops.guard_yes rfl (Nat.le_of_ble_eq_true rfl) rfl c9 ?_
                  obtain ⟨v10, ev10, h⟩ := Option.bind_eq_some_iff.mp h
                  obtain ⟨pv10, bv10, gv10, rfl⟩ := bt_some ev10
                  refine s_indexStr F.u_9 rfl rfl pv10 gv10 ?_
                  generalize hzv10 : ((bv10.toNat : Nat) : Int) = v10 at *
                  refine AWops.guard_yes rfl (Nat.le_of_ble_eq_true rfl) rfl c9 ?_
                  refine s_binI (v := (.bool (decide (v10 > 57)))) rfl rfl rfl ?_
                  refine s_pick_no (d := (sc (.bool (decide (v10 > 57))))) rfl c9 rfl ?_
                  refine AWops.nil ?_
                  by_cases c11 : (decide (v10 > 57)) = true
                  · replace h := (if_pos c11).symm.trans h
                    refine AW.cond_yes rfl c11 ?_
                    refine AW.seq ?_
                    refine AW.region ?_
                    refine s_assign (d := (sc (.int .i64 0))) rfl ?_
                    refine s_assign (d := (sc (.int .i64 5))) rfl ?_
                    refine AWops.nil ?_
                    refine AW.ret ?_
                    obtain rfl := Option.some.inj h
                    exact ⟨_, rfl, (Weak.gen (kk := 0) [] [] rfl rfl (by decide) (by decide) rfl rfl rfl (le_upd (le_top _) (DLe.tup (All2.cons (TLe.one .sc) (All2.cons (TLe.one .sc) All2.nil)))) All2.nil)⟩
                  · replace h := (if_neg c11).symm.trans h
                    replace c11 := Bool.eq_false_iff.mpr c11
                    refine AW.cond_no rfl c11 ?_
                    refine AW.skip ?_
                    refine AW.region ?_
                    refine s_binI (v := (.int .i64 (IntKind.i64.wrap (x6 + 1)))) rfl rfl rfl ?_
                    refine s_move (d := (sc (.int .i64 (IntKind.i64.wrap (x6 + 1))))) rfl ?_
                    refine AWops.nil ?_
                    exact ⟨_, ⟨77, (upd 77 (upd 77 (upd 77 (upd 77 topF 0 (sc (.string a0))) 4 (sc (.string x1))) 33 (sc (.int .i64 (x1.size : Int)))) 34 (sc (.int .i64 (IntKind.i64.wrap (x6 + 1))))), []⟩, by omega, (Weak.gen (kk := 0) [] [] hx rfl (by decide) (by decide) rfl rfl rfl (le_upd (le_upd (le_upd (le_upd (le_top _) (.t (.one .sc))) (.t (.one .sc))) (.t (.one .sc))) (.t (.one .sc))) All2.nil), by omega, IntKind.i64.wrap (x6 + 1), h, rfl⟩
              · replace h := (if_neg c7).symm.trans h
                replace c7 := Bool.eq_false_iff.mpr c7
                refine AW.cond_no rfl c7 ?_
                refine AW.exit ?_
                refine AW.seq ?_
                refine AW.seq ?_
                refine AW.region ?_
                refine s_move (d := (sc (.string x1))) rfl ?_
                refine s_len (n := x1.size) F.u_9 rfl (.inl ⟨⟨_, _, rfl⟩, rfl⟩) ?_
                refine s_binI (v := (.bool (decide ((x1.size : Int) > 19)))) rfl rfl rfl ?_
                refine AWops.nil ?_
                by_cases c12 : (decide ((x1.size : Int) > 19)) = true
                · replace h := (if_pos c12).symm.trans h
                  refine AW.cond_yes rfl c12 ?_
                  refine AW.seq ?_
                  refine AW.region ?_
                  refine s_assign (d := (sc (.int .i64 0))) rfl ?_
                  refine s_assign (d := (sc (.int .i64 4))) rfl ?_
                  refine AWops.nil ?_
                  refine AW.ret ?_
                  obtain rfl := Option.some.inj h
                  exact ⟨_, rfl, (Weak.gen (kk := 0) [] [] rfl rfl (by decide) (by decide) rfl rfl rfl (le_upd (le_top _) (DLe.tup (All2.cons (TLe.one .sc) (All2.cons (TLe.one .sc) All2.nil)))) All2.nil)⟩
                · replace h := (if_neg c12).symm.trans h
                  replace c12 := Bool.eq_false_iff.mpr c12
                  refine AW.cond_no rfl c12 ?_
                  refine AW.skip ?_
                  refine AW.seq ?_
                  refine AW.region ?_
                  refine s_assign (d := (sc (.int .i64 0))) rfl ?_
                  refine AWops.nil ?_
                  refine AW.seq ?_
                  refine AW.seq ?_
                  refine AW.region ?_
                  refine s_move (d := (sc (.string x1))) rfl ?_
                  refine s_len (n := x1.size) F.u_9 rfl (.inl ⟨⟨_, _, rfl⟩, rfl⟩) ?_
                  refine s_move (d := (sc (.int .i64 0))) rfl ?_
                  refine AWops.nil ?_
                  refine AW.block ?_
                  refine AW.loopw (st0 := ⟨77, (upd 77 (upd 77 (upd 77 (upd 77 (upd 77 topF 0 (sc (.string a0))) 4 (sc (.string x1))) 6 (sc (.int .i64 0))) 52 (sc (.int .i64 (x1.size : Int)))) 53 (sc (.int .i64 0))), []⟩) (fun kv st => kv ≤ ql1 ∧ ∃ (x13 : Int) (x14 : Int), dossierref01_Number.l2 kv x13 x14 a0 x1 = some r ∧ st = ⟨77, (upd 77 (upd 77 (upd 77 (upd 77 (upd 77 topF 0 (sc (.string a0))) 4 (sc (.string x1))) 6 (sc (.int .i64 x13))) 52 (sc (.int .i64 (x1.size : Int)))) 53 (sc (.int .i64 x14))), []⟩) (k := ql1) (Weak.gen (kk := 0) [] [] hx rfl (by decide) (by decide) rfl rfl rfl (le_upd (le_upd (le_upd (le_upd (le_upd (le_top _) (.t (.one .sc))) (.t (.one .sc))) (.t (.one .sc))) (.t (.one .sc))) (.t (.one .sc))) All2.nil) ⟨Nat.le_refl _, 0, 0, h, rfl⟩ ?_
                  rintro ql2 st ⟨hkl2, x13, x14, h, rfl⟩
                  cases ql2 with
                  | zero => exact absurd h (by simp [dossierref01_Number.l2])
                  | succ ql2 =>
                    replace h := (dossierref01_Number.l2.eq_2 _ _ _ _ _).symm.trans h
                    refine AW.seq ?_
                    refine AW.region ?_
                    refine s_binI (v := (.bool (decide (x14 < (x1.size : Int))))) rfl rfl rfl ?_
                    refine AWops.nil ?_
                    refine AW.seq ?_
                    by_cases c15 : (decide (x14 < (x1.size : Int))) = true
                    · replace h := (if_pos c15).symm.trans h
                      refine AW.cond_yes rfl c15 ?_
                      refine AW.skip ?_
                      refine AW.seq ?_
                      refine AW.block ?_
                      refine AW.seq ?_
                      refine AW.region ?_
                      refine s_move (d := (sc (.int .i64 x14))) rfl ?_
                      refine s_assign (d := (sc (.int .i64 x14))) rfl ?_
                      refine AWops.nil ?_
                      refine AW.region ?_
                      refine s_move (d := (sc (.int .i64 x13))) rfl ?_
                      refine s_binI (v := (.int .i64 (IntKind.i64.wrap (10 * x13)))) rfl rfl rfl ?_
                      refine s_move (d := (sc (.string x1))) rfl ?_
                      refine s_move (d := (sc (.int .i64 x14))) rfl ?_
                      obtain ⟨v16, ev16, h⟩ := Option.bind_eq_some_iff.mp h
                      obtain ⟨pv16, bv16, gv16, rfl⟩ := bt_some ev16
                      refine s_indexStr F.u_9 rfl rfl pv16 gv16 ?_
                      generalize hzv16 : ((bv16.toNat : Nat) : Int) = v16 at *
                      refine s_binI (v := (.int .u8 (IntKind.u8.wrap (v16 - 48)))) rfl rfl rfl ?_
                      refine s_convI F.u_5 F.u_3 rfl ?_
                      refine s_binI (v := (.int .i64 (IntKind.i64.wrap ((IntKind.i64.wrap (10 * x13)) - (IntKind.i64.wrap (IntKind.u8.wrap (v16 - 48))))))) rfl rfl rfl ?_
                      refine s_assign (d := (sc (.int .i64 (IntKind.i64.wrap ((IntKind.i64.wrap (10 * x13)) - (IntKind.i64.wrap (IntKind.u8.wrap (v16 - 48)))))))) rfl ?_
                      refine AWops.nil ?_
                      refine AW.region ?_
                      refine s_binI (v := (.int .i64 (IntKind.i64.wrap (x14 + 1)))) rfl rfl rfl ?_
                      refine s_move (d := (sc (.int .i64 (IntKind.i64.wrap (x14 + 1))))) rfl ?_
                      refine AWops.nil ?_
                      exact ⟨_, ⟨77, (upd 77 (upd 77 (upd 77 (upd 77 (upd 77 topF 0 (sc (.string a0))) 4 (sc (.string x1))) 6 (sc (.int .i64 (IntKind.i64.wrap ((IntKind.i64.wrap (10 * x13)) - (IntKind.i64.wrap (IntKind.u8.wrap (v16 - 48)))))))) 52 (sc (.int .i64 (x1.size : Int)))) 53 (sc (.int .i64 (IntKind.i64.wrap (x14 + 1))))), []⟩, by omega, (Weak.gen (kk := 0) [] [] hx rfl (by decide) (by decide) rfl rfl rfl (le_upd (le_upd (le_upd (le_upd (le_upd (le_top _) (.t (.one .sc))) (.t (.one .sc))) (.t (.one .sc))) (.t (.one .sc))) (.t (.one .sc))) All2.nil), by omega, IntKind.i64.wrap ((IntKind.i64.wrap (10 * x13)) - (IntKind.i64.wrap (IntKind.u8.wrap (v16 - 48)))), IntKind.i64.wrap (x14 + 1), h, rfl⟩
                    · replace h := (if_neg c15).symm.trans h
                      replace c15 := Bool.eq_false_iff.mpr c15
                      refine AW.cond_no rfl c15 ?_
                      refine AW.exit ?_
                      refine AW.seqJ (fun st => ∃ (x17 : Int), dossierref01_Number.j3 ql2 x17 a0 = some r ∧ st = ⟨77, (upd 77 (upd 77 topF 0 (sc (.string a0))) 6 (sc (.int .i64 x17))), []⟩) ?_ ?_
                      · refine AW.seq ?_
                        refine AW.region ?_
                        refine s_move (d := (sc (.string x1))) rfl ?_
                        refine s_len (n := x1.size) F.u_9 rfl (.inl ⟨⟨_, _, rfl⟩, rfl⟩) ?_
                        refine s_move (d := (sc (.string a0))) rfl ?_
                        refine s_len (n := a0.size) F.u_9 rfl (.inl ⟨⟨_, _, rfl⟩, rfl⟩) ?_
                        refine s_binI (v := (.bool ((x1.size : Int) == (a0.size : Int)))) rfl rfl rfl ?_
                        refine AWops.nil ?_
                        by_cases c17 : ((x1.size : Int) == (a0.size : Int)) = true
                        · replace h := (if_pos c17).symm.trans h
                          refine AW.cond_yes rfl c17 ?_
                          refine AW.region ?_
                          refine s_move (d := (sc (.int .i64 x13))) rfl ?_
                          refine s_unI (v := (.int .i64 (IntKind.i64.wrap (0 - x13)))) rfl rfl ?_
                          refine s_assign (d := (sc (.int .i64 (IntKind.i64.wrap (0 - x13))))) rfl ?_
                          refine AWops.nil ?_
                          exact ⟨⟨77, (upd 77 (upd 77 topF 0 (sc (.string a0))) 6 (sc (.int .i64 (IntKind.i64.wrap (0 - x13))))), []⟩, (Weak.gen (kk := 0) [] [] hx rfl (by decide) (by decide) rfl rfl rfl (le_upd (le_upd (le_top _) (.t (.one .sc))) (.t (.one .sc))) All2.nil), IntKind.i64.wrap (0 - x13), h, rfl⟩
                        · replace h := (if_neg c17).symm.trans h
                          replace c17 := Bool.eq_false_iff.mpr c17
                          refine AW.cond_no rfl c17 ?_
                          refine AW.skip ?_
                          exact ⟨⟨77, (upd 77 (upd 77 topF 0 (sc (.string a0))) 6 (sc (.int .i64 x13))), []⟩, (Weak.gen (kk := 0) [] [] hx rfl (by decide) (by decide) rfl rfl rfl (le_upd (le_upd (le_top _) (.t (.one .sc))) (.t (.one .sc))) All2.nil), x13, h, rfl⟩
                      · rintro st ⟨x17, h, rfl⟩
                        cases ql2 with
                        | zero => exact absurd h (by simp [dossierref01_Number.j3])
                        | succ qj3 =>
                          replace h := (dossierref01_Number.j3.eq_2 _ _ _).symm.trans h
                          refine AW.seq ?_
                          refine AW.seq ?_
                          refine AW.region ?_
                          refine s_move (d := (sc (.int .i64 x17))) rfl ?_
                          obtain ⟨r18, er18, h⟩ := Option.bind_eq_some_iff.mp h
                          refine s_call2 (ρ := []) (br := false) (H2 := []) (d := (sc (.string r18))) F.ca_19 rfl rfl (All2.cons (.one .sc) All2.nil) All2.nil (by decide) rfl (dossierref01_Text.meets _ x17 r18 er18) (.inl rfl) rfl rfl ?_
                          refine s_move (d := (sc (.string a0))) rfl ?_
                          refine s_binS (v := (.bool (!(r18.toList == a0.toList)))) rfl rfl rfl ?_
                          refine AWops.nil ?_
                          by_cases c19 : (r18.toList == a0.toList) = true
                          · replace h := (if_pos c19).symm.trans h
                            refine AW.cond_no rfl (by rw [c19] <;> rfl) ?_
                            refine AW.skip ?_
                            refine AW.seq ?_
                            refine AW.region ?_
                            refine s_move (d := (sc (.int .i64 x17))) rfl ?_
                            refine s_assign (d := (sc (.int .i64 x17))) rfl ?_
                            refine s_assign (d := (sc (.int .i64 0))) rfl ?_
                            refine AWops.nil ?_
                            refine AW.ret ?_
                            obtain rfl := Option.some.inj h
                            exact ⟨_, rfl, (Weak.gen (kk := 0) [] [] rfl rfl (by decide) (by decide) rfl rfl rfl (le_upd (le_top _) (DLe.tup (All2.cons (TLe.one .sc) (All2.cons (TLe.one .sc) All2.nil)))) All2.nil)⟩
                          · replace h := (if_neg c19).symm.trans h
                            replace c19 := Bool.eq_false_iff.mpr c19
                            refine AW.cond_yes rfl (by rw [c19] <;> rfl) ?_
                            refine AW.seq ?_
                            refine AW.region ?_
                            refine s_assign (d := (sc (.int .i64 0))) rfl ?_
                            refine s_assign (d := (sc (.int .i64 4))) rfl ?_
                            refine AWops.nil ?_
                            refine AW.ret ?_
                            obtain rfl := Option.some.inj h
                            exact ⟨_, rfl, (Weak.gen (kk := 0) [] [] rfl rfl (by decide) (by decide) rfl rfl rfl (le_upd (le_top _) (DLe.tup (All2.cons (TLe.one .sc) (All2.cons (TLe.one .sc) All2.nil)))) All2.nil)⟩
        · replace h := (if_neg c4).symm.trans h
          replace c4 := Bool.eq_false_iff.mpr c4
          refine AWops.guard_no rfl (Nat.le_of_ble_eq_true rfl) rfl c4 ?_
          refine AWops.guard_no rfl (Nat.le_of_ble_eq_true rfl) rfl c4 ?_
          refine AWops.guard_no rfl (Nat.le_of_ble_eq_true rfl) rfl c4 ?_
          refine AWops.guard_yes rfl (Nat.le_of_ble_eq_true rfl) rfl c2 ?_
          refine s_pick_no (d := (sc (.bool false))) rfl c4 rfl ?_
          refine s_pick_no (d := (sc (.bool false))) rfl c2 rfl ?_
          refine AWops.nil ?_
          refine AW.cond_no rfl rfl ?_
          refine AW.skip ?_
          refine AW.seq ?_
          refine AW.seq ?_
          refine AW.region ?_
          refine s_move (d := (sc (.string x1))) rfl ?_
          refine s_len (n := x1.size) F.u_9 rfl (.inl ⟨⟨_, _, rfl⟩, rfl⟩) ?_
          refine s_move (d := (sc (.int .i64 0))) rfl ?_
          refine AWops.nil ?_
          refine AW.block ?_
          refine AW.loopw (st0 := ⟨77, (upd 77 (upd 77 (upd 77 (upd 77 topF 0 (sc (.string a0))) 4 (sc (.string x1))) 33 (sc (.int .i64 (x1.size : Int)))) 34 (sc (.int .i64 0))), []⟩) (fun kv st => kv ≤ qj0 ∧ ∃ (x20 : Int), dossierref01_Number.l4 kv x20 a0 x1 = some r ∧ st = ⟨77, (upd 77 (upd 77 (upd 77 (upd 77 topF 0 (sc (.string a0))) 4 (sc (.string x1))) 33 (sc (.int .i64 (x1.size : Int)))) 34 (sc (.int .i64 x20))), []⟩) (k := qj0) (Weak.gen (kk := 0) [] [] hx rfl (by decide) (by decide) rfl rfl rfl (le_upd (le_upd (le_upd (le_upd (le_top _) (.t (.one .sc))) (.t (.one .sc))) (.t (.one .sc))) (.t (.one .sc))) All2.nil) ⟨Nat.le_refl _, 0, h, rfl⟩ ?_
          rintro ql4 st ⟨hkl4, x20, h, rfl⟩
          cases ql4 with
          | zero => exact absurd h (by simp [dossierref01_Number.l4])
          | succ ql4 =>
            replace h := (dossierref01_Number.l4.eq_2 _ _ _ _).symm.trans h
            refine AW.seq ?_
            refine AW.region ?_
            refine s_binI (v := (.bool (decide (x20 < (x1.size : Int))))) rfl rfl rfl ?_
            refine AWops.nil ?_
            refine AW.seq ?_
            by_cases c21 : (decide (x20 < (x1.size : Int))) = true
            · replace h := (if_pos c21).symm.trans h
              refine AW.cond_yes rfl c21 ?_
              refine AW.skip ?_
              refine AW.seq ?_
              refine AW.block ?_
              refine AW.seq ?_
              refine AW.region ?_
              refine s_move (d := (sc (.int .i64 x20))) rfl ?_
              refine s_assign (d := (sc (.int .i64 x20))) rfl ?_
              refine AWops.nil ?_
              refine AW.seq ?_
              refine AW.region ?_
              refine s_move (d := (sc (.string x1))) rfl ?_
              refine s_move (d := (sc (.int .i64 x20))) rfl ?_
              obtain ⟨v22, ev22, h⟩ := Option.bind_eq_some_iff.mp h
              obtain ⟨pv22, bv22, gv22, rfl⟩ := bt_some ev22
              refine s_indexStr F.u_9 rfl rfl pv22 gv22 ?_
              generalize hzv22 : ((bv22.toNat : Nat) : Int) = v22 at *
              refine s_binI (v := (.bool (decide (v22 < 48)))) rfl rfl rfl ?_
              refine s_move (d := (sc (.bool (decide (v22 < 48))))) rfl ?_
              by_cases c23 : (decide (v22 < 48)) = true
              · replace h := (if_pos c23).symm.trans h
                refine AWops.guard_no rfl (Nat.le_of_ble_eq_true rfl) rfl c23 ?_
                refine AWops.guard_no rfl (Nat.le_of_ble_eq_true rfl) rfl c23 ?_
                refine AWops.guard_no rfl (Nat.le_of_ble_eq_true rfl) rfl c23 ?_
                refine AWops.guard_no rfl (Nat.le_of_ble_eq_true rfl) rfl c23 ?_
                refine s_pick_yes (d := (sc (.bool true))) rfl c23 rfl ?_
                refine AWops.nil ?_
                refine AW.cond_yes rfl rfl ?_
                refine AW.seq ?_
                refine AW.region ?_
                refine s_assign (d := (sc (.int .i64 0))) rfl ?_
                refine s_assign (d := (sc (.int .i64 5))) rfl ?_
                refine AWops.nil ?_
                refine AW.ret ?_
                obtain rfl := Option.some.inj h
                exact ⟨_, rfl, (Weak.gen (kk := 0) [] [] rfl rfl (by decide) (by decide) rfl rfl rfl (le_upd (le_top _) (DLe.tup (All2.cons (TLe.one .sc) (All2.cons (TLe.one .sc) All2.nil)))) All2.nil)⟩
              · replace h := (if_neg c23).symm.trans h
                replace c23 := Bool.eq_false_iff.mpr c23
                refine AWops.guard_yes rfl (Nat.le_of_ble_eq_true rfl) rfl c23 ?_
                refine s_move (d := (sc (.string x1))) rfl ?_
                refine AWops.guard_yes rfl (Nat.le_of_ble_eq_true rfl) rfl c23 ?_
                refine s_move (d := (sc (.int .i64 x20))) rfl ?_
                refine AWops.guard_yes rfl (Nat.le_of_ble_eq_true rfl) rfl c23 ?_
                obtain ⟨v24, ev24, h⟩ := Option.bind_eq_some_iff.mp h
                obtain ⟨pv24, bv24, gv24, rfl⟩ := bt_some ev24
                refine s_indexStr F.u_9 rfl rfl pv24 gv24 ?_
                generalize hzv24 : ((bv24.toNat : Nat) : Int) = v24 at *
                refine AWops.guard_yes rfl (Nat.le_of_ble_eq_true rfl) rfl c23 ?_
                refine s_binI (v := (.bool (decide (v24 > 57)))) rfl rfl rfl ?_
                refine s_pick_no (d := (sc (.bool (decide (v24 > 57))))) rfl c23 rfl ?_
                refine AWops.nil ?_
                by_cases c25 : (decide (v24 > 57)) = true
                · replace h := (if_pos c25).symm.trans h
                  refine AW.cond_yes rfl c25 ?_
                  refine AW.seq ?_
                  refine AW.region ?_
                  refine s_assign (d := (sc (.int .i64 0))) rfl ?_
                  refine s_assign (d := (sc (.int .i64 5))) rfl ?_
                  refine AWops.nil ?_
                  refine AW.ret ?_
                  obtain rfl := Option.some.inj h
                  exact ⟨_, rfl, (Weak.gen (kk := 0) [] [] rfl rfl (by decide) (by decide) rfl rfl rfl (le_upd (le_top _) (DLe.tup (All2.cons (TLe.one .sc) (All2.cons (TLe.one .sc) All2.nil)))) All2.nil)⟩
                · replace h := (if_neg c25).symm.trans h
                  replace c25 := Bool.eq_false_iff.mpr c25
                  refine AW.cond_no rfl c25 ?_
                  refine AW.skip ?_
                  refine AW.region ?_
                  refine s_binI (v := (.int .i64 (IntKind.i64.wrap (x20 + 1)))) rfl rfl rfl ?_
                  refine s_move (d := (sc (.int .i64 (IntKind.i64.wrap (x20 + 1))))) rfl ?_
                  refine AWops.nil ?_
                  exact ⟨_, ⟨77, (upd 77 (upd 77 (upd 77 (upd 77 topF 0 (sc (.string a0))) 4 (sc (.string x1))) 33 (sc (.int .i64 (x1.size : Int)))) 34 (sc (.int .i64 (IntKind.i64.wrap (x20 + 1))))), []⟩, by omega, (Weak.gen (kk := 0) [] [] hx rfl (by decide) (by decide) rfl rfl rfl (le_upd (le_upd (le_upd (le_upd (le_top _) (.t (.one .sc))) (.t (.one .sc))) (.t (.one .sc))) (.t (.one .sc))) All2.nil), by omega, IntKind.i64.wrap (x20 + 1), h, rfl⟩
            · replace h := (if_neg c21).symm.trans h
              replace c21 := Bool.eq_false_iff.mpr c21
              refine AW.cond_no rfl c21 ?_
              refine AW.exit ?_
              refine AW.seq ?_
              refine AW.seq ?_
              refine AW.region ?_
              refine s_move (d := (sc (.string x1))) rfl ?_
              refine s_len (n := x1.size) F.u_9 rfl (.inl ⟨⟨_, _, rfl⟩, rfl⟩) ?_
              refine s_binI (v := (.bool (decide ((x1.size : Int) > 19)))) rfl rfl rfl ?_
              refine AWops.nil ?_
              by_cases c26 : (decide ((x1.size : Int) > 19)) = true
              · replace h := (if_pos c26).symm.trans h
                refine AW.cond_yes rfl c26 ?_
                refine AW.seq ?_
                refine AW.region ?_
                refine s_assign (d := (sc (.int .i64 0))) rfl ?_
                refine s_assign (d := (sc (.int .i64 4))) rfl ?_
                refine AWops.nil ?_
                refine AW.ret ?_
                obtain rfl := Option.some.inj h
                exact ⟨_, rfl, (Weak.gen (kk := 0) [] [] rfl rfl (by decide) (by decide) rfl rfl rfl (le_upd (le_top _) (DLe.tup (All2.cons (TLe.one .sc) (All2.cons (TLe.one .sc) All2.nil)))) All2.nil)⟩
              · replace h := (if_neg c26).symm.trans h
                replace c26 := Bool.eq_false_iff.mpr c26
                refine AW.cond_no rfl c26 ?_
                refine AW.skip ?_
                refine AW.seq ?_
                refine AW.region ?_
                refine s_assign (d := (sc (.int .i64 0))) rfl ?_
                refine AWops.nil ?_
                refine AW.seq ?_
                refine AW.seq ?_
                refine AW.region ?_
                refine s_move (d := (sc (.string x1))) rfl ?_
                refine s_len (n := x1.size) F.u_9 rfl (.inl ⟨⟨_, _, rfl⟩, rfl⟩) ?_
                refine s_move (d := (sc (.int .i64 0))) rfl ?_
                refine AWops.nil ?_
                refine AW.block ?_
                refine AW.loopw (st0 := ⟨77, (upd 77 (upd 77 (upd 77 (upd 77 (upd 77 topF 0 (sc (.string a0))) 4 (sc (.string x1))) 6 (sc (.int .i64 0))) 52 (sc (.int .i64 (x1.size : Int)))) 53 (sc (.int .i64 0))), []⟩) (fun kv st => kv ≤ ql4 ∧ ∃ (x27 : Int) (x28 : Int), dossierref01_Number.l5 kv x27 x28 a0 x1 = some r ∧ st = ⟨77, (upd 77 (upd 77 (upd 77 (upd 77 (upd 77 topF 0 (sc (.string a0))) 4 (sc (.string x1))) 6 (sc (.int .i64 x27))) 52 (sc (.int .i64 (x1.size : Int)))) 53 (sc (.int .i64 x28))), []⟩) (k := ql4) (Weak.gen (kk := 0) [] [] hx rfl (by decide) (by decide) rfl rfl rfl (le_upd (le_upd (le_upd (le_upd (le_upd (le_top _) (.t (.one .sc))) (.t (.one .sc))) (.t (.one .sc))) (.t (.one .sc))) (.t (.one .sc))) All2.nil) ⟨Nat.le_refl _, 0, 0, h, rfl⟩ ?_
                rintro ql5 st ⟨hkl5, x27, x28, h, rfl⟩
                cases ql5 with
                | zero => exact absurd h (by simp [dossierref01_Number.l5])
                | succ ql5 =>
                  replace h := (dossierref01_Number.l5.eq_2 _ _ _ _ _).symm.trans h
                  refine AW.seq ?_
                  refine AW.region ?_
                  refine s_binI (v := (.bool (decide (x28 < (x1.size : Int))))) rfl rfl rfl ?_
                  refine AWops.nil ?_
                  refine AW.seq ?_
                  by_cases c29 : (decide (x28 < (x1.size : Int))) = true
                  · replace h := (if_pos c29).symm.trans h
                    refine AW.cond_yes rfl c29 ?_
                    refine AW.skip ?_
                    refine AW.seq ?_
                    refine AW.block ?_
                    refine AW.seq ?_
                    refine AW.region ?_
                    refine s_move (d := (sc (.int .i64 x28))) rfl ?_
                    refine s_assign (d := (sc (.int .i64 x28))) rfl ?_
                    refine AWops.nil ?_
                    refine AW.region ?_
                    refine s_move (d := (sc (.int .i64 x27))) rfl ?_
                    refine s_binI (v := (.int .i64 (IntKind.i64.wrap (10 * x27)))) rfl rfl rfl ?_
                    refine s_move (d := (sc (.string x1))) rfl ?_
                    refine s_move (d := (sc (.int .i64 x28))) rfl ?_
                    obtain ⟨v30, ev30, h⟩ := Option.bind_eq_some_iff.mp h
                    obtain ⟨pv30, bv30, gv30, rfl⟩ := bt_some ev30
                    refine s_indexStr F.u_9 rfl rfl pv30 gv30 ?_
                    generalize hzv30 : ((bv30.toNat : Nat) : Int) = v30 at *
                    refine s_binI (v := (.int .u8 (IntKind.u8.wrap (v30 - 48)))) rfl rfl rfl ?_
                    refine s_convI F.u_5 F.u_3 rfl ?_
                    refine s_binI (v := (.int .i64 (IntKind.i64.wrap ((IntKind.i64.wrap (10 * x27)) - (IntKind.i64.wrap (IntKind.u8.wrap (v30 - 48))))))) rfl rfl rfl ?_
                    refine s_assign (d := (sc (.int .i64 (IntKind.i64.wrap ((IntKind.i64.wrap (10 * x27)) - (IntKind.i64.wrap (IntKind.u8.wrap (v30 - 48)))))))) rfl ?_
                    refine AWops.nil ?_
                    refine AW.region ?_
                    refine s_binI (v := (.int .i64 (IntKind.i64.wrap (x28 + 1)))) rfl rfl rfl ?_
                    refine s_move (d := (sc (.int .i64 (IntKind.i64.wrap (x28 + 1))))) rfl ?_
                    refine AWops.nil ?_
                    exact ⟨_, ⟨77, (upd 77 (upd 77 (upd 77 (upd 77 (upd 77 topF 0 (sc (.string a0))) 4 (sc (.string x1))) 6 (sc (.int .i64 (IntKind.i64.wrap ((IntKind.i64.wrap (10 * x27)) - (IntKind.i64.wrap (IntKind.u8.wrap (v30 - 48)))))))) 52 (sc (.int .i64 (x1.size : Int)))) 53 (sc (.int .i64 (IntKind.i64.wrap (x28 + 1))))), []⟩, by omega, (Weak.gen (kk := 0) [] [] hx rfl (by decide) (by decide) rfl rfl rfl (le_upd (le_upd (le_upd (le_upd (le_upd (le_top _) (.t (.one .sc))) (.t (.one .sc))) (.t (.one .sc))) (.t (.one .sc))) (.t (.one .sc))) All2.nil), by omega, IntKind.i64.wrap ((IntKind.i64.wrap (10 * x27)) - (IntKind.i64.wrap (IntKind.u8.wrap (v30 - 48)))), IntKind.i64.wrap (x28 + 1), h, rfl⟩
                  · replace h := (if_neg c29).symm.trans h
                    replace c29 := Bool.eq_false_iff.mpr c29
                    refine AW.cond_no rfl c29 ?_
                    refine AW.exit ?_
                    refine AW.seqJ (fun st => ∃ (x31 : Int), dossierref01_Number.j6 ql5 x31 a0 = some r ∧ st = ⟨77, (upd 77 (upd 77 topF 0 (sc (.string a0))) 6 (sc (.int .i64 x31))), []⟩) ?_ ?_
                    · refine AW.seq ?_
                      refine AW.region ?_
                      refine s_move (d := (sc (.string x1))) rfl ?_
                      refine s_len (n := x1.size) F.u_9 rfl (.inl ⟨⟨_, _, rfl⟩, rfl⟩) ?_
                      refine s_move (d := (sc (.string a0))) rfl ?_
                      refine s_len (n := a0.size) F.u_9 rfl (.inl ⟨⟨_, _, rfl⟩, rfl⟩) ?_
                      refine s_binI (v := (.bool ((x1.size : Int) == (a0.size : Int)))) rfl rfl rfl ?_
                      refine AWops.nil ?_
                      by_cases c31 : ((x1.size : Int) == (a0.size : Int)) = true
                      · replace h := (if_pos c31).symm.trans h
                        refine AW.cond_yes rfl c31 ?_
                        refine AW.region ?_
                        refine s_move (d := (sc (.int .i64 x27))) rfl ?_
                        refine s_unI (v := (.int .i64 (IntKind.i64.wrap (0 - x27)))) rfl rfl ?_
                        refine s_assign (d := (sc (.int .i64 (IntKind.i64.wrap (0 - x27))))) rfl ?_
                        refine AWops.nil ?_
                        exact ⟨⟨77, (upd 77 (upd 77 topF 0 (sc (.string a0))) 6 (sc (.int .i64 (IntKind.i64.wrap (0 - x27))))), []⟩, (Weak.gen (kk := 0) [] [] hx rfl (by decide) (by decide) rfl rfl rfl (le_upd (le_upd (le_top _) (.t (.one .sc))) (.t (.one .sc))) All2.nil), IntKind.i64.wrap (0 - x27), h, rfl⟩
                      · replace h := (if_neg c31).symm.trans h
                        replace c31 := Bool.eq_false_iff.mpr c31
                        refine AW.cond_no rfl c31 ?_
                        refine AW.skip ?_
                        exact ⟨⟨77, (upd 77 (upd 77 topF 0 (sc (.string a0))) 6 (sc (.int .i64 x27))), []⟩, (Weak.gen (kk := 0) [] [] hx rfl (by decide) (by decide) rfl rfl rfl (le_upd (le_upd (le_top _) (.t (.one .sc))) (.t (.one .sc))) All2.nil), x27, h, rfl⟩
                    · rintro st ⟨x31, h, rfl⟩
                      cases ql5 with
                      | zero => exact absurd h (by simp [dossierref01_Number.j6])
                      | succ qj6 =>
                        replace h := (dossierref01_Number.j6.eq_2 _ _ _).symm.trans h
                        refine AW.seq ?_
                        refine AW.seq ?_
                        refine AW.region ?_
                        refine s_move (d := (sc (.int .i64 x31))) rfl ?_
                        obtain ⟨r32, er32, h⟩ := Option.bind_eq_some_iff.mp h
                        refine s_call2 (ρ := []) (br := false) (H2 := []) (d := (sc (.string r32))) F.ca_19 rfl rfl (All2.cons (.one .sc) All2.nil) All2.nil (by decide) rfl (dossierref01_Text.meets _ x31 r32 er32) (.inl rfl) rfl rfl ?_
                        refine s_move (d := (sc (.string a0))) rfl ?_
                        refine s_binS (v := (.bool (!(r32.toList == a0.toList)))) rfl rfl rfl ?_
                        refine AWops.nil ?_
                        by_cases c33 : (r32.toList == a0.toList) = true
                        · replace h := (if_pos c33).symm.trans h
                          refine AW.cond_no rfl (by rw [c33] <;> rfl) ?_
                          refine AW.skip ?_
                          refine AW.seq ?_
                          refine AW.region ?_
                          refine s_move (d := (sc (.int .i64 x31))) rfl ?_
                          refine s_assign (d := (sc (.int .i64 x31))) rfl ?_
                          refine s_assign (d := (sc (.int .i64 0))) rfl ?_
                          refine AWops.nil ?_
                          refine AW.ret ?_
                          obtain rfl := Option.some.inj h
                          exact ⟨_, rfl, (Weak.gen (kk := 0) [] [] rfl rfl (by decide) (by decide) rfl rfl rfl (le_upd (le_top _) (DLe.tup (All2.cons (TLe.one .sc) (All2.cons (TLe.one .sc) All2.nil)))) All2.nil)⟩
                        · replace h := (if_neg c33).symm.trans h
                          replace c33 := Bool.eq_false_iff.mpr c33
                          refine AW.cond_yes rfl (by rw [c33] <;> rfl) ?_
                          refine AW.seq ?_
                          refine AW.region ?_
                          refine s_assign (d := (sc (.int .i64 0))) rfl ?_
                          refine s_assign (d := (sc (.int .i64 4))) rfl ?_
                          refine AWops.nil ?_
                          refine AW.ret ?_
                          obtain rfl := Option.some.inj h
                          exact ⟨_, rfl, (Weak.gen (kk := 0) [] [] rfl rfl (by decide) (by decide) rfl rfl rfl (le_upd (le_top _) (DLe.tup (All2.cons (TLe.one .sc) (All2.cons (TLe.one .sc) All2.nil)))) All2.nil)⟩
mutual
def chars_Text.l0 : Nat → (List Int) → Int → Int → Int → Option ByteArray
  | 0, _, _, _, _ => none
  | k + 1, x1, x2, x3, a0 => if (decide ((IntKind.i64.wrap (x2 - 1)) < 20)) = true then ((rd x1 (IntKind.i64.wrap (x2 - 1))).bind fun v5 => if ((IntKind.i64.wrap (Int.tdiv x3 10)) == 0) = true then (if (decide (a0 < 0)) = true then (if (decide ((IntKind.i64.wrap ((IntKind.i64.wrap (x2 - 1)) - 1)) < 20)) = true then ((rd (x1.set (IntKind.i64.wrap (x2 - 1)).toNat (IntKind.u8.wrap (IntKind.i64.wrap (48 + (if (IntKind.i64.wrap (0 - (Int.tmod x3 10))) > (Int.tmod x3 10) then (IntKind.i64.wrap (0 - (Int.tmod x3 10))) else (Int.tmod x3 10)))))) (IntKind.i64.wrap ((IntKind.i64.wrap (x2 - 1)) - 1))).bind fun v9 => if (decide (0 ≤ (IntKind.i64.wrap ((IntKind.i64.wrap (x2 - 1)) - 1)) ∧ (IntKind.i64.wrap ((IntKind.i64.wrap (x2 - 1)) - 1)) < 20 ∧ 20 ≤ ((x1.set (IntKind.i64.wrap (x2 - 1)).toNat (IntKind.u8.wrap (IntKind.i64.wrap (48 + (if (IntKind.i64.wrap (0 - (Int.tmod x3 10))) > (Int.tmod x3 10) then (IntKind.i64.wrap (0 - (Int.tmod x3 10))) else (Int.tmod x3 10)))))).set (IntKind.i64.wrap ((IntKind.i64.wrap (x2 - 1)) - 1)).toNat 45).length)) = true then (some (ofNums ((((x1.set (IntKind.i64.wrap (x2 - 1)).toNat (IntKind.u8.wrap (IntKind.i64.wrap (48 + (if (IntKind.i64.wrap (0 - (Int.tmod x3 10))) > (Int.tmod x3 10) then (IntKind.i64.wrap (0 - (Int.tmod x3 10))) else (Int.tmod x3 10)))))).set (IntKind.i64.wrap ((IntKind.i64.wrap (x2 - 1)) - 1)).toNat 45).drop (IntKind.i64.wrap ((IntKind.i64.wrap (x2 - 1)) - 1)).toNat).take (20 - (IntKind.i64.wrap ((IntKind.i64.wrap (x2 - 1)) - 1)).toNat)))) else none) else none) else (if (decide (0 ≤ (IntKind.i64.wrap (x2 - 1)) ∧ (IntKind.i64.wrap (x2 - 1)) < 20 ∧ 20 ≤ (x1.set (IntKind.i64.wrap (x2 - 1)).toNat (IntKind.u8.wrap (IntKind.i64.wrap (48 + (if (IntKind.i64.wrap (0 - (Int.tmod x3 10))) > (Int.tmod x3 10) then (IntKind.i64.wrap (0 - (Int.tmod x3 10))) else (Int.tmod x3 10)))))).length)) = true then (some (ofNums (((x1.set (IntKind.i64.wrap (x2 - 1)).toNat (IntKind.u8.wrap (IntKind.i64.wrap (48 + (if (IntKind.i64.wrap (0 - (Int.tmod x3 10))) > (Int.tmod x3 10) then (IntKind.i64.wrap (0 - (Int.tmod x3 10))) else (Int.tmod x3 10)))))).drop (IntKind.i64.wrap (x2 - 1)).toNat).take (20 - (IntKind.i64.wrap (x2 - 1)).toNat)))) else none)) else (chars_Text.l0 k (x1.set (IntKind.i64.wrap (x2 - 1)).toNat (IntKind.u8.wrap (IntKind.i64.wrap (48 + (if (IntKind.i64.wrap (0 - (Int.tmod x3 10))) > (Int.tmod x3 10) then (IntKind.i64.wrap (0 - (Int.tmod x3 10))) else (Int.tmod x3 10)))))) (IntKind.i64.wrap (x2 - 1)) (IntKind.i64.wrap (Int.tdiv x3 10)) a0)) else none
end
def chars_Text.f (k : Nat) (a0 : Int) : Option ByteArray := chars_Text.l0 k (List.replicate 20 (0 : Int)) 20 a0 a0
theorem chars_Text.meets (k : Nat) (a0 : Int) (r : ByteArray) (h : chars_Text.f k a0 = some r) : Meets Tryd.prog 18 [(sc (.int .i64 a0))] [] (sc (.string r)) [] := by
  unfold chars_Text.f at h
  refine Meets.of_body (n := 34) Tryd.func18 rfl rfl (Nat.le_of_ble_eq_true rfl) fun x hx => ?_
  replace hx : x.k = 0 := hx
  show AW _ x _ _ ⟨34, fr0 [(sc (.int .i64 a0))], []⟩
  refine AW.seq ?_
  refine AW.region ?_
  refine s_assign (d := (sc (.string (⟨#[]⟩ : ByteArray)))) rfl ?_
  refine AWops.nil ?_
  refine AW.seq ?_
  refine AW.region ?_
  refine s_alloc (cs := rowC e_u8 (List.replicate 20 (0 : Int))) F.z_46 rfl rfl ?_
  refine AWops.nil ?_
  refine AW.seq ?_
  refine AW.region ?_
  refine s_assign (d := (sc (.int .i64 20))) rfl ?_
  refine AWops.nil ?_
  refine AW.seq ?_
  refine AW.seq ?_
  refine AW.region ?_
  refine s_move (d := (sc (.int .i64 a0))) rfl ?_
  refine s_assign (d := (sc (.int .i64 a0))) rfl ?_
  refine AWops.nil ?_
  refine AW.block ?_
  refine AW.loopw (st0 := ⟨34, (upd 34 (upd 34 (upd 34 (upd 34 topF 0 (sc (.int .i64 a0))) 3 (D.one (C.ref 0 0))) 4 (sc (.int .i64 20))) 5 (sc (.int .i64 a0))), [(some (AObj.cells true (rowC e_u8 (List.replicate 20 (0 : Int)))))]⟩) (fun kv st => kv ≤ k ∧ ∃ (x1 : List Int) (x2 : Int) (x3 : Int), chars_Text.l0 kv x1 x2 x3 a0 = some r ∧ st = ⟨34, (upd 34 (upd 34 (upd 34 (upd 34 topF 0 (sc (.int .i64 a0))) 3 (D.one (C.ref 0 0))) 4 (sc (.int .i64 x2))) 5 (sc (.int .i64 x3))), [(some (AObj.cells true (rowC e_u8 x1)))]⟩) (k := k) (Weak.gen (kk := 0) [0] [] hx rfl (by decide) (by decide) rfl rfl rfl (le_upd (le_upd (le_upd (le_upd (le_top _) (.t (.one .sc))) (.t (.one (.ref rfl)))) (.t (.one .sc))) (.t (.one .sc))) (All2.cons (.cells (fun h => h) (all2_row _)) All2.nil)) ⟨Nat.le_refl _, (List.replicate 20 (0 : Int)), 20, a0, h, rfl⟩ ?_
  rintro ql0 st ⟨hkl0, x1, x2, x3, h, rfl⟩
  cases ql0 with
  | zero => exact absurd h (by simp [chars_Text.l0])
  | succ ql0 =>
    replace h := (chars_Text.l0.eq_2 _ _ _ _ _).symm.trans h
    refine AW.seq ?_
    refine AW.block ?_
    refine AW.seq ?_
    refine AW.region ?_
    refine s_move (d := (sc (.int .i64 x3))) rfl ?_
    refine s_binI (v := (.int .i64 (Int.tmod x3 10))) rfl rfl rfl ?_
    refine s_assign (d := (sc (.int .i64 (Int.tmod x3 10)))) rfl ?_
    refine AWops.nil ?_
    refine AW.seq ?_
    refine AW.region ?_
    refine s_move (d := (sc (.int .i64 x2))) rfl ?_
    refine s_binI (v := (.int .i64 (IntKind.i64.wrap (x2 - 1)))) rfl rfl rfl ?_
    refine s_assign (d := (sc (.int .i64 (IntKind.i64.wrap (x2 - 1))))) rfl ?_
    refine AWops.nil ?_
    refine AW.seq ?_
    refine AW.region ?_
    refine s_move (d := (sc (.int .i64 (IntKind.i64.wrap (x2 - 1))))) rfl ?_
    refine s_move (d := (sc (.int .i64 (Int.tmod x3 10)))) rfl ?_
    refine s_move (d := (sc (.int .i64 (Int.tmod x3 10)))) rfl ?_
    refine s_unI (v := (.int .i64 (IntKind.i64.wrap (0 - (Int.tmod x3 10))))) rfl rfl ?_
    refine s_max2 (r := (if (IntKind.i64.wrap (0 - (Int.tmod x3 10))) > (Int.tmod x3 10) then (IntKind.i64.wrap (0 - (Int.tmod x3 10))) else (Int.tmod x3 10))) rfl rfl rfl ?_
    refine s_binI (v := (.int .i64 (IntKind.i64.wrap (48 + (if (IntKind.i64.wrap (0 - (Int.tmod x3 10))) > (Int.tmod x3 10) then (IntKind.i64.wrap (0 - (Int.tmod x3 10))) else (Int.tmod x3 10)))))) rfl rfl rfl ?_
    refine s_convI F.u_3 F.u_5 rfl ?_
    by_cases c4 : (decide ((IntKind.i64.wrap (x2 - 1)) < 20)) = true
    · replace h := (if_pos c4).symm.trans h
      obtain ⟨v5, ev5, h⟩ := Option.bind_eq_some_iff.mp h
      obtain ⟨pv5, qv5, gv5⟩ := rd_some ev5
      refine s_indexArr (n := 20) (d := (D.one (C.ref 0 (0 + (IntKind.i64.wrap (x2 - 1)).toNat * 1)))) F.u_46 F.sz_5 rfl rfl pv5 (of_decide_eq_true c4) rfl ?_
      refine s_store (cs' := rowC e_u8 (x1.set (IntKind.i64.wrap (x2 - 1)).toNat (IntKind.u8.wrap (IntKind.i64.wrap (48 + (if (IntKind.i64.wrap (0 - (Int.tmod x3 10))) > (Int.tmod x3 10) then (IntKind.i64.wrap (0 - (Int.tmod x3 10))) else (Int.tmod x3 10))))))) rfl rfl rfl (List.cons_ne_nil _ _) rfl F.sz_5 (by rw [row_len e_u8_len]; have := (List.getElem?_eq_some_iff.mp gv5).1; show _ + 1 ≤ _; omega) (row_set (f := e_u8) (sz := 1) (o := 0) (ds := [P.v (.int .u8 (IntKind.u8.wrap (IntKind.i64.wrap (48 + (if (IntKind.i64.wrap (0 - (Int.tmod x3 10))) > (Int.tmod x3 10) then (IntKind.i64.wrap (0 - (Int.tmod x3 10))) else (Int.tmod x3 10))))))]) e_u8_len gv5 rfl (Nat.le_of_ble_eq_true rfl) rfl) ?_
      refine AWops.nil ?_
      refine AW.seq ?_
      refine AW.region ?_
      refine s_move (d := (sc (.int .i64 x3))) rfl ?_
      refine s_binI (v := (.int .i64 (IntKind.i64.wrap (Int.tdiv x3 10)))) rfl rfl rfl ?_
      refine s_binI (v := (.bool ((IntKind.i64.wrap (Int.tdiv x3 10)) == 0))) rfl rfl rfl ?_
      refine AWops.nil ?_
      by_cases c6 : ((IntKind.i64.wrap (Int.tdiv x3 10)) == 0) = true
      · replace h := (if_pos c6).symm.trans h
        refine AW.cond_yes rfl c6 ?_
        refine AW.exit ?_
        refine AW.seq ?_
        refine AW.seq ?_
        refine AW.region ?_
        refine s_move (d := (sc (.int .i64 a0))) rfl ?_
        refine s_binI (v := (.bool (decide (a0 < 0)))) rfl rfl rfl ?_
        refine AWops.nil ?_
        by_cases c7 : (decide (a0 < 0)) = true
        · replace h := (if_pos c7).symm.trans h
          refine AW.cond_yes rfl c7 ?_
          refine AW.seq ?_
          refine AW.region ?_
          refine s_move (d := (sc (.int .i64 (IntKind.i64.wrap (x2 - 1))))) rfl ?_
          refine s_binI (v := (.int .i64 (IntKind.i64.wrap ((IntKind.i64.wrap (x2 - 1)) - 1)))) rfl rfl rfl ?_
          refine s_assign (d := (sc (.int .i64 (IntKind.i64.wrap ((IntKind.i64.wrap (x2 - 1)) - 1))))) rfl ?_
          refine AWops.nil ?_
          refine AW.region ?_
          refine s_move (d := (sc (.int .i64 (IntKind.i64.wrap ((IntKind.i64.wrap (x2 - 1)) - 1))))) rfl ?_
          by_cases c8 : (decide ((IntKind.i64.wrap ((IntKind.i64.wrap (x2 - 1)) - 1)) < 20)) = true
          · replace h := (if_pos c8).symm.trans h
            obtain ⟨v9, ev9, h⟩ := Option.bind_eq_some_iff.mp h
            obtain ⟨pv9, qv9, gv9⟩ := rd_some ev9
            refine s_indexArr (n := 20) (d := (D.one (C.ref 0 (0 + (IntKind.i64.wrap ((IntKind.i64.wrap (x2 - 1)) - 1)).toNat * 1)))) F.u_46 F.sz_5 rfl rfl pv9 (of_decide_eq_true c8) rfl ?_
            refine s_store (cs' := rowC e_u8 ((x1.set (IntKind.i64.wrap (x2 - 1)).toNat (IntKind.u8.wrap (IntKind.i64.wrap (48 + (if (IntKind.i64.wrap (0 - (Int.tmod x3 10))) > (Int.tmod x3 10) then (IntKind.i64.wrap (0 - (Int.tmod x3 10))) else (Int.tmod x3 10)))))).set (IntKind.i64.wrap ((IntKind.i64.wrap (x2 - 1)) - 1)).toNat 45)) rfl rfl rfl (List.cons_ne_nil _ _) rfl F.sz_5 (by rw [row_len e_u8_len]; have := (List.getElem?_eq_some_iff.mp gv9).1; show _ + 1 ≤ _; omega) (row_set (f := e_u8) (sz := 1) (o := 0) (ds := [P.v (.int .u8 45)]) e_u8_len gv9 rfl (Nat.le_of_ble_eq_true rfl) rfl) ?_
            refine AWops.nil ?_
            refine AW.seq ?_
            refine AW.region ?_
            refine s_move (d := (sc (.int .i64 (IntKind.i64.wrap ((IntKind.i64.wrap (x2 - 1)) - 1))))) rfl ?_
            by_cases c10 : (decide (0 ≤ (IntKind.i64.wrap ((IntKind.i64.wrap (x2 - 1)) - 1)) ∧ (IntKind.i64.wrap ((IntKind.i64.wrap (x2 - 1)) - 1)) < 20 ∧ 20 ≤ ((x1.set (IntKind.i64.wrap (x2 - 1)).toNat (IntKind.u8.wrap (IntKind.i64.wrap (48 + (if (IntKind.i64.wrap (0 - (Int.tmod x3 10))) > (Int.tmod x3 10) then (IntKind.i64.wrap (0 - (Int.tmod x3 10))) else (Int.tmod x3 10)))))).set (IntKind.i64.wrap ((IntKind.i64.wrap (x2 - 1)) - 1)).toNat 45).length)) = true
            · replace h := (if_pos c10).symm.trans h
              have dc10 := of_decide_eq_true c10
              refine s_sliceArr (n := 20) (l := (IntKind.i64.wrap ((IntKind.i64.wrap (x2 - 1)) - 1)).toNat) (h := 20) F.u_46 F.sz_5 rfl rfl (by rw [row_len e_u8_len]; omega) (.yes rfl (by omega) rfl) .no (by omega) (Nat.le_refl _) (by omega) rfl ?_
              refine t_toStrO (xs := (x1.set (IntKind.i64.wrap (x2 - 1)).toNat (IntKind.u8.wrap (IntKind.i64.wrap (48 + (if (IntKind.i64.wrap (0 - (Int.tmod x3 10))) > (Int.tmod x3 10) then (IntKind.i64.wrap (0 - (Int.tmod x3 10))) else (Int.tmod x3 10)))))).set (IntKind.i64.wrap ((IntKind.i64.wrap (x2 - 1)) - 1)).toNat 45) (l := (IntKind.i64.wrap ((IntKind.i64.wrap (x2 - 1)) - 1)).toNat) (n := 20 - (IntKind.i64.wrap ((IntKind.i64.wrap (x2 - 1)) - 1)).toNat) F.u_31 F.u_5 F.u_9 rfl rfl (by omega) ?_
              refine s_assign (d := (sc (.string (ofNums ((((x1.set (IntKind.i64.wrap (x2 - 1)).toNat (IntKind.u8.wrap (IntKind.i64.wrap (48 + (if (IntKind.i64.wrap (0 - (Int.tmod x3 10))) > (Int.tmod x3 10) then (IntKind.i64.wrap (0 - (Int.tmod x3 10))) else (Int.tmod x3 10)))))).set (IntKind.i64.wrap ((IntKind.i64.wrap (x2 - 1)) - 1)).toNat 45).drop (IntKind.i64.wrap ((IntKind.i64.wrap (x2 - 1)) - 1)).toNat).take (20 - (IntKind.i64.wrap ((IntKind.i64.wrap (x2 - 1)) - 1)).toNat)))))) rfl ?_
              refine AWops.nil ?_
              refine AW.ret ?_
              obtain rfl := Option.some.inj h
              exact ⟨_, rfl, (Weak.gen (kk := 0) [] [] rfl rfl (by decide) (by decide) rfl rfl rfl (le_upd (le_top _) (.t (.one .sc))) All2.nil)⟩
            · replace h := (if_neg c10).symm.trans h
              cases h
          · replace h := (if_neg c8).symm.trans h
            cases h
        · replace h := (if_neg c7).symm.trans h
          replace c7 := Bool.eq_false_iff.mpr c7
          refine AW.cond_no rfl c7 ?_
          refine AW.skip ?_
          refine AW.seq ?_
          refine AW.region ?_
          refine s_move (d := (sc (.int .i64 (IntKind.i64.wrap (x2 - 1))))) rfl ?_
          by_cases c11 : (decide (0 ≤ (IntKind.i64.wrap (x2 - 1)) ∧ (IntKind.i64.wrap (x2 - 1)) < 20 ∧ 20 ≤ (x1.set (IntKind.i64.wrap (x2 - 1)).toNat (IntKind.u8.wrap (IntKind.i64.wrap (48 + (if (IntKind.i64.wrap (0 - (Int.tmod x3 10))) > (Int.tmod x3 10) then (IntKind.i64.wrap (0 - (Int.tmod x3 10))) else (Int.tmod x3 10)))))).length)) = true
          · replace h := (if_pos c11).symm.trans h
            have dc11 := of_decide_eq_true c11
            refine s_sliceArr (n := 20) (l := (IntKind.i64.wrap (x2 - 1)).toNat) (h := 20) F.u_46 F.sz_5 rfl rfl (by rw [row_len e_u8_len]; omega) (.yes rfl (by omega) rfl) .no (by omega) (Nat.le_refl _) (by omega) rfl ?_
            refine t_toStrO (xs := x1.set (IntKind.i64.wrap (x2 - 1)).toNat (IntKind.u8.wrap (IntKind.i64.wrap (48 + (if (IntKind.i64.wrap (0 - (Int.tmod x3 10))) > (Int.tmod x3 10) then (IntKind.i64.wrap (0 - (Int.tmod x3 10))) else (Int.tmod x3 10)))))) (l := (IntKind.i64.wrap (x2 - 1)).toNat) (n := 20 - (IntKind.i64.wrap (x2 - 1)).toNat) F.u_31 F.u_5 F.u_9 rfl rfl (by omega) ?_
            refine s_assign (d := (sc (.string (ofNums (((x1.set (IntKind.i64.wrap (x2 - 1)).toNat (IntKind.u8.wrap (IntKind.i64.wrap (48 + (if (IntKind.i64.wrap (0 - (Int.tmod x3 10))) > (Int.tmod x3 10) then (IntKind.i64.wrap (0 - (Int.tmod x3 10))) else (Int.tmod x3 10)))))).drop (IntKind.i64.wrap (x2 - 1)).toNat).take (20 - (IntKind.i64.wrap (x2 - 1)).toNat)))))) rfl ?_
            refine AWops.nil ?_
            refine AW.ret ?_
            obtain rfl := Option.some.inj h
            exact ⟨_, rfl, (Weak.gen (kk := 0) [] [] rfl rfl (by decide) (by decide) rfl rfl rfl (le_upd (le_top _) (.t (.one .sc))) All2.nil)⟩
          · replace h := (if_neg c11).symm.trans h
            cases h
      · replace h := (if_neg c6).symm.trans h
        replace c6 := Bool.eq_false_iff.mpr c6
        refine AW.cond_no rfl c6 ?_
        refine AW.skip ?_
        refine AW.region ?_
        refine s_move (d := (sc (.int .i64 x3))) rfl ?_
        refine s_binI (v := (.int .i64 (IntKind.i64.wrap (Int.tdiv x3 10)))) rfl rfl rfl ?_
        refine s_assign (d := (sc (.int .i64 (IntKind.i64.wrap (Int.tdiv x3 10))))) rfl ?_
        refine AWops.nil ?_
        exact ⟨_, ⟨34, (upd 34 (upd 34 (upd 34 (upd 34 topF 0 (sc (.int .i64 a0))) 3 (D.one (C.ref 0 0))) 4 (sc (.int .i64 (IntKind.i64.wrap (x2 - 1))))) 5 (sc (.int .i64 (IntKind.i64.wrap (Int.tdiv x3 10))))), [(some (AObj.cells true (rowC e_u8 (x1.set (IntKind.i64.wrap (x2 - 1)).toNat (IntKind.u8.wrap (IntKind.i64.wrap (48 + (if (IntKind.i64.wrap (0 - (Int.tmod x3 10))) > (Int.tmod x3 10) then (IntKind.i64.wrap (0 - (Int.tmod x3 10))) else (Int.tmod x3 10)))))))))]⟩, by omega, (Weak.gen (kk := 0) [0] [] hx rfl (by decide) (by decide) rfl rfl rfl (le_upd (le_upd (le_upd (le_upd (le_top _) (.t (.one .sc))) (.t (.one (.ref rfl)))) (.t (.one .sc))) (.t (.one .sc))) (All2.cons (.cells (fun h => h) (all2_row _)) All2.nil)), by omega, x1.set (IntKind.i64.wrap (x2 - 1)).toNat (IntKind.u8.wrap (IntKind.i64.wrap (48 + (if (IntKind.i64.wrap (0 - (Int.tmod x3 10))) > (Int.tmod x3 10) then (IntKind.i64.wrap (0 - (Int.tmod x3 10))) else (Int.tmod x3 10))))), IntKind.i64.wrap (x2 - 1), IntKind.i64.wrap (Int.tdiv x3 10), h, rfl⟩
    · replace h := (if_neg c4).symm.trans h
      cases h
def dossierlaw01_CharsNumbers.f (k : Nat) (a0 : ByteArray) (a1 : Int) : Option Bool := (chars_Number.f k a0).bind fun r1 => (dossierref01_Number.f k a0).bind fun r2 => if (r1.1 == r2.1) = true then (if (r1.2 == r2.2) = true then ((chars_Text.f k a1).bind fun r5 => (dossierref01_Text.f k a1).bind fun r6 => if (r5.toList == r6.toList) = true then ((dossierlaw01_awake.f k).bind fun r8 => some r8) else (some false)) else (some false)) else (some false)
theorem dossierlaw01_CharsNumbers.meets (k : Nat) (a0 : ByteArray) (a1 : Int) (r : Bool) (h : dossierlaw01_CharsNumbers.f k a0 a1 = some r) : Meets Tryd.prog 4 [(sc (.string a0)), (sc (.int .i64 a1))] [] (sc (.bool r)) [] := by
  unfold dossierlaw01_CharsNumbers.f at h
  refine Meets.of_body (n := 37) Tryd.func4 rfl rfl (Nat.le_of_ble_eq_true rfl) fun x hx => ?_
  replace hx : x.k = 0 := hx
  show AW _ x _ _ ⟨37, fr0 [(sc (.string a0)), (sc (.int .i64 a1))], []⟩
  refine AW.seq ?_
  refine AW.region ?_
  refine s_assign (d := (sc (.bool false))) rfl ?_
  refine AWops.nil ?_
  refine AW.seq ?_
  refine AW.region ?_
  refine s_move (d := (sc (.string a0))) rfl ?_
  obtain ⟨r1, er1, h⟩ := Option.bind_eq_some_iff.mp h
  refine s_call2 (ρ := []) (br := false) (H2 := []) (d := (D.tup [(sc (.int .i64 r1.1)), (sc (.int .i64 r1.2))])) F.ca_16 rfl rfl (All2.cons (.one .sc) All2.nil) All2.nil (by decide) rfl (chars_Number.meets _ a0 r1 er1) (.inl rfl) rfl rfl ?_
  refine s_move (d := (D.tup [(sc (.int .i64 r1.1)), (sc (.int .i64 r1.2))])) rfl ?_
  refine s_extract (d := (sc (.int .i64 r1.1))) rfl rfl ?_
  refine s_extract (d := (sc (.int .i64 r1.2))) rfl rfl ?_
  refine s_assign (d := (sc (.int .i64 r1.1))) rfl ?_
  refine s_assign (d := (sc (.int .i64 r1.2))) rfl ?_
  refine AWops.nil ?_
  refine AW.seq ?_
  refine AW.region ?_
  refine s_move (d := (sc (.string a0))) rfl ?_
  obtain ⟨r2, er2, h⟩ := Option.bind_eq_some_iff.mp h
  refine s_call2 (ρ := []) (br := false) (H2 := []) (d := (D.tup [(sc (.int .i64 r2.1)), (sc (.int .i64 r2.2))])) F.ca_17 rfl rfl (All2.cons (.one .sc) All2.nil) All2.nil (by decide) rfl (dossierref01_Number.meets _ a0 r2 er2) (.inl rfl) rfl rfl ?_
  refine s_move (d := (D.tup [(sc (.int .i64 r2.1)), (sc (.int .i64 r2.2))])) rfl ?_
  refine s_extract (d := (sc (.int .i64 r2.1))) rfl rfl ?_
  refine s_extract (d := (sc (.int .i64 r2.2))) rfl rfl ?_
  refine s_assign (d := (sc (.int .i64 r2.1))) rfl ?_
  refine s_assign (d := (sc (.int .i64 r2.2))) rfl ?_
  refine AWops.nil ?_
  refine AW.seq ?_
  refine AW.region ?_
  refine s_move (d := (sc (.int .i64 r1.1))) rfl ?_
  refine s_move (d := (sc (.int .i64 r2.1))) rfl ?_
  refine s_binI (v := (.bool (r1.1 == r2.1))) rfl rfl rfl ?_
  refine s_move (d := (sc (.bool (r1.1 == r2.1)))) rfl ?_
  by_cases c3 : (r1.1 == r2.1) = true
  · replace h := (if_pos c3).symm.trans h
    refine AWops.guard_yes rfl (Nat.le_of_ble_eq_true rfl) rfl c3 ?_
    refine s_move (d := (sc (.int .i64 r1.2))) rfl ?_
    refine AWops.guard_yes rfl (Nat.le_of_ble_eq_true rfl) rfl c3 ?_
    refine s_move (d := (sc (.int .i64 r2.2))) rfl ?_
    refine AWops.guard_yes rfl (Nat.le_of_ble_eq_true rfl) rfl c3 ?_
    refine s_binI (v := (.bool (r1.2 == r2.2))) rfl rfl rfl ?_
    refine s_pick_yes (d := (sc (.bool (r1.2 == r2.2)))) rfl c3 rfl ?_
    refine s_move (d := (sc (.bool (r1.2 == r2.2)))) rfl ?_
    by_cases c4 : (r1.2 == r2.2) = true
    · replace h := (if_pos c4).symm.trans h
      refine AWops.guard_yes rfl (Nat.le_of_ble_eq_true rfl) rfl c4 ?_
      refine s_move (d := (sc (.int .i64 a1))) rfl ?_
      refine AWops.guard_yes rfl (Nat.le_of_ble_eq_true rfl) rfl c4 ?_
      obtain ⟨r5, er5, h⟩ := Option.bind_eq_some_iff.mp h
      refine s_call2 (ρ := []) (br := false) (H2 := []) (d := (sc (.string r5))) F.ca_18 rfl rfl (All2.cons (.one .sc) All2.nil) All2.nil (by decide) rfl (chars_Text.meets _ a1 r5 er5) (.inl rfl) rfl rfl ?_
      refine AWops.guard_yes rfl (Nat.le_of_ble_eq_true rfl) rfl c4 ?_
      refine s_move (d := (sc (.int .i64 a1))) rfl ?_
      refine AWops.guard_yes rfl (Nat.le_of_ble_eq_true rfl) rfl c4 ?_
      obtain ⟨r6, er6, h⟩ := Option.bind_eq_some_iff.mp h
      refine s_call2 (ρ := []) (br := false) (H2 := []) (d := (sc (.string r6))) F.ca_19 rfl rfl (All2.cons (.one .sc) All2.nil) All2.nil (by decide) rfl (dossierref01_Text.meets _ a1 r6 er6) (.inl rfl) rfl rfl ?_
      refine AWops.guard_yes rfl (Nat.le_of_ble_eq_true rfl) rfl c4 ?_
      refine s_binS (v := (.bool (r5.toList == r6.toList))) rfl rfl rfl ?_
      refine s_pick_yes (d := (sc (.bool (r5.toList == r6.toList)))) rfl c4 rfl ?_
      refine s_move (d := (sc (.bool (r5.toList == r6.toList)))) rfl ?_
      by_cases c7 : (r5.toList == r6.toList) = true
      · replace h := (if_pos c7).symm.trans h
        refine AWops.guard_yes rfl (Nat.le_of_ble_eq_true rfl) rfl c7 ?_
        obtain ⟨r8, er8, h⟩ := Option.bind_eq_some_iff.mp h
        refine s_call2 (ρ := []) (br := false) (H2 := []) (d := (sc (.bool r8))) F.ca_15 rfl rfl All2.nil All2.nil (by decide) rfl (dossierlaw01_awake.meets _  r8 er8) (.inl rfl) rfl rfl ?_
        refine s_pick_yes (d := (sc (.bool r8))) rfl c7 rfl ?_
        refine s_assign (d := (sc (.bool r8))) rfl ?_
        refine AWops.nil ?_
        refine AW.ret ?_
        obtain rfl := Option.some.inj h
        exact ⟨_, rfl, (Weak.gen (kk := 0) [] [] rfl rfl (by decide) (by decide) rfl rfl rfl (le_upd (le_top _) (.t (.one .sc))) All2.nil)⟩
      · replace h := (if_neg c7).symm.trans h
        replace c7 := Bool.eq_false_iff.mpr c7
        refine AWops.guard_no rfl (Nat.le_of_ble_eq_true rfl) rfl c7 ?_
        refine s_pick_no (d := (sc (.bool false))) rfl c7 rfl ?_
        refine s_assign (d := (sc (.bool false))) rfl ?_
        refine AWops.nil ?_
        refine AW.ret ?_
        obtain rfl := Option.some.inj h
        exact ⟨_, rfl, (Weak.gen (kk := 0) [] [] rfl rfl (by decide) (by decide) rfl rfl rfl (le_upd (le_top _) (.t (.one .sc))) All2.nil)⟩
    · replace h := (if_neg c4).symm.trans h
      replace c4 := Bool.eq_false_iff.mpr c4
      refine AWops.guard_no rfl (Nat.le_of_ble_eq_true rfl) rfl c4 ?_
      refine AWops.guard_no rfl (Nat.le_of_ble_eq_true rfl) rfl c4 ?_
      refine AWops.guard_no rfl (Nat.le_of_ble_eq_true rfl) rfl c4 ?_
      refine AWops.guard_no rfl (Nat.le_of_ble_eq_true rfl) rfl c4 ?_
      refine AWops.guard_no rfl (Nat.le_of_ble_eq_true rfl) rfl c4 ?_
      refine s_pick_no (d := (sc (.bool false))) rfl c4 rfl ?_
      refine s_move (d := (sc (.bool false))) rfl ?_
      refine AWops.guard_no rfl (Nat.le_of_ble_eq_true rfl) rfl rfl ?_
      refine s_pick_no (d := (sc (.bool false))) rfl rfl rfl ?_
      refine s_assign (d := (sc (.bool false))) rfl ?_
      refine AWops.nil ?_
      refine AW.ret ?_
      obtain rfl := Option.some.inj h
      exact ⟨_, rfl, (Weak.gen (kk := 0) [] [] rfl rfl (by decide) (by decide) rfl rfl rfl (le_upd (le_top _) (.t (.one .sc))) All2.nil)⟩
  · replace h := (if_neg c3).symm.trans h
    replace c3 := Bool.eq_false_iff.mpr c3
    refine AWops.guard_no rfl (Nat.le_of_ble_eq_true rfl) rfl c3 ?_
    refine AWops.guard_no rfl (Nat.le_of_ble_eq_true rfl) rfl c3 ?_
    refine AWops.guard_no rfl (Nat.le_of_ble_eq_true rfl) rfl c3 ?_
    refine s_pick_no (d := (sc (.bool false))) rfl c3 rfl ?_
    refine s_move (d := (sc (.bool false))) rfl ?_
    refine AWops.guard_no rfl (Nat.le_of_ble_eq_true rfl) rfl rfl ?_
    refine AWops.guard_no rfl (Nat.le_of_ble_eq_true rfl) rfl rfl ?_
    refine AWops.guard_no rfl (Nat.le_of_ble_eq_true rfl) rfl rfl ?_
    refine AWops.guard_no rfl (Nat.le_of_ble_eq_true rfl) rfl rfl ?_
    refine AWops.guard_no rfl (Nat.le_of_ble_eq_true rfl) rfl rfl ?_
    refine s_pick_no (d := (sc (.bool false))) rfl rfl rfl ?_
    refine s_move (d := (sc (.bool false))) rfl ?_
    refine AWops.guard_no rfl (Nat.le_of_ble_eq_true rfl) rfl rfl ?_
    refine s_pick_no (d := (sc (.bool false))) rfl rfl rfl ?_
    refine s_assign (d := (sc (.bool false))) rfl ?_
    refine AWops.nil ?_
    refine AW.ret ?_
    obtain rfl := Option.some.inj h
    exact ⟨_, rfl, (Weak.gen (kk := 0) [] [] rfl rfl (by decide) (by decide) rfl rfl rfl (le_upd (le_top _) (.t (.one .sc))) All2.nil)⟩
def utf8_ValidRune.f (k : Nat) (a0 : Int) : Option Bool := if (decide (0 ≤ a0)) = true then (if (decide (a0 < 55296)) = true then (some true) else (if (decide (57343 < a0)) = true then (if (decide (a0 ≤ 1114111)) = true then (some true) else (some false)) else (some false))) else (if (decide (57343 < a0)) = true then (if (decide (a0 ≤ 1114111)) = true then (some true) else (some false)) else (some false))
theorem utf8_ValidRune.meets (k : Nat) (a0 : Int) (r : Bool) (h : utf8_ValidRune.f k a0 = some r) : Meets Tryd.prog 31 [(sc (.int .i32 a0))] [] (sc (.bool r)) [] := by
  unfold utf8_ValidRune.f at h
  refine Meets.of_body (n := 17) Tryd.func31 rfl rfl (Nat.le_of_ble_eq_true rfl) fun x hx => ?_
  replace hx : x.k = 0 := hx
  show AW _ x _ _ ⟨17, fr0 [(sc (.int .i32 a0))], []⟩
  refine AW.seq ?_
  refine AW.region ?_
  refine s_assign (d := (sc (.bool false))) rfl ?_
  refine AWops.nil ?_
  refine AW.seq ?_
  refine AW.block ?_
  refine AW.seq ?_
  refine AW.region ?_
  refine s_move (d := (sc (.int .i32 a0))) rfl ?_
  refine s_binI (v := (.bool (decide (0 ≤ a0)))) rfl rfl rfl ?_
  refine s_move (d := (sc (.bool (decide (0 ≤ a0))))) rfl ?_
  by_cases c1 : (decide (0 ≤ a0)) = true
  · replace h := (if_pos c1).symm.trans h
    refine AWops.guard_yes rfl (Nat.le_of_ble_eq_true rfl) rfl c1 ?_
    refine s_move (d := (sc (.int .i32 a0))) rfl ?_
    refine AWops.guard_yes rfl (Nat.le_of_ble_eq_true rfl) rfl c1 ?_
    refine s_binI (v := (.bool (decide (a0 < 55296)))) rfl rfl rfl ?_
    refine s_pick_yes (d := (sc (.bool (decide (a0 < 55296))))) rfl c1 rfl ?_
    refine s_assign (d := (sc (.bool (decide (a0 < 55296))))) rfl ?_
    refine AWops.nil ?_
    by_cases c2 : (decide (a0 < 55296)) = true
    · replace h := (if_pos c2).symm.trans h
      refine AW.cond_yes rfl c2 ?_
      refine AW.seq ?_
      refine AW.region ?_
      refine s_assign (d := (sc (.bool true))) rfl ?_
      refine AWops.nil ?_
      refine AW.ret ?_
      obtain rfl := Option.some.inj h
      exact ⟨_, rfl, (Weak.gen (kk := 0) [] [] rfl rfl (by decide) (by decide) rfl rfl rfl (le_upd (le_top _) (.t (.one .sc))) All2.nil)⟩
    · replace h := (if_neg c2).symm.trans h
      replace c2 := Bool.eq_false_iff.mpr c2
      refine AW.cond_no rfl c2 ?_
      refine AW.seq ?_
      refine AW.region ?_
      refine s_move (d := (sc (.int .i32 a0))) rfl ?_
      refine s_binI (v := (.bool (decide (57343 < a0)))) rfl rfl rfl ?_
      refine s_move (d := (sc (.bool (decide (57343 < a0))))) rfl ?_
      by_cases c3 : (decide (57343 < a0)) = true
      · replace h := (if_pos c3).symm.trans h
        refine AWops.guard_yes rfl (Nat.le_of_ble_eq_true rfl) rfl c3 ?_
        refine s_move (d := (sc (.int .i32 a0))) rfl ?_
        refine AWops.guard_yes rfl (Nat.le_of_ble_eq_true rfl) rfl c3 ?_
        refine s_binI (v := (.bool (decide (a0 ≤ 1114111)))) rfl rfl rfl ?_
        refine s_pick_yes (d := (sc (.bool (decide (a0 ≤ 1114111))))) rfl c3 rfl ?_
        refine s_assign (d := (sc (.bool (decide (a0 ≤ 1114111))))) rfl ?_
        refine AWops.nil ?_
        by_cases c4 : (decide (a0 ≤ 1114111)) = true
        · replace h := (if_pos c4).symm.trans h
          refine AW.cond_yes rfl c4 ?_
          refine AW.seq ?_
          refine AW.region ?_
          refine s_assign (d := (sc (.bool true))) rfl ?_
          refine AWops.nil ?_
          refine AW.ret ?_
          obtain rfl := Option.some.inj h
          exact ⟨_, rfl, (Weak.gen (kk := 0) [] [] rfl rfl (by decide) (by decide) rfl rfl rfl (le_upd (le_top _) (.t (.one .sc))) All2.nil)⟩
        · replace h := (if_neg c4).symm.trans h
          replace c4 := Bool.eq_false_iff.mpr c4
          refine AW.cond_no rfl c4 ?_
          refine AW.skip ?_
          refine AW.seq ?_
          refine AW.region ?_
          refine s_assign (d := (sc (.bool false))) rfl ?_
          refine AWops.nil ?_
          refine AW.ret ?_
          obtain rfl := Option.some.inj h
          exact ⟨_, rfl, (Weak.gen (kk := 0) [] [] rfl rfl (by decide) (by decide) rfl rfl rfl (le_upd (le_top _) (.t (.one .sc))) All2.nil)⟩
      · replace h := (if_neg c3).symm.trans h
        replace c3 := Bool.eq_false_iff.mpr c3
        refine AWops.guard_no rfl (Nat.le_of_ble_eq_true rfl) rfl c3 ?_
        refine AWops.guard_no rfl (Nat.le_of_ble_eq_true rfl) rfl c3 ?_
        refine s_pick_no (d := (sc (.bool false))) rfl c3 rfl ?_
        refine s_assign (d := (sc (.bool false))) rfl ?_
        refine AWops.nil ?_
        refine AW.cond_no rfl rfl ?_
        refine AW.skip ?_
        refine AW.seq ?_
        refine AW.region ?_
        refine s_assign (d := (sc (.bool false))) rfl ?_
        refine AWops.nil ?_
        refine AW.ret ?_
        obtain rfl := Option.some.inj h
        exact ⟨_, rfl, (Weak.gen (kk := 0) [] [] rfl rfl (by decide) (by decide) rfl rfl rfl (le_upd (le_top _) (.t (.one .sc))) All2.nil)⟩
  · replace h := (if_neg c1).symm.trans h
    replace c1 := Bool.eq_false_iff.mpr c1
    refine AWops.guard_no rfl (Nat.le_of_ble_eq_true rfl) rfl c1 ?_
    refine AWops.guard_no rfl (Nat.le_of_ble_eq_true rfl) rfl c1 ?_
    refine s_pick_no (d := (sc (.bool false))) rfl c1 rfl ?_
    refine s_assign (d := (sc (.bool false))) rfl ?_
    refine AWops.nil ?_
    refine AW.cond_no rfl rfl ?_
    refine AW.seq ?_
    refine AW.region ?_
    refine s_move (d := (sc (.int .i32 a0))) rfl ?_
    refine s_binI (v := (.bool (decide (57343 < a0)))) rfl rfl rfl ?_
    refine s_move (d := (sc (.bool (decide (57343 < a0))))) rfl ?_
    by_cases c5 : (decide (57343 < a0)) = true
    · replace h := (if_pos c5).symm.trans h
      refine AWops.guard_yes rfl (Nat.le_of_ble_eq_true rfl) rfl c5 ?_
      refine s_move (d := (sc (.int .i32 a0))) rfl ?_
      refine AWops.guard_yes rfl (Nat.le_of_ble_eq_true rfl) rfl c5 ?_
      refine s_binI (v := (.bool (decide (a0 ≤ 1114111)))) rfl rfl rfl ?_
      refine s_pick_yes (d := (sc (.bool (decide (a0 ≤ 1114111))))) rfl c5 rfl ?_
      refine s_assign (d := (sc (.bool (decide (a0 ≤ 1114111))))) rfl ?_
      refine AWops.nil ?_
      by_cases c6 : (decide (a0 ≤ 1114111)) = true
      · replace h := (if_pos c6).symm.trans h
        refine AW.cond_yes rfl c6 ?_
        refine AW.seq ?_
        refine AW.region ?_
        refine s_assign (d := (sc (.bool true))) rfl ?_
        refine AWops.nil ?_
        refine AW.ret ?_
        obtain rfl := Option.some.inj h
        exact ⟨_, rfl, (Weak.gen (kk := 0) [] [] rfl rfl (by decide) (by decide) rfl rfl rfl (le_upd (le_top _) (.t (.one .sc))) All2.nil)⟩
      · replace h := (if_neg c6).symm.trans h
        replace c6 := Bool.eq_false_iff.mpr c6
        refine AW.cond_no rfl c6 ?_
        refine AW.skip ?_
        refine AW.seq ?_
        refine AW.region ?_
        refine s_assign (d := (sc (.bool false))) rfl ?_
        refine AWops.nil ?_
        refine AW.ret ?_
        obtain rfl := Option.some.inj h
        exact ⟨_, rfl, (Weak.gen (kk := 0) [] [] rfl rfl (by decide) (by decide) rfl rfl rfl (le_upd (le_top _) (.t (.one .sc))) All2.nil)⟩
    · replace h := (if_neg c5).symm.trans h
      replace c5 := Bool.eq_false_iff.mpr c5
      refine AWops.guard_no rfl (Nat.le_of_ble_eq_true rfl) rfl c5 ?_
      refine AWops.guard_no rfl (Nat.le_of_ble_eq_true rfl) rfl c5 ?_
      refine s_pick_no (d := (sc (.bool false))) rfl c5 rfl ?_
      refine s_assign (d := (sc (.bool false))) rfl ?_
      refine AWops.nil ?_
      refine AW.cond_no rfl rfl ?_
      refine AW.skip ?_
      refine AW.seq ?_
      refine AW.region ?_
      refine s_assign (d := (sc (.bool false))) rfl ?_
      refine AWops.nil ?_
      refine AW.ret ?_
      obtain rfl := Option.some.inj h
      exact ⟨_, rfl, (Weak.gen (kk := 0) [] [] rfl rfl (by decide) (by decide) rfl rfl rfl (le_upd (le_top _) (.t (.one .sc))) All2.nil)⟩
mutual
def utf8_appendRuneNonASCII_nil0.j0 : Nat → Bool → Int → Option (List Int)
  | 0, _, _ => none
  | k + 1, x3, a1 => if x3 = true then (if (decide (([] : List Int).length + ([Go.bits .or .u8 224 (IntKind.u8.wrap (Int.fdiv a1 (2 ^ 12))), Go.bits .or .u8 128 (Go.bits .and .u8 (IntKind.u8.wrap (Int.fdiv a1 (2 ^ 6))) 63), Go.bits .or .u8 128 (Go.bits .and .u8 (IntKind.u8.wrap a1) 63)] : List Int).length ≤ 140737488355328)) = true then (some ([Go.bits .or .u8 224 (IntKind.u8.wrap (Int.fdiv a1 (2 ^ 12))), Go.bits .or .u8 128 (Go.bits .and .u8 (IntKind.u8.wrap (Int.fdiv a1 (2 ^ 6))) 63), Go.bits .or .u8 128 (Go.bits .and .u8 (IntKind.u8.wrap a1) 63)] : List Int)) else none) else (if (decide ((IntKind.u32.wrap a1) > 65535)) = true then (if (decide ((IntKind.u32.wrap a1) ≤ 1114111)) = true then (if (decide (([] : List Int).length + ([Go.bits .or .u8 240 (IntKind.u8.wrap (Int.fdiv a1 (2 ^ 18))), Go.bits .or .u8 128 (Go.bits .and .u8 (IntKind.u8.wrap (Int.fdiv a1 (2 ^ 12))) 63), Go.bits .or .u8 128 (Go.bits .and .u8 (IntKind.u8.wrap (Int.fdiv a1 (2 ^ 6))) 63), Go.bits .or .u8 128 (Go.bits .and .u8 (IntKind.u8.wrap a1) 63)] : List Int).length ≤ 140737488355328)) = true then (some ([Go.bits .or .u8 240 (IntKind.u8.wrap (Int.fdiv a1 (2 ^ 18))), Go.bits .or .u8 128 (Go.bits .and .u8 (IntKind.u8.wrap (Int.fdiv a1 (2 ^ 12))) 63), Go.bits .or .u8 128 (Go.bits .and .u8 (IntKind.u8.wrap (Int.fdiv a1 (2 ^ 6))) 63), Go.bits .or .u8 128 (Go.bits .and .u8 (IntKind.u8.wrap a1) 63)] : List Int)) else none) else (if (decide (([] : List Int).length + ([239, 191, 189] : List Int).length ≤ 140737488355328)) = true then (some ([239, 191, 189] : List Int)) else none)) else (if (decide (([] : List Int).length + ([239, 191, 189] : List Int).length ≤ 140737488355328)) = true then (some ([239, 191, 189] : List Int)) else none))
end
def utf8_appendRuneNonASCII_nil0.f (k : Nat) (a1 : Int) : Option (List Int) := if (decide ((IntKind.u32.wrap a1) ≤ 2047)) = true then (if (decide (([] : List Int).length + ([Go.bits .or .u8 192 (IntKind.u8.wrap (Int.fdiv a1 (2 ^ 6))), Go.bits .or .u8 128 (Go.bits .and .u8 (IntKind.u8.wrap a1) 63)] : List Int).length ≤ 140737488355328)) = true then (some ([Go.bits .or .u8 192 (IntKind.u8.wrap (Int.fdiv a1 (2 ^ 6))), Go.bits .or .u8 128 (Go.bits .and .u8 (IntKind.u8.wrap a1) 63)] : List Int)) else none) else (if (decide ((IntKind.u32.wrap a1) < 55296)) = true then (utf8_appendRuneNonASCII_nil0.j0 k (decide ((IntKind.u32.wrap a1) < 55296)) a1) else (if (decide (57343 < (IntKind.u32.wrap a1))) = true then (utf8_appendRuneNonASCII_nil0.j0 k (decide ((IntKind.u32.wrap a1) ≤ 65535)) a1) else (utf8_appendRuneNonASCII_nil0.j0 k false a1)))
theorem utf8_appendRuneNonASCII_nil0.meets (k : Nat) (a1 : Int) (r : (List Int)) (h : utf8_appendRuneNonASCII_nil0.f k a1 = some r) : Meets Tryd.prog 36 [(sc (.slice none 0 0)), (sc (.int .i32 a1))] [] (D.one (C.own 0 0 r.length 1)) [(some (AObj.cells true (rowC e_u8 r)))] := by
  unfold utf8_appendRuneNonASCII_nil0.f at h
  refine Meets.of_body (n := 78) Tryd.func36 rfl rfl (Nat.le_of_ble_eq_true rfl) fun x hx => ?_
  replace hx : x.k = 0 := hx
  show AW _ x _ _ ⟨78, fr0 [(sc (.slice none 0 0)), (sc (.int .i32 a1))], []⟩
  refine AW.seq ?_
  refine AW.region ?_
  refine s_assign (d := (sc (.slice none 0 0))) rfl ?_
  refine AWops.nil ?_
  refine AW.seq ?_
  refine AW.region ?_
  refine s_move (d := (sc (.int .i32 a1))) rfl ?_
  refine s_convI F.u_21 F.u_52 rfl ?_
  refine s_assign (d := (sc (.int .u32 (IntKind.u32.wrap a1)))) rfl ?_
  refine AWops.nil ?_
  refine AW.block ?_
  refine AW.seq ?_
  refine AW.region ?_
  refine s_move (d := (sc (.int .u32 (IntKind.u32.wrap a1)))) rfl ?_
  refine s_binI (v := (.bool (decide ((IntKind.u32.wrap a1) ≤ 2047)))) rfl rfl rfl ?_
  refine s_assign (d := (sc (.bool (decide ((IntKind.u32.wrap a1) ≤ 2047))))) rfl ?_
  refine AWops.nil ?_
  by_cases c1 : (decide ((IntKind.u32.wrap a1) ≤ 2047)) = true
  · replace h := (if_pos c1).symm.trans h
    refine AW.cond_yes rfl c1 ?_
    refine AW.seq ?_
    refine AW.region ?_
    refine s_move (d := (sc (.slice none 0 0))) rfl ?_
    refine s_move (d := (sc (.int .i32 a1))) rfl ?_
    refine s_shift (v := (.int .i32 (Int.fdiv a1 (2 ^ 6)))) rfl rfl rfl ?_
    refine s_convI F.u_21 F.u_5 rfl ?_
    refine s_binI (v := (.int .u8 (Go.bits .or .u8 192 (IntKind.u8.wrap (Int.fdiv a1 (2 ^ 6)))))) rfl rfl rfl ?_
    refine s_move (d := (sc (.int .i32 a1))) rfl ?_
    refine s_convI F.u_21 F.u_5 rfl ?_
    refine s_binI (v := (.int .u8 (Go.bits .and .u8 (IntKind.u8.wrap a1) 63))) rfl rfl rfl ?_
    refine s_binI (v := (.int .u8 (Go.bits .or .u8 128 (Go.bits .and .u8 (IntKind.u8.wrap a1) 63)))) rfl rfl rfl ?_
    refine s_buildSlice (n := 2) (ps := [(0, (sc (.int .u8 (Go.bits .or .u8 192 (IntKind.u8.wrap (Int.fdiv a1 (2 ^ 6))))))), (1, (sc (.int .u8 (Go.bits .or .u8 128 (Go.bits .and .u8 (IntKind.u8.wrap a1) 63)))))]) (cs := rowC e_u8 ([Go.bits .or .u8 192 (IntKind.u8.wrap (Int.fdiv a1 (2 ^ 6))), Go.bits .or .u8 128 (Go.bits .and .u8 (IntKind.u8.wrap a1) 63)] : List Int)) F.u_31 F.sz_5 F.z_5 rfl rfl (by decide) (by decide) rfl rfl ?_
    by_cases c2 : (decide (([] : List Int).length + ([Go.bits .or .u8 192 (IntKind.u8.wrap (Int.fdiv a1 (2 ^ 6))), Go.bits .or .u8 128 (Go.bits .and .u8 (IntKind.u8.wrap a1) 63)] : List Int).length ≤ 140737488355328)) = true
    · replace h := (if_pos c2).symm.trans h
      have dc2 := of_decide_eq_true c2
      refine t_append (xs := ([] : List Int)) (ys := ([Go.bits .or .u8 192 (IntKind.u8.wrap (Int.fdiv a1 (2 ^ 6))), Go.bits .or .u8 128 (Go.bits .and .u8 (IntKind.u8.wrap a1) 63)] : List Int)) (zs := ([Go.bits .or .u8 192 (IntKind.u8.wrap (Int.fdiv a1 (2 ^ 6))), Go.bits .or .u8 128 (Go.bits .and .u8 (IntKind.u8.wrap a1) 63)] : List Int)) (H' := [(some (AObj.cells true (rowC e_u8 ([Go.bits .or .u8 192 (IntKind.u8.wrap (Int.fdiv a1 (2 ^ 6))), Go.bits .or .u8 128 (Go.bits .and .u8 (IntKind.u8.wrap a1) 63)] : List Int)))), (some (AObj.cells true (rowC e_u8 ([Go.bits .or .u8 192 (IntKind.u8.wrap (Int.fdiv a1 (2 ^ 6))), Go.bits .or .u8 128 (Go.bits .and .u8 (IntKind.u8.wrap a1) 63)] : List Int))))]) F.u_31 F.in_5 rfl e_u8_len .nil (.own rfl rfl) F.u_31 (by omega) (by omega) rfl rfl ?_
      refine s_assign (d := (D.one (C.own 1 0 (([Go.bits .or .u8 192 (IntKind.u8.wrap (Int.fdiv a1 (2 ^ 6))), Go.bits .or .u8 128 (Go.bits .and .u8 (IntKind.u8.wrap a1) 63)] : List Int).length) 1))) rfl ?_
      refine AWops.nil ?_
      refine AW.ret ?_
      obtain rfl := Option.some.inj h
      exact ⟨_, rfl, (Weak.gen (kk := 0) [1] [] rfl rfl (by decide) (by decide) rfl rfl rfl (le_upd (le_top _) (.t (.one (.own rfl)))) (All2.cons (.cells (fun h => h) (all2_row _)) All2.nil))⟩
    · replace h := (if_neg c2).symm.trans h
      cases h
  · replace h := (if_neg c1).symm.trans h
    replace c1 := Bool.eq_false_iff.mpr c1
    refine AW.cond_no rfl c1 ?_
    refine AW.seqJ (fun st => ∃ (x3 : Bool), utf8_appendRuneNonASCII_nil0.j0 k x3 a1 = some r ∧ st = ⟨78, (upd 78 (upd 78 (upd 78 (upd 78 topF 0 (sc (.slice none 0 0))) 1 (sc (.int .i32 a1))) 5 (sc (.int .u32 (IntKind.u32.wrap a1)))) 25 (sc (.bool x3))), []⟩) ?_ ?_
    · refine AW.seq ?_
      refine AW.region ?_
      refine s_move (d := (sc (.int .u32 (IntKind.u32.wrap a1)))) rfl ?_
      refine s_binI (v := (.bool (decide ((IntKind.u32.wrap a1) < 55296)))) rfl rfl rfl ?_
      refine s_assign (d := (sc (.bool (decide ((IntKind.u32.wrap a1) < 55296))))) rfl ?_
      refine AWops.nil ?_
      by_cases c3 : (decide ((IntKind.u32.wrap a1) < 55296)) = true
      · replace h := (if_pos c3).symm.trans h
        refine AW.cond_yes rfl c3 ?_
        refine AW.skip ?_
        exact ⟨⟨78, (upd 78 (upd 78 (upd 78 (upd 78 topF 0 (sc (.slice none 0 0))) 1 (sc (.int .i32 a1))) 5 (sc (.int .u32 (IntKind.u32.wrap a1)))) 25 (sc (.bool (decide ((IntKind.u32.wrap a1) < 55296))))), []⟩, (Weak.gen (kk := 0) [] [] hx rfl (by decide) (by decide) rfl rfl rfl (le_upd (le_upd (le_upd (le_upd (le_top _) (.t (.one .sc))) (.t (.one .sc))) (.t (.one .sc))) (.t (.one .sc))) All2.nil), decide ((IntKind.u32.wrap a1) < 55296), h, rfl⟩
      · replace h := (if_neg c3).symm.trans h
        replace c3 := Bool.eq_false_iff.mpr c3
        refine AW.cond_no rfl c3 ?_
        refine AW.region ?_
        refine s_move (d := (sc (.int .u32 (IntKind.u32.wrap a1)))) rfl ?_
        refine s_binI (v := (.bool (decide (57343 < (IntKind.u32.wrap a1))))) rfl rfl rfl ?_
        refine s_move (d := (sc (.bool (decide (57343 < (IntKind.u32.wrap a1)))))) rfl ?_
        by_cases c4 : (decide (57343 < (IntKind.u32.wrap a1))) = true
        · replace h := (if_pos c4).symm.trans h
          refine AWops.guard_yes rfl (Nat.le_of_ble_eq_true rfl) rfl c4 ?_
          refine s_move (d := (sc (.int .u32 (IntKind.u32.wrap a1)))) rfl ?_
          refine AWops.guard_yes rfl (Nat.le_of_ble_eq_true rfl) rfl c4 ?_
          refine s_binI (v := (.bool (decide ((IntKind.u32.wrap a1) ≤ 65535)))) rfl rfl rfl ?_
          refine s_pick_yes (d := (sc (.bool (decide ((IntKind.u32.wrap a1) ≤ 65535))))) rfl c4 rfl ?_
          refine s_assign (d := (sc (.bool (decide ((IntKind.u32.wrap a1) ≤ 65535))))) rfl ?_
          refine AWops.nil ?_
          exact ⟨⟨78, (upd 78 (upd 78 (upd 78 (upd 78 topF 0 (sc (.slice none 0 0))) 1 (sc (.int .i32 a1))) 5 (sc (.int .u32 (IntKind.u32.wrap a1)))) 25 (sc (.bool (decide ((IntKind.u32.wrap a1) ≤ 65535))))), []⟩, (Weak.gen (kk := 0) [] [] hx rfl (by decide) (by decide) rfl rfl rfl (le_upd (le_upd (le_upd (le_upd (le_top _) (.t (.one .sc))) (.t (.one .sc))) (.t (.one .sc))) (.t (.one .sc))) All2.nil), decide ((IntKind.u32.wrap a1) ≤ 65535), h, rfl⟩
        · replace h := (if_neg c4).symm.trans h
          replace c4 := Bool.eq_false_iff.mpr c4
          refine AWops.guard_no rfl (Nat.le_of_ble_eq_true rfl) rfl c4 ?_
          refine AWops.guard_no rfl (Nat.le_of_ble_eq_true rfl) rfl c4 ?_
          refine s_pick_no (d := (sc (.bool false))) rfl c4 rfl ?_
          refine s_assign (d := (sc (.bool false))) rfl ?_
          refine AWops.nil ?_
          exact ⟨⟨78, (upd 78 (upd 78 (upd 78 (upd 78 topF 0 (sc (.slice none 0 0))) 1 (sc (.int .i32 a1))) 5 (sc (.int .u32 (IntKind.u32.wrap a1)))) 25 (sc (.bool false))), []⟩, (Weak.gen (kk := 0) [] [] hx rfl (by decide) (by decide) rfl rfl rfl (le_upd (le_upd (le_upd (le_upd (le_top _) (.t (.one .sc))) (.t (.one .sc))) (.t (.one .sc))) (.t (.one .sc))) All2.nil), false, h, rfl⟩
    · rintro st ⟨x3, h, rfl⟩
      cases k with
      | zero => exact absurd h (by simp [utf8_appendRuneNonASCII_nil0.j0])
      | succ qj0 =>
        replace h := (utf8_appendRuneNonASCII_nil0.j0.eq_2 _ _ _).symm.trans h
        by_cases c4 : x3 = true
        · replace h := (if_pos c4).symm.trans h
          refine AW.cond_yes rfl c4 ?_
          refine AW.seq ?_
          refine AW.region ?_
          refine s_move (d := (sc (.slice none 0 0))) rfl ?_
          refine s_move (d := (sc (.int .i32 a1))) rfl ?_
          refine s_shift (v := (.int .i32 (Int.fdiv a1 (2 ^ 12)))) rfl rfl rfl ?_
          refine s_convI F.u_21 F.u_5 rfl ?_
          refine s_binI (v := (.int .u8 (Go.bits .or .u8 224 (IntKind.u8.wrap (Int.fdiv a1 (2 ^ 12)))))) rfl rfl rfl ?_
          refine s_move (d := (sc (.int .i32 a1))) rfl ?_
          refine s_shift (v := (.int .i32 (Int.fdiv a1 (2 ^ 6)))) rfl rfl rfl ?_
          refine s_convI F.u_21 F.u_5 rfl ?_
          refine s_binI (v := (.int .u8 (Go.bits .and .u8 (IntKind.u8.wrap (Int.fdiv a1 (2 ^ 6))) 63))) rfl rfl rfl ?_
          refine s_binI (v := (.int .u8 (Go.bits .or .u8 128 (Go.bits .and .u8 (IntKind.u8.wrap (Int.fdiv a1 (2 ^ 6))) 63)))) rfl rfl rfl ?_
          refine s_move (d := (sc (.int .i32 a1))) rfl ?_
          refine s_convI F.u_21 F.u_5 rfl ?_
          refine s_binI (v := (.int .u8 (Go.bits .and .u8 (IntKind.u8.wrap a1) 63))) rfl rfl rfl ?_
          refine s_binI (v := (.int .u8 (Go.bits .or .u8 128 (Go.bits .and .u8 (IntKind.u8.wrap a1) 63)))) rfl rfl rfl ?_
          refine s_buildSlice (n := 3) (ps := [(0, (sc (.int .u8 (Go.bits .or .u8 224 (IntKind.u8.wrap (Int.fdiv a1 (2 ^ 12))))))), (1, (sc (.int .u8 (Go.bits .or .u8 128 (Go.bits .and .u8 (IntKind.u8.wrap (Int.fdiv a1 (2 ^ 6))) 63))))), (2, (sc (.int .u8 (Go.bits .or .u8 128 (Go.bits .and .u8 (IntKind.u8.wrap a1) 63)))))]) (cs := rowC e_u8 ([Go.bits .or .u8 224 (IntKind.u8.wrap (Int.fdiv a1 (2 ^ 12))), Go.bits .or .u8 128 (Go.bits .and .u8 (IntKind.u8.wrap (Int.fdiv a1 (2 ^ 6))) 63), Go.bits .or .u8 128 (Go.bits .and .u8 (IntKind.u8.wrap a1) 63)] : List Int)) F.u_31 F.sz_5 F.z_5 rfl rfl (by decide) (by decide) rfl rfl ?_
          by_cases c5 : (decide (([] : List Int).length + ([Go.bits .or .u8 224 (IntKind.u8.wrap (Int.fdiv a1 (2 ^ 12))), Go.bits .or .u8 128 (Go.bits .and .u8 (IntKind.u8.wrap (Int.fdiv a1 (2 ^ 6))) 63), Go.bits .or .u8 128 (Go.bits .and .u8 (IntKind.u8.wrap a1) 63)] : List Int).length ≤ 140737488355328)) = true
          · replace h := (if_pos c5).symm.trans h
            have dc5 := of_decide_eq_true c5
            refine t_append (xs := ([] : List Int)) (ys := ([Go.bits .or .u8 224 (IntKind.u8.wrap (Int.fdiv a1 (2 ^ 12))), Go.bits .or .u8 128 (Go.bits .and .u8 (IntKind.u8.wrap (Int.fdiv a1 (2 ^ 6))) 63), Go.bits .or .u8 128 (Go.bits .and .u8 (IntKind.u8.wrap a1) 63)] : List Int)) (zs := ([Go.bits .or .u8 224 (IntKind.u8.wrap (Int.fdiv a1 (2 ^ 12))), Go.bits .or .u8 128 (Go.bits .and .u8 (IntKind.u8.wrap (Int.fdiv a1 (2 ^ 6))) 63), Go.bits .or .u8 128 (Go.bits .and .u8 (IntKind.u8.wrap a1) 63)] : List Int)) (H' := [(some (AObj.cells true (rowC e_u8 ([Go.bits .or .u8 224 (IntKind.u8.wrap (Int.fdiv a1 (2 ^ 12))), Go.bits .or .u8 128 (Go.bits .and .u8 (IntKind.u8.wrap (Int.fdiv a1 (2 ^ 6))) 63), Go.bits .or .u8 128 (Go.bits .and .u8 (IntKind.u8.wrap a1) 63)] : List Int)))), (some (AObj.cells true (rowC e_u8 ([Go.bits .or .u8 224 (IntKind.u8.wrap (Int.fdiv a1 (2 ^ 12))), Go.bits .or .u8 128 (Go.bits .and .u8 (IntKind.u8.wrap (Int.fdiv a1 (2 ^ 6))) 63), Go.bits .or .u8 128 (Go.bits .and .u8 (IntKind.u8.wrap a1) 63)] : List Int))))]) F.u_31 F.in_5 rfl e_u8_len .nil (.own rfl rfl) F.u_31 (by omega) (by omega) rfl rfl ?_
            refine s_assign (d := (D.one (C.own 1 0 (([Go.bits .or .u8 224 (IntKind.u8.wrap (Int.fdiv a1 (2 ^ 12))), Go.bits .or .u8 128 (Go.bits .and .u8 (IntKind.u8.wrap (Int.fdiv a1 (2 ^ 6))) 63), Go.bits .or .u8 128 (Go.bits .and .u8 (IntKind.u8.wrap a1) 63)] : List Int).length) 1))) rfl ?_
            refine AWops.nil ?_
            refine AW.ret ?_
            obtain rfl := Option.some.inj h
            exact ⟨_, rfl, (Weak.gen (kk := 0) [1] [] rfl rfl (by decide) (by decide) rfl rfl rfl (le_upd (le_top _) (.t (.one (.own rfl)))) (All2.cons (.cells (fun h => h) (all2_row _)) All2.nil))⟩
          · replace h := (if_neg c5).symm.trans h
            cases h
        · replace h := (if_neg c4).symm.trans h
          replace c4 := Bool.eq_false_iff.mpr c4
          refine AW.cond_no rfl c4 ?_
          refine AW.seq ?_
          refine AW.region ?_
          refine s_move (d := (sc (.int .u32 (IntKind.u32.wrap a1)))) rfl ?_
          refine s_binI (v := (.bool (decide ((IntKind.u32.wrap a1) > 65535)))) rfl rfl rfl ?_
          refine s_move (d := (sc (.bool (decide ((IntKind.u32.wrap a1) > 65535))))) rfl ?_
          by_cases c6 : (decide ((IntKind.u32.wrap a1) > 65535)) = true
          · replace h := (if_pos c6).symm.trans h
            refine AWops.guard_yes rfl (Nat.le_of_ble_eq_true rfl) rfl c6 ?_
            refine s_move (d := (sc (.int .u32 (IntKind.u32.wrap a1)))) rfl ?_
            refine AWops.guard_yes rfl (Nat.le_of_ble_eq_true rfl) rfl c6 ?_
            refine s_binI (v := (.bool (decide ((IntKind.u32.wrap a1) ≤ 1114111)))) rfl rfl rfl ?_
            refine s_pick_yes (d := (sc (.bool (decide ((IntKind.u32.wrap a1) ≤ 1114111))))) rfl c6 rfl ?_
            refine s_assign (d := (sc (.bool (decide ((IntKind.u32.wrap a1) ≤ 1114111))))) rfl ?_
            refine AWops.nil ?_
            by_cases c7 : (decide ((IntKind.u32.wrap a1) ≤ 1114111)) = true
            · replace h := (if_pos c7).symm.trans h
              refine AW.cond_yes rfl c7 ?_
              refine AW.seq ?_
              refine AW.region ?_
              refine s_move (d := (sc (.slice none 0 0))) rfl ?_
              refine s_move (d := (sc (.int .i32 a1))) rfl ?_
              refine s_shift (v := (.int .i32 (Int.fdiv a1 (2 ^ 18)))) rfl rfl rfl ?_
              refine s_convI F.u_21 F.u_5 rfl ?_
              refine s_binI (v := (.int .u8 (Go.bits .or .u8 240 (IntKind.u8.wrap (Int.fdiv a1 (2 ^ 18)))))) rfl rfl rfl ?_
              refine s_move (d := (sc (.int .i32 a1))) rfl ?_
              refine s_shift (v := (.int .i32 (Int.fdiv a1 (2 ^ 12)))) rfl rfl rfl ?_
              refine s_convI F.u_21 F.u_5 rfl ?_
              refine s_binI (v := (.int .u8 (Go.bits .and .u8 (IntKind.u8.wrap (Int.fdiv a1 (2 ^ 12))) 63))) rfl rfl rfl ?_
              refine s_binI (v := (.int .u8 (Go.bits .or .u8 128 (Go.bits .and .u8 (IntKind.u8.wrap (Int.fdiv a1 (2 ^ 12))) 63)))) rfl rfl rfl ?_
              refine s_move (d := (sc (.int .i32 a1))) rfl ?_
              refine s_shift (v := (.int .i32 (Int.fdiv a1 (2 ^ 6)))) rfl rfl rfl ?_
              refine s_convI F.u_21 F.u_5 rfl ?_
              refine s_binI (v := (.int .u8 (Go.bits .and .u8 (IntKind.u8.wrap (Int.fdiv a1 (2 ^ 6))) 63))) rfl rfl rfl ?_
              refine s_binI (v := (.int .u8 (Go.bits .or .u8 128 (Go.bits .and .u8 (IntKind.u8.wrap (Int.fdiv a1 (2 ^ 6))) 63)))) rfl rfl rfl ?_
              refine s_move (d := (sc (.int .i32 a1))) rfl ?_
              refine s_convI F.u_21 F.u_5 rfl ?_
              refine s_binI (v := (.int .u8 (Go.bits .and .u8 (IntKind.u8.wrap a1) 63))) rfl rfl rfl ?_
              refine s_binI (v := (.int .u8 (Go.bits .or .u8 128 (Go.bits .and .u8 (IntKind.u8.wrap a1) 63)))) rfl rfl rfl ?_
              refine s_buildSlice (n := 4) (ps := [(0, (sc (.int .u8 (Go.bits .or .u8 240 (IntKind.u8.wrap (Int.fdiv a1 (2 ^ 18))))))), (1, (sc (.int .u8 (Go.bits .or .u8 128 (Go.bits .and .u8 (IntKind.u8.wrap (Int.fdiv a1 (2 ^ 12))) 63))))), (2, (sc (.int .u8 (Go.bits .or .u8 128 (Go.bits .and .u8 (IntKind.u8.wrap (Int.fdiv a1 (2 ^ 6))) 63))))), (3, (sc (.int .u8 (Go.bits .or .u8 128 (Go.bits .and .u8 (IntKind.u8.wrap a1) 63)))))]) (cs := rowC e_u8 ([Go.bits .or .u8 240 (IntKind.u8.wrap (Int.fdiv a1 (2 ^ 18))), Go.bits .or .u8 128 (Go.bits .and .u8 (IntKind.u8.wrap (Int.fdiv a1 (2 ^ 12))) 63), Go.bits .or .u8 128 (Go.bits .and .u8 (IntKind.u8.wrap (Int.fdiv a1 (2 ^ 6))) 63), Go.bits .or .u8 128 (Go.bits .and .u8 (IntKind.u8.wrap a1) 63)] : List Int)) F.u_31 F.sz_5 F.z_5 rfl rfl (by decide) (by decide) rfl rfl ?_
              by_cases c8 : (decide (([] : List Int).length + ([Go.bits .or .u8 240 (IntKind.u8.wrap (Int.fdiv a1 (2 ^ 18))), Go.bits .or .u8 128 (Go.bits .and .u8 (IntKind.u8.wrap (Int.fdiv a1 (2 ^ 12))) 63), Go.bits .or .u8 128 (Go.bits .and .u8 (IntKind.u8.wrap (Int.fdiv a1 (2 ^ 6))) 63), Go.bits .or .u8 128 (Go.bits .and .u8 (IntKind.u8.wrap a1) 63)] : List Int).length ≤ 140737488355328)) = true
              · replace h := (if_pos c8).symm.trans h
                have dc8 := of_decide_eq_true c8
                refine t_append (xs := ([] : List Int)) (ys := ([Go.bits .or .u8 240 (IntKind.u8.wrap (Int.fdiv a1 (2 ^ 18))), Go.bits .or .u8 128 (Go.bits .and .u8 (IntKind.u8.wrap (Int.fdiv a1 (2 ^ 12))) 63), Go.bits .or .u8 128 (Go.bits .and .u8 (IntKind.u8.wrap (Int.fdiv a1 (2 ^ 6))) 63), Go.bits .or .u8 128 (Go.bits .and .u8 (IntKind.u8.wrap a1) 63)] : List Int)) (zs := ([Go.bits .or .u8 240 (IntKind.u8.wrap (Int.fdiv a1 (2 ^ 18))), Go.bits .or .u8 128 (Go.bits .and .u8 (IntKind.u8.wrap (Int.fdiv a1 (2 ^ 12))) 63), Go.bits .or .u8 128 (Go.bits .and .u8 (IntKind.u8.wrap (Int.fdiv a1 (2 ^ 6))) 63), Go.bits .or .u8 128 (Go.bits .and .u8 (IntKind.u8.wrap a1) 63)] : List Int)) (H' := [(some (AObj.cells true (rowC e_u8 ([Go.bits .or .u8 240 (IntKind.u8.wrap (Int.fdiv a1 (2 ^ 18))), Go.bits .or .u8 128 (Go.bits .and .u8 (IntKind.u8.wrap (Int.fdiv a1 (2 ^ 12))) 63), Go.bits .or .u8 128 (Go.bits .and .u8 (IntKind.u8.wrap (Int.fdiv a1 (2 ^ 6))) 63), Go.bits .or .u8 128 (Go.bits .and .u8 (IntKind.u8.wrap a1) 63)] : List Int)))), (some (AObj.cells true (rowC e_u8 ([Go.bits .or .u8 240 (IntKind.u8.wrap (Int.fdiv a1 (2 ^ 18))), Go.bits .or .u8 128 (Go.bits .and .u8 (IntKind.u8.wrap (Int.fdiv a1 (2 ^ 12))) 63), Go.bits .or .u8 128 (Go.bits .and .u8 (IntKind.u8.wrap (Int.fdiv a1 (2 ^ 6))) 63), Go.bits .or .u8 128 (Go.bits .and .u8 (IntKind.u8.wrap a1) 63)] : List Int))))]) F.u_31 F.in_5 rfl e_u8_len .nil (.own rfl rfl) F.u_31 (by omega) (by omega) rfl rfl ?_
                refine s_assign (d := (D.one (C.own 1 0 (([Go.bits .or .u8 240 (IntKind.u8.wrap (Int.fdiv a1 (2 ^ 18))), Go.bits .or .u8 128 (Go.bits .and .u8 (IntKind.u8.wrap (Int.fdiv a1 (2 ^ 12))) 63), Go.bits .or .u8 128 (Go.bits .and .u8 (IntKind.u8.wrap (Int.fdiv a1 (2 ^ 6))) 63), Go.bits .or .u8 128 (Go.bits .and .u8 (IntKind.u8.wrap a1) 63)] : List Int).length) 1))) rfl ?_
                refine AWops.nil ?_
                refine AW.ret ?_
                obtain rfl := Option.some.inj h
                exact ⟨_, rfl, (Weak.gen (kk := 0) [1] [] rfl rfl (by decide) (by decide) rfl rfl rfl (le_upd (le_top _) (.t (.one (.own rfl)))) (All2.cons (.cells (fun h => h) (all2_row _)) All2.nil))⟩
              · replace h := (if_neg c8).symm.trans h
                cases h
            · replace h := (if_neg c7).symm.trans h
              replace c7 := Bool.eq_false_iff.mpr c7
              refine AW.cond_no rfl c7 ?_
              refine AW.seq ?_
              refine AW.region ?_
              refine s_move (d := (sc (.slice none 0 0))) rfl ?_
              refine s_buildSlice (n := 3) (ps := [(0, (sc (.int .u8 239))), (1, (sc (.int .u8 191))), (2, (sc (.int .u8 189)))]) (cs := rowC e_u8 ([239, 191, 189] : List Int)) F.u_31 F.sz_5 F.z_5 rfl rfl (by decide) (by decide) rfl rfl ?_
              by_cases c9 : (decide (([] : List Int).length + ([239, 191, 189] : List Int).length ≤ 140737488355328)) = true
              · replace h := (if_pos c9).symm.trans h
                have dc9 := of_decide_eq_true c9
                refine t_append (xs := ([] : List Int)) (ys := ([239, 191, 189] : List Int)) (zs := ([239, 191, 189] : List Int)) (H' := [(some (AObj.cells true (rowC e_u8 ([239, 191, 189] : List Int)))), (some (AObj.cells true (rowC e_u8 ([239, 191, 189] : List Int))))]) F.u_31 F.in_5 rfl e_u8_len .nil (.own rfl rfl) F.u_31 (by omega) (by omega) rfl rfl ?_
                refine s_assign (d := (D.one (C.own 1 0 (([239, 191, 189] : List Int).length) 1))) rfl ?_
                refine AWops.nil ?_
                refine AW.ret ?_
                obtain rfl := Option.some.inj h
                exact ⟨_, rfl, (Weak.gen (kk := 0) [1] [] rfl rfl (by decide) (by decide) rfl rfl rfl (le_upd (le_top _) (.t (.one (.own rfl)))) (All2.cons (.cells (fun h => h) (all2_row _)) All2.nil))⟩
              · replace h := (if_neg c9).symm.trans h
                cases h
          · replace h := (if_neg c6).symm.trans h
            replace c6 := Bool.eq_false_iff.mpr c6
            refine AWops.guard_no rfl (Nat.le_of_ble_eq_true rfl) rfl c6 ?_
            refine AWops.guard_no rfl (Nat.le_of_ble_eq_true rfl) rfl c6 ?_
            refine s_pick_no (d := (sc (.bool false))) rfl c6 rfl ?_
            refine s_assign (d := (sc (.bool false))) rfl ?_
            refine AWops.nil ?_
            refine AW.cond_no rfl rfl ?_
            refine AW.seq ?_
            refine AW.region ?_
            refine s_move (d := (sc (.slice none 0 0))) rfl ?_
            refine s_buildSlice (n := 3) (ps := [(0, (sc (.int .u8 239))), (1, (sc (.int .u8 191))), (2, (sc (.int .u8 189)))]) (cs := rowC e_u8 ([239, 191, 189] : List Int)) F.u_31 F.sz_5 F.z_5 rfl rfl (by decide) (by decide) rfl rfl ?_
            by_cases c10 : (decide (([] : List Int).length + ([239, 191, 189] : List Int).length ≤ 140737488355328)) = true
            · replace h := (if_pos c10).symm.trans h
              have dc10 := of_decide_eq_true c10
              refine t_append (xs := ([] : List Int)) (ys := ([239, 191, 189] : List Int)) (zs := ([239, 191, 189] : List Int)) (H' := [(some (AObj.cells true (rowC e_u8 ([239, 191, 189] : List Int)))), (some (AObj.cells true (rowC e_u8 ([239, 191, 189] : List Int))))]) F.u_31 F.in_5 rfl e_u8_len .nil (.own rfl rfl) F.u_31 (by omega) (by omega) rfl rfl ?_
              refine s_assign (d := (D.one (C.own 1 0 (([239, 191, 189] : List Int).length) 1))) rfl ?_
              refine AWops.nil ?_
              refine AW.ret ?_
              obtain rfl := Option.some.inj h
              exact ⟨_, rfl, (Weak.gen (kk := 0) [1] [] rfl rfl (by decide) (by decide) rfl rfl rfl (le_upd (le_top _) (.t (.one (.own rfl)))) (All2.cons (.cells (fun h => h) (all2_row _)) All2.nil))⟩
            · replace h := (if_neg c10).symm.trans h
              cases h
def utf8_AppendRune_nil0.f (k : Nat) (a1 : Int) : Option (List Int) := if (decide ((IntKind.u32.wrap a1) ≤ 127)) = true then (if (decide (([] : List Int).length + ([IntKind.u8.wrap a1] : List Int).length ≤ 140737488355328)) = true then (some ([IntKind.u8.wrap a1] : List Int)) else none) else ((utf8_appendRuneNonASCII_nil0.f k a1).bind fun r3 => some r3)
theorem utf8_AppendRune_nil0.meets (k : Nat) (a1 : Int) (r : (List Int)) (h : utf8_AppendRune_nil0.f k a1 = some r) : Meets Tryd.prog 32 [(sc (.slice none 0 0)), (sc (.int .i32 a1))] [] (D.one (C.own 0 0 r.length 1)) [(some (AObj.cells true (rowC e_u8 r)))] := by
  unfold utf8_AppendRune_nil0.f at h
  refine Meets.of_body (n := 16) Tryd.func32 rfl rfl (Nat.le_of_ble_eq_true rfl) fun x hx => ?_
  replace hx : x.k = 0 := hx
  show AW _ x _ _ ⟨16, fr0 [(sc (.slice none 0 0)), (sc (.int .i32 a1))], []⟩
  refine AW.seq ?_
  refine AW.region ?_
  refine s_assign (d := (sc (.slice none 0 0))) rfl ?_
  refine AWops.nil ?_
  refine AW.seq ?_
  refine AW.seq ?_
  refine AW.region ?_
  refine s_move (d := (sc (.int .i32 a1))) rfl ?_
  refine s_convI F.u_21 F.u_52 rfl ?_
  refine s_binI (v := (.bool (decide ((IntKind.u32.wrap a1) ≤ 127)))) rfl rfl rfl ?_
  refine AWops.nil ?_
  by_cases c1 : (decide ((IntKind.u32.wrap a1) ≤ 127)) = true
  · replace h := (if_pos c1).symm.trans h
    refine AW.cond_yes rfl c1 ?_
    refine AW.seq ?_
    refine AW.region ?_
    refine s_move (d := (sc (.slice none 0 0))) rfl ?_
    refine s_move (d := (sc (.int .i32 a1))) rfl ?_
    refine s_convI F.u_21 F.u_5 rfl ?_
    refine s_buildSlice (n := 1) (ps := [(0, (sc (.int .u8 (IntKind.u8.wrap a1))))]) (cs := rowC e_u8 ([IntKind.u8.wrap a1] : List Int)) F.u_31 F.sz_5 F.z_5 rfl rfl (by decide) (by decide) rfl rfl ?_
    by_cases c2 : (decide (([] : List Int).length + ([IntKind.u8.wrap a1] : List Int).length ≤ 140737488355328)) = true
    · replace h := (if_pos c2).symm.trans h
      have dc2 := of_decide_eq_true c2
      refine t_append (xs := ([] : List Int)) (ys := ([IntKind.u8.wrap a1] : List Int)) (zs := ([IntKind.u8.wrap a1] : List Int)) (H' := [(some (AObj.cells true (rowC e_u8 ([IntKind.u8.wrap a1] : List Int)))), (some (AObj.cells true (rowC e_u8 ([IntKind.u8.wrap a1] : List Int))))]) F.u_31 F.in_5 rfl e_u8_len .nil (.own rfl rfl) F.u_31 (by omega) (by omega) rfl rfl ?_
      refine s_assign (d := (D.one (C.own 1 0 (([IntKind.u8.wrap a1] : List Int).length) 1))) rfl ?_
      refine AWops.nil ?_
      refine AW.ret ?_
      obtain rfl := Option.some.inj h
      exact ⟨_, rfl, (Weak.gen (kk := 0) [1] [] rfl rfl (by decide) (by decide) rfl rfl rfl (le_upd (le_top _) (.t (.one (.own rfl)))) (All2.cons (.cells (fun h => h) (all2_row _)) All2.nil))⟩
    · replace h := (if_neg c2).symm.trans h
      cases h
  · replace h := (if_neg c1).symm.trans h
    replace c1 := Bool.eq_false_iff.mpr c1
    refine AW.cond_no rfl c1 ?_
    refine AW.skip ?_
    refine AW.seq ?_
    refine AW.region ?_
    refine s_move (d := (sc (.slice none 0 0))) rfl ?_
    refine s_move (d := (sc (.int .i32 a1))) rfl ?_
    obtain ⟨r3, er3, h⟩ := Option.bind_eq_some_iff.mp h
    refine s_call2 (ρ := []) (br := false) (H2 := [(some (AObj.cells true (rowC e_u8 r3)))]) (d := (D.one (C.own 0 0 r3.length 1))) F.ca_36 rfl rfl (All2.cons (.one .sc) (All2.cons (.one .sc) All2.nil)) All2.nil (by decide) rfl (utf8_appendRuneNonASCII_nil0.meets _ a1 r3 er3) (.inl rfl) (by first | rfl | (simp only [mergeH2, orF, Bool.false_or, Bool.or_false, Bool.true_or, Bool.or_true, mergeAt, mergeObj, renO, ren_row, List.drop_succ_cons, List.drop_zero, List.map_cons, List.map_nil, Option.map_some, Option.map_none, List.length_cons, List.length_nil, Nat.zero_add, List.append_assoc, List.cons_append, List.nil_append]; done) | (simp only [mergeH2, orF, Bool.false_or, Bool.or_false, Bool.true_or, Bool.or_true, mergeAt, mergeObj, renO, ren_row, List.drop_succ_cons, List.drop_zero, List.map_cons, List.map_nil, Option.map_some, Option.map_none, List.length_cons, List.length_nil, Nat.zero_add, List.append_assoc, List.cons_append, List.nil_append]; rfl)) rfl ?_
    refine s_assign (d := (D.one (C.own 0 0 r3.length 1))) rfl ?_
    refine AWops.nil ?_
    refine AW.ret ?_
    obtain rfl := Option.some.inj h
    exact ⟨_, rfl, (Weak.gen (kk := 0) [0] [] rfl rfl (by decide) (by decide) rfl rfl rfl (le_upd (le_top _) (.t (.one (.own rfl)))) (All2.cons (.cells (fun h => h) (all2_row _)) All2.nil))⟩
def chars_Encode.f (k : Nat) (a0 : Int) : Option (List Int) := if (decide (a0 < 0)) = true then (some ([] : List Int)) else (if (decide (a0 > 1114111)) = true then (some ([] : List Int)) else ((utf8_ValidRune.f k (IntKind.i32.wrap a0)).bind fun r3 => if r3 = true then ((utf8_AppendRune_nil0.f k (IntKind.i32.wrap a0)).bind fun r5 => some r5) else (some ([] : List Int))))
theorem chars_Encode.meets (k : Nat) (a0 : Int) (r : (List Int)) (h : chars_Encode.f k a0 = some r) : Meets Tryd.prog 23 [(sc (.int .i64 a0))] [] (D.one (C.own 0 0 r.length 1)) [(some (AObj.cells true (rowC e_u8 r)))] := by
  unfold chars_Encode.f at h
  refine Meets.of_body (n := 18) Tryd.func23 rfl rfl (Nat.le_of_ble_eq_true rfl) fun x hx => ?_
  replace hx : x.k = 0 := hx
  show AW _ x _ _ ⟨18, fr0 [(sc (.int .i64 a0))], []⟩
  refine AW.seq ?_
  refine AW.region ?_
  refine s_assign (d := (sc (.slice none 0 0))) rfl ?_
  refine AWops.nil ?_
  refine AW.seq ?_
  refine AW.seq ?_
  refine AW.region ?_
  refine s_move (d := (sc (.int .i64 a0))) rfl ?_
  refine s_binI (v := (.bool (decide (a0 < 0)))) rfl rfl rfl ?_
  refine s_move (d := (sc (.bool (decide (a0 < 0))))) rfl ?_
  by_cases c1 : (decide (a0 < 0)) = true
  · replace h := (if_pos c1).symm.trans h
    refine AWops.guard_no rfl (Nat.le_of_ble_eq_true rfl) rfl c1 ?_
    refine AWops.guard_no rfl (Nat.le_of_ble_eq_true rfl) rfl c1 ?_
    refine s_pick_yes (d := (sc (.bool true))) rfl c1 rfl ?_
    refine s_move (d := (sc (.bool true))) rfl ?_
    refine AWops.guard_no rfl (Nat.le_of_ble_eq_true rfl) rfl rfl ?_
    refine AWops.guard_no rfl (Nat.le_of_ble_eq_true rfl) rfl rfl ?_
    refine AWops.guard_no rfl (Nat.le_of_ble_eq_true rfl) rfl rfl ?_
    refine AWops.guard_no rfl (Nat.le_of_ble_eq_true rfl) rfl rfl ?_
    refine s_pick_yes (d := (sc (.bool true))) rfl rfl rfl ?_
    refine AWops.nil ?_
    refine AW.cond_yes rfl rfl ?_
    refine AW.seq ?_
    refine AW.region ?_
    refine s_assign (d := (sc (.slice none 0 0))) rfl ?_
    refine AWops.nil ?_
    refine AW.ret ?_
    obtain rfl := Option.some.inj h
    exact ⟨_, rfl, (Weak.trans (Weak.nil (sz := 1) (i := 0) rfl) (Weak.gen (kk := 0) [0] [] rfl rfl (by decide) (by decide) rfl rfl rfl (le_upd (le_top _) (.t (.one (CLe.ownN rfl (by simp))))) (All2.cons (.cells (fun h => h) All2.nil) All2.nil)))⟩
  · replace h := (if_neg c1).symm.trans h
    replace c1 := Bool.eq_false_iff.mpr c1
    refine AWops.guard_yes rfl (Nat.le_of_ble_eq_true rfl) rfl c1 ?_
    refine s_move (d := (sc (.int .i64 a0))) rfl ?_
    refine AWops.guard_yes rfl (Nat.le_of_ble_eq_true rfl) rfl c1 ?_
    refine s_binI (v := (.bool (decide (a0 > 1114111)))) rfl rfl rfl ?_
    refine s_pick_no (d := (sc (.bool (decide (a0 > 1114111))))) rfl c1 rfl ?_
    refine s_move (d := (sc (.bool (decide (a0 > 1114111))))) rfl ?_
    by_cases c2 : (decide (a0 > 1114111)) = true
    · replace h := (if_pos c2).symm.trans h
      refine AWops.guard_no rfl (Nat.le_of_ble_eq_true rfl) rfl c2 ?_
      refine AWops.guard_no rfl (Nat.le_of_ble_eq_true rfl) rfl c2 ?_
      refine AWops.guard_no rfl (Nat.le_of_ble_eq_true rfl) rfl c2 ?_
      refine AWops.guard_no rfl (Nat.le_of_ble_eq_true rfl) rfl c2 ?_
      refine s_pick_yes (d := (sc (.bool true))) rfl c2 rfl ?_
      refine AWops.nil ?_
      refine AW.cond_yes rfl rfl ?_
      refine AW.seq ?_
      refine AW.region ?_
      refine s_assign (d := (sc (.slice none 0 0))) rfl ?_
      refine AWops.nil ?_
      refine AW.ret ?_
      obtain rfl := Option.some.inj h
      exact ⟨_, rfl, (Weak.trans (Weak.nil (sz := 1) (i := 0) rfl) (Weak.gen (kk := 0) [0] [] rfl rfl (by decide) (by decide) rfl rfl rfl (le_upd (le_top _) (.t (.one (CLe.ownN rfl (by simp))))) (All2.cons (.cells (fun h => h) All2.nil) All2.nil)))⟩
    · replace h := (if_neg c2).symm.trans h
      replace c2 := Bool.eq_false_iff.mpr c2
      refine AWops.guard_yes rfl (Nat.le_of_ble_eq_true rfl) rfl c2 ?_
      refine s_move (d := (sc (.int .i64 a0))) rfl ?_
      refine AWops.guard_yes rfl (Nat.le_of_ble_eq_true rfl) rfl c2 ?_
      refine s_convI F.u_3 F.u_21 rfl ?_
      refine AWops.guard_yes rfl (Nat.le_of_ble_eq_true rfl) rfl c2 ?_
      obtain ⟨r3, er3, h⟩ := Option.bind_eq_some_iff.mp h
      refine s_call2 (ρ := []) (br := false) (H2 := []) (d := (sc (.bool r3))) F.ca_31 rfl rfl (All2.cons (.one .sc) All2.nil) All2.nil (by decide) rfl (utf8_ValidRune.meets _ (IntKind.i32.wrap a0) r3 er3) (.inl rfl) rfl rfl ?_
      refine AWops.guard_yes rfl (Nat.le_of_ble_eq_true rfl) rfl c2 ?_
      refine s_not rfl ?_
      refine s_pick_no (d := (sc (.bool (!r3)))) rfl c2 rfl ?_
      refine AWops.nil ?_
      by_cases c4 : r3 = true
      · replace h := (if_pos c4).symm.trans h
        refine AW.cond_no rfl (by rw [c4] <;> rfl) ?_
        refine AW.skip ?_
        refine AW.seq ?_
        refine AW.region ?_
        refine s_move (d := (sc (.int .i64 a0))) rfl ?_
        refine s_convI F.u_3 F.u_21 rfl ?_
        obtain ⟨r5, er5, h⟩ := Option.bind_eq_some_iff.mp h
        refine s_call2 (ρ := []) (br := false) (H2 := [(some (AObj.cells true (rowC e_u8 r5)))]) (d := (D.one (C.own 0 0 r5.length 1))) F.ca_32 rfl rfl (All2.cons (.one .sc) (All2.cons (.one .sc) All2.nil)) All2.nil (by decide) rfl (utf8_AppendRune_nil0.meets _ (IntKind.i32.wrap a0) r5 er5) (.inl rfl) (by first | rfl | (simp only [mergeH2, orF, Bool.false_or, Bool.or_false, Bool.true_or, Bool.or_true, mergeAt, mergeObj, renO, ren_row, List.drop_succ_cons, List.drop_zero, List.map_cons, List.map_nil, Option.map_some, Option.map_none, List.length_cons, List.length_nil, Nat.zero_add, List.append_assoc, List.cons_append, List.nil_append]; done) | (simp only [mergeH2, orF, Bool.false_or, Bool.or_false, Bool.true_or, Bool.or_true, mergeAt, mergeObj, renO, ren_row, List.drop_succ_cons, List.drop_zero, List.map_cons, List.map_nil, Option.map_some, Option.map_none, List.length_cons, List.length_nil, Nat.zero_add, List.append_assoc, List.cons_append, List.nil_append]; rfl)) rfl ?_
        refine s_assign (d := (D.one (C.own 0 0 r5.length 1))) rfl ?_
        refine AWops.nil ?_
        refine AW.ret ?_
        obtain rfl := Option.some.inj h
        exact ⟨_, rfl, (Weak.gen (kk := 0) [0] [] rfl rfl (by decide) (by decide) rfl rfl rfl (le_upd (le_top _) (.t (.one (.own rfl)))) (All2.cons (.cells (fun h => h) (all2_row _)) All2.nil))⟩
      · replace h := (if_neg c4).symm.trans h
        replace c4 := Bool.eq_false_iff.mpr c4
        refine AW.cond_yes rfl (by rw [c4] <;> rfl) ?_
        refine AW.seq ?_
        refine AW.region ?_
        refine s_assign (d := (sc (.slice none 0 0))) rfl ?_
        refine AWops.nil ?_
        refine AW.ret ?_
        obtain rfl := Option.some.inj h
        exact ⟨_, rfl, (Weak.trans (Weak.nil (sz := 1) (i := 0) rfl) (Weak.gen (kk := 0) [0] [] rfl rfl (by decide) (by decide) rfl rfl rfl (le_upd (le_top _) (.t (.one (CLe.ownN rfl (by simp))))) (All2.cons (.cells (fun h => h) All2.nil) All2.nil)))⟩
def bytes_Equal.f (k : Nat) (a0 : List Int) (a1 : List Int) : Option Bool := some ((ofNums a0).toList == (ofNums a1).toList)
theorem bytes_Equal.meets (k : Nat) (a0 : List Int) (a1 : List Int) (r : Bool) (h : bytes_Equal.f k a0 a1 = some r) : Meets Tryd.prog 22 [(D.one (C.p false (.sl a0.length (a0.flatMap e_u8)))), (D.one (C.p false (.sl a1.length (a1.flatMap e_u8))))] [] (sc (.bool r)) [] := by
  unfold bytes_Equal.f at h
  refine Meets.of_body (n := 10) Tryd.func22 rfl rfl (Nat.le_of_ble_eq_true rfl) fun x hx => ?_
  replace hx : x.k = 0 := hx
  show AW _ x _ _ ⟨10, fr0 [(D.one (C.p false (.sl a0.length (a0.flatMap e_u8)))), (D.one (C.p false (.sl a1.length (a1.flatMap e_u8))))], []⟩
  refine AW.seq ?_
  refine AW.region ?_
  refine s_assign (d := (sc (.bool false))) rfl ?_
  refine AWops.nil ?_
  refine AW.seq ?_
  refine AW.region ?_
  refine s_move (d := (D.one (C.p false (.sl a0.length (a0.flatMap e_u8))))) rfl ?_
  refine t_toStr (xs := a0) F.u_31 F.u_5 F.u_9 .imm ?_
  refine s_move (d := (D.one (C.p false (.sl a1.length (a1.flatMap e_u8))))) rfl ?_
  refine t_toStr (xs := a1) F.u_31 F.u_5 F.u_9 .imm ?_
  refine s_binS (v := (.bool ((ofNums a0).toList == (ofNums a1).toList))) rfl rfl rfl ?_
  refine s_assign (d := (sc (.bool ((ofNums a0).toList == (ofNums a1).toList)))) rfl ?_
  refine AWops.nil ?_
  refine AW.ret ?_
  obtain rfl := Option.some.inj h
  exact ⟨_, rfl, (Weak.gen (kk := 0) [] [] rfl rfl (by decide) (by decide) rfl rfl rfl (le_upd (le_top _) (.t (.one .sc))) All2.nil)⟩
def chars_ofXML.f (k : Nat) (a0 : Int) : Option Bool := (chars_in.f k a0 ([(⟨32, 55295⟩ : chars_span), (⟨9, 10⟩ : chars_span), (⟨13, 13⟩ : chars_span), (⟨57344, 65533⟩ : chars_span), (⟨65536, 1114111⟩ : chars_span)] : List chars_span)).bind fun r1 => some r1
theorem chars_ofXML.meets (k : Nat) (a0 : Int) (r : Bool) (h : chars_ofXML.f k a0 = some r) : Meets Tryd.prog 33 [(sc (.int .i64 a0))] [] (sc (.bool r)) [] := by
  unfold chars_ofXML.f at h
  refine Meets.of_body (n := 11) Tryd.func33 rfl rfl (Nat.le_of_ble_eq_true rfl) fun x hx => ?_
  replace hx : x.k = 0 := hx
  show AW _ x _ _ ⟨11, fr0 [(sc (.int .i64 a0))], []⟩
  refine AW.seq ?_
  refine AW.region ?_
  refine s_assign (d := (sc (.bool false))) rfl ?_
  refine AWops.nil ?_
  refine AW.seq ?_
  refine AW.region ?_
  refine s_move (d := (sc (.int .i64 a0))) rfl ?_
  refine s_build (ps := [(0, (sc (.int .i64 32))), (1, (sc (.int .i64 55295)))]) (cs := [(C.p true (.v (.int .i64 32))), (C.p true (.v (.int .i64 55295)))]) F.z_41 rfl F.so_41 rfl rfl ?_
  refine s_build (ps := [(0, (sc (.int .i64 9))), (1, (sc (.int .i64 10)))]) (cs := [(C.p true (.v (.int .i64 9))), (C.p true (.v (.int .i64 10)))]) F.z_41 rfl F.so_41 rfl rfl ?_
  refine s_build (ps := [(0, (sc (.int .i64 13))), (1, (sc (.int .i64 13)))]) (cs := [(C.p true (.v (.int .i64 13))), (C.p true (.v (.int .i64 13)))]) F.z_41 rfl F.so_41 rfl rfl ?_
  refine s_build (ps := [(0, (sc (.int .i64 57344))), (1, (sc (.int .i64 65533)))]) (cs := [(C.p true (.v (.int .i64 57344))), (C.p true (.v (.int .i64 65533)))]) F.z_41 rfl F.so_41 rfl rfl ?_
  refine s_build (ps := [(0, (sc (.int .i64 65536))), (1, (sc (.int .i64 1114111)))]) (cs := [(C.p true (.v (.int .i64 65536))), (C.p true (.v (.int .i64 1114111)))]) F.z_41 rfl F.so_41 rfl rfl ?_
  refine s_buildSlice (n := 5) (ps := [(0, (D.agg [(C.p true (.v (.int .i64 32))), (C.p true (.v (.int .i64 55295)))])), (1, (D.agg [(C.p true (.v (.int .i64 9))), (C.p true (.v (.int .i64 10)))])), (2, (D.agg [(C.p true (.v (.int .i64 13))), (C.p true (.v (.int .i64 13)))])), (3, (D.agg [(C.p true (.v (.int .i64 57344))), (C.p true (.v (.int .i64 65533)))])), (4, (D.agg [(C.p true (.v (.int .i64 65536))), (C.p true (.v (.int .i64 1114111)))]))]) (cs := rowC e_chars_span ([(⟨32, 55295⟩ : chars_span), (⟨9, 10⟩ : chars_span), (⟨13, 13⟩ : chars_span), (⟨57344, 65533⟩ : chars_span), (⟨65536, 1114111⟩ : chars_span)] : List chars_span)) F.u_42 F.sz_41 F.z_41 rfl rfl (by decide) (by decide) rfl rfl ?_
  obtain ⟨r1, er1, h⟩ := Option.bind_eq_some_iff.mp h
  refine s_call2 (ρ := []) (br := true) (H2 := [(some (AObj.cells true (rowC e_chars_span ([(⟨32, 55295⟩ : chars_span), (⟨9, 10⟩ : chars_span), (⟨13, 13⟩ : chars_span), (⟨57344, 65533⟩ : chars_span), (⟨65536, 1114111⟩ : chars_span)] : List chars_span))))]) (d := (sc (.bool r1))) F.ca_27 rfl rfl (All2.cons (.one .sc) (All2.cons (.one (LendC.bor e_chars_span_len rfl rfl rfl)) All2.nil)) All2.nil (by decide) rfl (chars_in.meets _ a0 ([(⟨32, 55295⟩ : chars_span), (⟨9, 10⟩ : chars_span), (⟨13, 13⟩ : chars_span), (⟨57344, 65533⟩ : chars_span), (⟨65536, 1114111⟩ : chars_span)] : List chars_span) r1 er1) (.inr ⟨rfl, rfl⟩) rfl rfl ?_
  refine s_assign (d := (sc (.bool r1))) rfl ?_
  refine AWops.nil ?_
  refine AW.ret ?_
  obtain rfl := Option.some.inj h
  exact ⟨_, rfl, (Weak.gen (kk := 0) [] [] rfl rfl (by decide) (by decide) rfl rfl rfl (le_upd (le_top _) (.t (.one .sc))) All2.nil)⟩
mutual
def chars_Wrong.l0 : Nat → Int → (List Int) → Option Int
  | 0, _, _ => none
  | k + 1, x1, a0 => if (decide (x1 < (a0.length : Int))) = true then (if (decide (0 ≤ x1 ∧ x1 ≤ (a0.length : Int) ∧ (a0.length : Int) ≤ (a0.length : Int))) = true then ((chars_Decode.f k (sub a0 x1 (a0.length : Int))).bind fun r4 => if (r4.2 == 0) = true then (some x1) else ((chars_ofXML.f k r4.1).bind fun r6 => if r6 = true then (chars_Wrong.l0 k (IntKind.i64.wrap (x1 + r4.2)) a0) else (some x1))) else none) else (some (-1))
end
def chars_Wrong.f (k : Nat) (a0 : List Int) : Option Int := chars_Wrong.l0 k 0 a0
theorem chars_Wrong.meets (k : Nat) (a0 : List Int) (r : Int) (h : chars_Wrong.f k a0 = some r) : Meets Tryd.prog 25 [(D.one (C.p false (.sl a0.length (a0.flatMap e_u8))))] [] (sc (.int .i64 r)) [] := by
  unfold chars_Wrong.f at h
  refine Meets.of_body (n := 28) Tryd.func25 rfl rfl (Nat.le_of_ble_eq_true rfl) fun x hx => ?_
  replace hx : x.k = 0 := hx
  show AW _ x _ _ ⟨28, fr0 [(D.one (C.p false (.sl a0.length (a0.flatMap e_u8))))], []⟩
  refine AW.seq ?_
  refine AW.region ?_
  refine s_assign (d := (sc (.int .i64 0))) rfl ?_
  refine AWops.nil ?_
  refine AW.seq ?_
  refine AW.seq ?_
  refine AW.region ?_
  refine s_assign (d := (sc (.int .i64 0))) rfl ?_
  refine AWops.nil ?_
  refine AW.block ?_
  refine AW.loopw (st0 := ⟨28, (upd 28 (upd 28 topF 0 (D.one (C.p false (.sl a0.length (a0.flatMap e_u8))))) 3 (sc (.int .i64 0))), []⟩) (fun kv st => kv ≤ k ∧ ∃ (x1 : Int), chars_Wrong.l0 kv x1 a0 = some r ∧ st = ⟨28, (upd 28 (upd 28 topF 0 (D.one (C.p false (.sl a0.length (a0.flatMap e_u8))))) 3 (sc (.int .i64 x1))), []⟩) (k := k) (Weak.gen (kk := 0) [] [] hx rfl (by decide) (by decide) rfl rfl rfl (le_upd (le_upd (le_top _) (.t (.one .same))) (.t (.one .sc))) All2.nil) ⟨Nat.le_refl _, 0, h, rfl⟩ ?_
  rintro ql0 st ⟨hkl0, x1, h, rfl⟩
  cases ql0 with
  | zero => exact absurd h (by simp [chars_Wrong.l0])
  | succ ql0 =>
    replace h := (chars_Wrong.l0.eq_2 _ _ _).symm.trans h
    refine AW.seq ?_
    refine AW.seq ?_
    refine AW.region ?_
    refine s_move (d := (sc (.int .i64 x1))) rfl ?_
    refine s_move (d := (D.one (C.p false (.sl a0.length (a0.flatMap e_u8))))) rfl ?_
    refine s_len (n := a0.length) F.u_31 rfl (.inr ⟨(fun _ _ h => by cases h), ⟨_, rfl⟩⟩) ?_
    refine s_binI (v := (.bool (decide (x1 < (a0.length : Int))))) rfl rfl rfl ?_
    refine AWops.nil ?_
    by_cases c2 : (decide (x1 < (a0.length : Int))) = true
    · replace h := (if_pos c2).symm.trans h
      refine AW.cond_yes rfl c2 ?_
      refine AW.skip ?_
      refine AW.block ?_
      refine AW.seq ?_
      refine AW.region ?_
      refine s_move (d := (D.one (C.p false (.sl a0.length (a0.flatMap e_u8))))) rfl ?_
      refine s_move (d := (sc (.int .i64 x1))) rfl ?_
      by_cases c3 : (decide (0 ≤ x1 ∧ x1 ≤ (a0.length : Int) ∧ (a0.length : Int) ≤ (a0.length : Int))) = true
      · replace h := (if_pos c3).symm.trans h
        have dc3 := of_decide_eq_true c3
        refine t_sliceImm (a := x1) (b := (a0.length : Int)) F.u_31 F.sz_5 e_u8_len rfl (by omega) (by omega) (by omega) (.yes rfl (by omega) rfl) .no ?_
        obtain ⟨r4, er4, h⟩ := Option.bind_eq_some_iff.mp h
        refine s_call2 (ρ := []) (br := false) (H2 := []) (d := (D.tup [(sc (.int .i64 r4.1)), (sc (.int .i64 r4.2))])) F.ca_20 rfl rfl (All2.cons (.one .imm) All2.nil) All2.nil (by decide) rfl (chars_Decode.meets _ (sub a0 x1 (a0.length : Int)) r4 er4) (.inl rfl) rfl rfl ?_
        refine s_move (d := (D.tup [(sc (.int .i64 r4.1)), (sc (.int .i64 r4.2))])) rfl ?_
        refine s_extract (d := (sc (.int .i64 r4.1))) rfl rfl ?_
        refine s_extract (d := (sc (.int .i64 r4.2))) rfl rfl ?_
        refine s_assign (d := (sc (.int .i64 r4.1))) rfl ?_
        refine s_assign (d := (sc (.int .i64 r4.2))) rfl ?_
        refine AWops.nil ?_
        refine AW.seq ?_
        refine AW.seq ?_
        refine AW.region ?_
        refine s_move (d := (sc (.int .i64 r4.2))) rfl ?_
        refine s_binI (v := (.bool (r4.2 == 0))) rfl rfl rfl ?_
        refine s_move (d := (sc (.bool (r4.2 == 0)))) rfl ?_
        by_cases c5 : (r4.2 == 0) = true
        · replace h := (if_pos c5).symm.trans h
          refine AWops.guard_no rfl (Nat.le_of_ble_eq_true rfl) rfl c5 ?_
          refine AWops.guard_no rfl (Nat.le_of_ble_eq_true rfl) rfl c5 ?_
          refine AWops.guard_no rfl (Nat.le_of_ble_eq_true rfl) rfl c5 ?_
          refine s_pick_yes (d := (sc (.bool true))) rfl c5 rfl ?_
          refine AWops.nil ?_
          refine AW.cond_yes rfl rfl ?_
          refine AW.seq ?_
          refine AW.region ?_
          refine s_move (d := (sc (.int .i64 x1))) rfl ?_
          refine s_assign (d := (sc (.int .i64 x1))) rfl ?_
          refine AWops.nil ?_
          refine AW.ret ?_
          obtain rfl := Option.some.inj h
          exact ⟨_, rfl, (Weak.gen (kk := 0) [] [] rfl rfl (by decide) (by decide) rfl rfl rfl (le_upd (le_top _) (.t (.one .sc))) All2.nil)⟩
        · replace h := (if_neg c5).symm.trans h
          replace c5 := Bool.eq_false_iff.mpr c5
          refine AWops.guard_yes rfl (Nat.le_of_ble_eq_true rfl) rfl c5 ?_
          refine s_move (d := (sc (.int .i64 r4.1))) rfl ?_
          refine AWops.guard_yes rfl (Nat.le_of_ble_eq_true rfl) rfl c5 ?_
          obtain ⟨r6, er6, h⟩ := Option.bind_eq_some_iff.mp h
          refine s_call2 (ρ := []) (br := false) (H2 := []) (d := (sc (.bool r6))) F.ca_33 rfl rfl (All2.cons (.one .sc) All2.nil) All2.nil (by decide) rfl (chars_ofXML.meets _ r4.1 r6 er6) (.inl rfl) rfl rfl ?_
          refine AWops.guard_yes rfl (Nat.le_of_ble_eq_true rfl) rfl c5 ?_
          refine s_not rfl ?_
          refine s_pick_no (d := (sc (.bool (!r6)))) rfl c5 rfl ?_
          refine AWops.nil ?_
          by_cases c7 : r6 = true
          · replace h := (if_pos c7).symm.trans h
            refine AW.cond_no rfl (by rw [c7] <;> rfl) ?_
            refine AW.skip ?_
            refine AW.region ?_
            refine s_move (d := (sc (.int .i64 x1))) rfl ?_
            refine s_move (d := (sc (.int .i64 r4.2))) rfl ?_
            refine s_binI (v := (.int .i64 (IntKind.i64.wrap (x1 + r4.2)))) rfl rfl rfl ?_
            refine s_assign (d := (sc (.int .i64 (IntKind.i64.wrap (x1 + r4.2))))) rfl ?_
            refine AWops.nil ?_
            exact ⟨_, ⟨28, (upd 28 (upd 28 topF 0 (D.one (C.p false (.sl a0.length (a0.flatMap e_u8))))) 3 (sc (.int .i64 (IntKind.i64.wrap (x1 + r4.2))))), []⟩, by omega, (Weak.gen (kk := 0) [] [] hx rfl (by decide) (by decide) rfl rfl rfl (le_upd (le_upd (le_top _) (.t (.one .same))) (.t (.one .sc))) All2.nil), by omega, IntKind.i64.wrap (x1 + r4.2), h, rfl⟩
          · replace h := (if_neg c7).symm.trans h
            replace c7 := Bool.eq_false_iff.mpr c7
            refine AW.cond_yes rfl (by rw [c7] <;> rfl) ?_
            refine AW.seq ?_
            refine AW.region ?_
            refine s_move (d := (sc (.int .i64 x1))) rfl ?_
            refine s_assign (d := (sc (.int .i64 x1))) rfl ?_
            refine AWops.nil ?_
            refine AW.ret ?_
            obtain rfl := Option.some.inj h
            exact ⟨_, rfl, (Weak.gen (kk := 0) [] [] rfl rfl (by decide) (by decide) rfl rfl rfl (le_upd (le_top _) (.t (.one .sc))) All2.nil)⟩
      · replace h := (if_neg c3).symm.trans h
        cases h
    · replace h := (if_neg c2).symm.trans h
      replace c2 := Bool.eq_false_iff.mpr c2
      refine AW.cond_no rfl c2 ?_
      refine AW.exit ?_
      refine AW.seq ?_
      refine AW.region ?_
      refine s_assign (d := (sc (.int .i64 (-1)))) rfl ?_
      refine AWops.nil ?_
      refine AW.ret ?_
      obtain rfl := Option.some.inj h
      exact ⟨_, rfl, (Weak.gen (kk := 0) [] [] rfl rfl (by decide) (by decide) rfl rfl rfl (le_upd (le_top _) (.t (.one .sc))) All2.nil)⟩
def dossierref01_OfXML.f (k : Nat) (a0 : Int) : Option Bool := (dossierref01_within.f k a0 ([9, 10, 13, 13, 32, 55295, 57344, 65533, 65536, 1114111] : List Int)).bind fun r1 => some r1
theorem dossierref01_OfXML.meets (k : Nat) (a0 : Int) (r : Bool) (h : dossierref01_OfXML.f k a0 = some r) : Meets Tryd.prog 34 [(sc (.int .i64 a0))] [] (sc (.bool r)) [] := by
  unfold dossierref01_OfXML.f at h
  refine Meets.of_body (n := 6) Tryd.func34 rfl rfl (Nat.le_of_ble_eq_true rfl) fun x hx => ?_
  replace hx : x.k = 0 := hx
  show AW _ x _ _ ⟨6, fr0 [(sc (.int .i64 a0))], []⟩
  refine AW.seq ?_
  refine AW.region ?_
  refine s_assign (d := (sc (.bool false))) rfl ?_
  refine AWops.nil ?_
  refine AW.seq ?_
  refine AW.region ?_
  refine s_move (d := (sc (.int .i64 a0))) rfl ?_
  refine s_buildSlice (n := 10) (ps := [(0, (sc (.int .i64 9))), (1, (sc (.int .i64 10))), (2, (sc (.int .i64 13))), (3, (sc (.int .i64 13))), (4, (sc (.int .i64 32))), (5, (sc (.int .i64 55295))), (6, (sc (.int .i64 57344))), (7, (sc (.int .i64 65533))), (8, (sc (.int .i64 65536))), (9, (sc (.int .i64 1114111)))]) (cs := rowC e_i64 ([9, 10, 13, 13, 32, 55295, 57344, 65533, 65536, 1114111] : List Int)) F.u_44 F.sz_3 F.z_3 rfl rfl (by decide) (by decide) rfl rfl ?_
  obtain ⟨r1, er1, h⟩ := Option.bind_eq_some_iff.mp h
  refine s_call2 (ρ := []) (br := true) (H2 := [(some (AObj.cells true (rowC e_i64 ([9, 10, 13, 13, 32, 55295, 57344, 65533, 65536, 1114111] : List Int))))]) (d := (sc (.bool r1))) F.ca_28 rfl rfl (All2.cons (.one .sc) (All2.cons (.one (LendC.bor e_i64_len rfl rfl rfl)) All2.nil)) All2.nil (by decide) rfl (dossierref01_within.meets _ a0 ([9, 10, 13, 13, 32, 55295, 57344, 65533, 65536, 1114111] : List Int) r1 er1) (.inr ⟨rfl, rfl⟩) rfl rfl ?_
  refine s_assign (d := (sc (.bool r1))) rfl ?_
  refine AWops.nil ?_
  refine AW.ret ?_
  obtain rfl := Option.some.inj h
  exact ⟨_, rfl, (Weak.gen (kk := 0) [] [] rfl rfl (by decide) (by decide) rfl rfl rfl (le_upd (le_top _) (.t (.one .sc))) All2.nil)⟩
mutual
def dossierref01_Wrong.l0 : Nat → Int → (List Int) → Option Int
  | 0, _, _ => none
  | k + 1, x1, a0 => if (decide (x1 < (a0.length : Int))) = true then (if (decide (0 ≤ x1 ∧ x1 ≤ (a0.length : Int) ∧ (a0.length : Int) ≤ (a0.length : Int))) = true then ((dossierref01_Decode.f k (sub a0 x1 (a0.length : Int))).bind fun r4 => if (r4.2 == 0) = true then (some x1) else ((dossierref01_OfXML.f k r4.1).bind fun r6 => if r6 = true then (dossierref01_Wrong.l0 k (IntKind.i64.wrap (x1 + r4.2)) a0) else (some x1))) else none) else (some (-1))
end
def dossierref01_Wrong.f (k : Nat) (a0 : List Int) : Option Int := dossierref01_Wrong.l0 k 0 a0
theorem dossierref01_Wrong.meets (k : Nat) (a0 : List Int) (r : Int) (h : dossierref01_Wrong.f k a0 = some r) : Meets Tryd.prog 26 [(D.one (C.p false (.sl a0.length (a0.flatMap e_u8))))] [] (sc (.int .i64 r)) [] := by
  unfold dossierref01_Wrong.f at h
  refine Meets.of_body (n := 28) Tryd.func26 rfl rfl (Nat.le_of_ble_eq_true rfl) fun x hx => ?_
  replace hx : x.k = 0 := hx
  show AW _ x _ _ ⟨28, fr0 [(D.one (C.p false (.sl a0.length (a0.flatMap e_u8))))], []⟩
  refine AW.seq ?_
  refine AW.region ?_
  refine s_assign (d := (sc (.int .i64 0))) rfl ?_
  refine AWops.nil ?_
  refine AW.seq ?_
  refine AW.seq ?_
  refine AW.region ?_
  refine s_assign (d := (sc (.int .i64 0))) rfl ?_
  refine AWops.nil ?_
  refine AW.block ?_
  refine AW.loopw (st0 := ⟨28, (upd 28 (upd 28 topF 0 (D.one (C.p false (.sl a0.length (a0.flatMap e_u8))))) 3 (sc (.int .i64 0))), []⟩) (fun kv st => kv ≤ k ∧ ∃ (x1 : Int), dossierref01_Wrong.l0 kv x1 a0 = some r ∧ st = ⟨28, (upd 28 (upd 28 topF 0 (D.one (C.p false (.sl a0.length (a0.flatMap e_u8))))) 3 (sc (.int .i64 x1))), []⟩) (k := k) (Weak.gen (kk := 0) [] [] hx rfl (by decide) (by decide) rfl rfl rfl (le_upd (le_upd (le_top _) (.t (.one .same))) (.t (.one .sc))) All2.nil) ⟨Nat.le_refl _, 0, h, rfl⟩ ?_
  rintro ql0 st ⟨hkl0, x1, h, rfl⟩
  cases ql0 with
  | zero => exact absurd h (by simp [dossierref01_Wrong.l0])
  | succ ql0 =>
    replace h := (dossierref01_Wrong.l0.eq_2 _ _ _).symm.trans h
    refine AW.seq ?_
    refine AW.seq ?_
    refine AW.region ?_
    refine s_move (d := (sc (.int .i64 x1))) rfl ?_
    refine s_move (d := (D.one (C.p false (.sl a0.length (a0.flatMap e_u8))))) rfl ?_
    refine s_len (n := a0.length) F.u_31 rfl (.inr ⟨(fun _ _ h => by cases h), ⟨_, rfl⟩⟩) ?_
    refine s_binI (v := (.bool (decide (x1 < (a0.length : Int))))) rfl rfl rfl ?_
    refine AWops.nil ?_
    by_cases c2 : (decide (x1 < (a0.length : Int))) = true
    · replace h := (if_pos c2).symm.trans h
      refine AW.cond_yes rfl c2 ?_
      refine AW.skip ?_
      refine AW.block ?_
      refine AW.seq ?_
      refine AW.region ?_
      refine s_move (d := (D.one (C.p false (.sl a0.length (a0.flatMap e_u8))))) rfl ?_
      refine s_move (d := (sc (.int .i64 x1))) rfl ?_
      by_cases c3 : (decide (0 ≤ x1 ∧ x1 ≤ (a0.length : Int) ∧ (a0.length : Int) ≤ (a0.length : Int))) = true
      · replace h := (if_pos c3).symm.trans h
        have dc3 := of_decide_eq_true c3
        refine t_sliceImm (a := x1) (b := (a0.length : Int)) F.u_31 F.sz_5 e_u8_len rfl (by omega) (by omega) (by omega) (.yes rfl (by omega) rfl) .no ?_
        obtain ⟨r4, er4, h⟩ := Option.bind_eq_some_iff.mp h
        refine s_call2 (ρ := []) (br := false) (H2 := []) (d := (D.tup [(sc (.int .i64 r4.1)), (sc (.int .i64 r4.2))])) F.ca_21 rfl rfl (All2.cons (.one .imm) All2.nil) All2.nil (by decide) rfl (dossierref01_Decode.meets _ (sub a0 x1 (a0.length : Int)) r4 er4) (.inl rfl) rfl rfl ?_
        refine s_move (d := (D.tup [(sc (.int .i64 r4.1)), (sc (.int .i64 r4.2))])) rfl ?_
        refine s_extract (d := (sc (.int .i64 r4.1))) rfl rfl ?_
        refine s_extract (d := (sc (.int .i64 r4.2))) rfl rfl ?_
        refine s_assign (d := (sc (.int .i64 r4.1))) rfl ?_
        refine s_assign (d := (sc (.int .i64 r4.2))) rfl ?_
        refine AWops.nil ?_
        refine AW.seq ?_
        refine AW.seq ?_
        refine AW.region ?_
        refine s_move (d := (sc (.int .i64 r4.2))) rfl ?_
        refine s_binI (v := (.bool (r4.2 == 0))) rfl rfl rfl ?_
        refine s_move (d := (sc (.bool (r4.2 == 0)))) rfl ?_
        by_cases c5 : (r4.2 == 0) = true
        · replace h := (if_pos c5).symm.trans h
          refine AWops.guard_no rfl (Nat.le_of_ble_eq_true rfl) rfl c5 ?_
          refine AWops.guard_no rfl (Nat.le_of_ble_eq_true rfl) rfl c5 ?_
          refine AWops.guard_no rfl (Nat.le_of_ble_eq_true rfl) rfl c5 ?_
          refine s_pick_yes (d := (sc (.bool true))) rfl c5 rfl ?_
          refine AWops.nil ?_
          refine AW.cond_yes rfl rfl ?_
          refine AW.seq ?_
          refine AW.region ?_
          refine s_move (d := (sc (.int .i64 x1))) rfl ?_
          refine s_assign (d := (sc (.int .i64 x1))) rfl ?_
          refine AWops.nil ?_
          refine AW.ret ?_
          obtain rfl := Option.some.inj h
          exact ⟨_, rfl, (Weak.gen (kk := 0) [] [] rfl rfl (by decide) (by decide) rfl rfl rfl (le_upd (le_top _) (.t (.one .sc))) All2.nil)⟩
        · replace h := (if_neg c5).symm.trans h
          replace c5 := Bool.eq_false_iff.mpr c5
          refine AWops.guard_yes rfl (Nat.le_of_ble_eq_true rfl) rfl c5 ?_
          refine s_move (d := (sc (.int .i64 r4.1))) rfl ?_
          refine AWops.guard_yes rfl (Nat.le_of_ble_eq_true rfl) rfl c5 ?_
          obtain ⟨r6, er6, h⟩ := Option.bind_eq_some_iff.mp h
          refine s_call2 (ρ := []) (br := false) (H2 := []) (d := (sc (.bool r6))) F.ca_34 rfl rfl (All2.cons (.one .sc) All2.nil) All2.nil (by decide) rfl (dossierref01_OfXML.meets _ r4.1 r6 er6) (.inl rfl) rfl rfl ?_
          refine AWops.guard_yes rfl (Nat.le_of_ble_eq_true rfl) rfl c5 ?_
          refine s_not rfl ?_
          refine s_pick_no (d := (sc (.bool (!r6)))) rfl c5 rfl ?_
          refine AWops.nil ?_
          by_cases c7 : r6 = true
          · replace h := (if_pos c7).symm.trans h
            refine AW.cond_no rfl (by rw [c7] <;> rfl) ?_
            refine AW.skip ?_
            refine AW.region ?_
            refine s_move (d := (sc (.int .i64 x1))) rfl ?_
            refine s_move (d := (sc (.int .i64 r4.2))) rfl ?_
            refine s_binI (v := (.int .i64 (IntKind.i64.wrap (x1 + r4.2)))) rfl rfl rfl ?_
            refine s_assign (d := (sc (.int .i64 (IntKind.i64.wrap (x1 + r4.2))))) rfl ?_
            refine AWops.nil ?_
            exact ⟨_, ⟨28, (upd 28 (upd 28 topF 0 (D.one (C.p false (.sl a0.length (a0.flatMap e_u8))))) 3 (sc (.int .i64 (IntKind.i64.wrap (x1 + r4.2))))), []⟩, by omega, (Weak.gen (kk := 0) [] [] hx rfl (by decide) (by decide) rfl rfl rfl (le_upd (le_upd (le_top _) (.t (.one .same))) (.t (.one .sc))) All2.nil), by omega, IntKind.i64.wrap (x1 + r4.2), h, rfl⟩
          · replace h := (if_neg c7).symm.trans h
            replace c7 := Bool.eq_false_iff.mpr c7
            refine AW.cond_yes rfl (by rw [c7] <;> rfl) ?_
            refine AW.seq ?_
            refine AW.region ?_
            refine s_move (d := (sc (.int .i64 x1))) rfl ?_
            refine s_assign (d := (sc (.int .i64 x1))) rfl ?_
            refine AWops.nil ?_
            refine AW.ret ?_
            obtain rfl := Option.some.inj h
            exact ⟨_, rfl, (Weak.gen (kk := 0) [] [] rfl rfl (by decide) (by decide) rfl rfl rfl (le_upd (le_top _) (.t (.one .sc))) All2.nil)⟩
      · replace h := (if_neg c3).symm.trans h
        cases h
    · replace h := (if_neg c2).symm.trans h
      replace c2 := Bool.eq_false_iff.mpr c2
      refine AW.cond_no rfl c2 ?_
      refine AW.exit ?_
      refine AW.seq ?_
      refine AW.region ?_
      refine s_assign (d := (sc (.int .i64 (-1)))) rfl ?_
      refine AWops.nil ?_
      refine AW.ret ?_
      obtain rfl := Option.some.inj h
      exact ⟨_, rfl, (Weak.gen (kk := 0) [] [] rfl rfl (by decide) (by decide) rfl rfl rfl (le_upd (le_top _) (.t (.one .sc))) All2.nil)⟩
end Go.Abs.GenC
