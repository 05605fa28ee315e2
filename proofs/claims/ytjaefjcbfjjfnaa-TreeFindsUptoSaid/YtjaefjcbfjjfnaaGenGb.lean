import Derived.Test.YtjaefjcbfjjfnaaGenGa
set_option linter.unusedVariables false
set_option linter.unusedSimpArgs false
set_option maxRecDepth 100000
set_option maxHeartbeats 4000000
namespace Go.Abs.GenG
open Go.Abs Go.Proofs
mutual
def chars_Number.j2 : Nat → Int → Int → ByteArray → Int → Option (Int × Int)
 | 0, _, _, _, _ => none
 | k + 1, x15, v2, x3, x8 => if (decide ((x3.size : Int) > 19)) = true then (some (0, 4)) else (if (decide (x8 > x15)) = true then (some (0, 4)) else (if (v2 == 45) = true then (some (IntKind.i64.wrap (0 - (IntKind.i64.wrap x8)), 0)) else (some (IntKind.i64.wrap x8, 0))))
def chars_Number.l1 : Nat → Int → Int → Int → ByteArray → Option (Int × Int)
 | 0, _, _, _, _ => none
 | k + 1, x8, x9, v2, x3 => if (decide (x9 < ((bytesI x3).length : Int))) = true then ((rd (bytesI x3) x9).bind fun v11 => if (decide (v11 < 48)) = true then (some (0, 5)) else (if (decide (v11 > 57)) = true then (some (0, 5)) else (if (decide ((x3.size : Int) > 19)) = true then (chars_Number.l1 k x8 (IntKind.i64.wrap (x9 + 1)) v2 x3) else (chars_Number.l1 k (IntKind.u64.wrap ((IntKind.u64.wrap (10 * x8)) + (IntKind.u64.wrap (IntKind.u8.wrap (v11 - 48))))) (IntKind.i64.wrap (x9 + 1)) v2 x3)))) else (if (v2 == 45) = true then (chars_Number.j2 k 9223372036854775808 v2 x3 x8) else (chars_Number.j2 k 9223372036854775807 v2 x3 x8))
def chars_Number.j4 : Nat → Int → Int → ByteArray → Int → Option (Int × Int)
 | 0, _, _, _, _ => none
 | k + 1, x26, v2, x3, x19 => if (decide ((x3.size : Int) > 19)) = true then (some (0, 4)) else (if (decide (x19 > x26)) = true then (some (0, 4)) else (if (v2 == 45) = true then (some (IntKind.i64.wrap (0 - (IntKind.i64.wrap x19)), 0)) else (some (IntKind.i64.wrap x19, 0))))
def chars_Number.l3 : Nat → Int → Int → Int → ByteArray → Option (Int × Int)
 | 0, _, _, _, _ => none
 | k + 1, x19, x20, v2, x3 => if (decide (x20 < ((bytesI x3).length : Int))) = true then ((rd (bytesI x3) x20).bind fun v22 => if (decide (v22 < 48)) = true then (some (0, 5)) else (if (decide (v22 > 57)) = true then (some (0, 5)) else (if (decide ((x3.size : Int) > 19)) = true then (chars_Number.l3 k x19 (IntKind.i64.wrap (x20 + 1)) v2 x3) else (chars_Number.l3 k (IntKind.u64.wrap ((IntKind.u64.wrap (10 * x19)) + (IntKind.u64.wrap (IntKind.u8.wrap (v22 - 48))))) (IntKind.i64.wrap (x20 + 1)) v2 x3)))) else (if (v2 == 45) = true then (chars_Number.j4 k 9223372036854775808 v2 x3 x19) else (chars_Number.j4 k 9223372036854775807 v2 x3 x19))
def chars_Number.j0 : Nat → ByteArray → ByteArray → Int → Option (Int × Int)
 | 0, _, _, _ => none
 | k + 1, x3, a0, v2 => if (x3.toList == (⟨#[]⟩ : ByteArray).toList) = true then (some (0, 5)) else ((bt x3 0).bind fun v5 => if (v5 == 48) = true then (if (decide ((a0.size : Int) > 1)) = true then (some (0, 5)) else (chars_Number.l1 k 0 0 v2 x3)) else (chars_Number.l3 k 0 0 v2 x3))
def chars_Number.l5 : Nat → Int → Int → ByteArray → Option (Int × Int)
 | 0, _, _, _ => none
 | k + 1, x34, x35, a0 => if (decide (x35 < ((bytesI a0).length : Int))) = true then ((rd (bytesI a0) x35).bind fun v37 => if (decide (v37 < 48)) = true then (some (0, 5)) else (if (decide (v37 > 57)) = true then (some (0, 5)) else (if (decide ((a0.size : Int) > 19)) = true then (chars_Number.l5 k x34 (IntKind.i64.wrap (x35 + 1)) a0) else (chars_Number.l5 k (IntKind.u64.wrap ((IntKind.u64.wrap (10 * x34)) + (IntKind.u64.wrap (IntKind.u8.wrap (v37 - 48))))) (IntKind.i64.wrap (x35 + 1)) a0)))) else (if (decide ((a0.size : Int) > 19)) = true then (some (0, 4)) else (if (decide (x34 > 9223372036854775807)) = true then (some (0, 4)) else (some (IntKind.i64.wrap x34, 0))))
def chars_Number.l6 : Nat → Int → Int → ByteArray → Option (Int × Int)
 | 0, _, _, _ => none
 | k + 1, x43, x44, a0 => if (decide (x44 < ((bytesI a0).length : Int))) = true then ((rd (bytesI a0) x44).bind fun v46 => if (decide (v46 < 48)) = true then (some (0, 5)) else (if (decide (v46 > 57)) = true then (some (0, 5)) else (if (decide ((a0.size : Int) > 19)) = true then (chars_Number.l6 k x43 (IntKind.i64.wrap (x44 + 1)) a0) else (chars_Number.l6 k (IntKind.u64.wrap ((IntKind.u64.wrap (10 * x43)) + (IntKind.u64.wrap (IntKind.u8.wrap (v46 - 48))))) (IntKind.i64.wrap (x44 + 1)) a0)))) else (if (decide ((a0.size : Int) > 19)) = true then (some (0, 4)) else (if (decide (x43 > 9223372036854775807)) = true then (some (0, 4)) else (some (IntKind.i64.wrap x43, 0))))
end
def chars_Number.f (k : Nat) (a0 : ByteArray) : Option (Int × Int) := if (decide ((a0.size : Int) > 0)) = true then ((bt a0 0).bind fun v2 => if (v2 == 45) = true then (if (decide (0 ≤ 1 ∧ 1 ≤ (a0.size : Int) ∧ (a0.size : Int) ≤ (a0.size : Int))) = true then (chars_Number.j0 k (a0.extract 1 a0.size) a0 v2) else none) else (chars_Number.j0 k a0 a0 v2)) else (if (a0.toList == (⟨#[]⟩ : ByteArray).toList) = true then (some (0, 5)) else ((bt a0 0).bind fun v31 => if (v31 == 48) = true then (if (decide ((a0.size : Int) > 1)) = true then (some (0, 5)) else (chars_Number.l5 k 0 0 a0)) else (chars_Number.l6 k 0 0 a0)))
theorem chars_Number.meets (k : Nat) (a0 : ByteArray) (r : Int × Int) (h : chars_Number.f k a0 = some r) : Meets Try.prog 52 [(sc (.string a0))] [] (D.tup [(sc (.int .i64 r.1)), (sc (.int .i64 r.2))]) [] := by
 unfold chars_Number.f at h
 refine Meets.of_body (n := 78) Try.func52 rfl rfl (nl rfl) fun x hx => ?_
 replace hx : x.k = 0 := hx
 show AW _ x _ _ ⟨78, fr0 [(sc (.string a0))], []⟩
 refine AW.seq (AW.region ?_)
 refine s_assign (d := (sc (.int .i64 0))) rfl ?_
 refine s_assign (d := (sc (.int .i64 0))) rfl (AWops.nil (AW.seq (AW.region ?_)))
 refine s_move (d := (sc (.string a0))) rfl ?_
 refine s_len (n := a0.size) F.u_9 rfl (.inl ⟨⟨_, _, rfl⟩, rfl⟩) ?_
 refine s_binI (v := (.bool (decide ((a0.size : Int) > 0)))) rfl rfl rfl ?_
 refine s_move (d := (sc (.bool (decide ((a0.size : Int) > 0))))) rfl ?_
 rcases itH h with ⟨c1, h⟩ | ⟨c1, h⟩
 ·refine AWops.guard_yes rfl (nl rfl) rfl c1 ?_
  refine s_move (d := (sc (.string a0))) rfl ?_
  refine AWops.guard_yes rfl (nl rfl) rfl c1 ?_
  obtain ⟨v2, ev2, h⟩ := bnd h
  obtain ⟨pv2, bv2, gv2, rfl⟩ := bt_some ev2
  refine s_indexStr F.u_9 rfl rfl pv2 gv2 ?_
  generalize hzv2 : ((bv2.toNat : Nat) : Int) = v2 at *
  refine AWops.guard_yes rfl (nl rfl) rfl c1 ?_
  refine s_binI (v := (.bool (v2 == 45))) rfl rfl rfl ?_
  refine s_pick_yes (d := (sc (.bool (v2 == 45)))) rfl c1 rfl ?_
  refine s_assign (d := (sc (.bool (v2 == 45)))) rfl (AWops.nil (AW.seq (AW.region ?_)))
  refine s_move (d := (sc (.string a0))) rfl ?_
  refine s_assign (d := (sc (.string a0))) rfl (AWops.nil ?_)
  refine AW.seqJ (fun st => ∃ (x3 : ByteArray), chars_Number.j0 k x3 a0 v2 = some r ∧ st = ⟨78, (upd 78 (upd 78 (upd 78 topF 0 (sc (.string a0))) 4 (sc (.bool (v2 == 45)))) 5 (sc (.string x3))), []⟩) ?_ ?_
  ·refine AW.seq (AW.region ?_)
   refine s_move (d := (sc (.bool (v2 == 45)))) rfl (AWops.nil ?_)
   rcases itH h with ⟨c3, h⟩ | ⟨c3, h⟩
   ·refine AW.cond_yes rfl c3 (AW.region ?_)
    refine s_move (d := (sc (.string a0))) rfl ?_
    obtain ⟨c4, h⟩ := gdH h
    have dc4 := of_decide_eq_true c4
    refine s_sliceStr F.u_9 rfl (.yes rfl (by omega) rfl) .no (by omega) (by omega) ?_
    refine s_assign (d := (sc (.string (a0.extract 1 a0.size)))) rfl (AWops.nil ?_)
    exact ⟨⟨78, (upd 78 (upd 78 (upd 78 topF 0 (sc (.string a0))) 4 (sc (.bool (v2 == 45)))) 5 (sc (.string (a0.extract 1 a0.size)))), []⟩, (Weak.gen (kk := 0) [] [] hx rfl (by decide) (by decide) rfl rfl rfl (le_upd (le_upd (le_upd (le_top _) (.t (.one .sc))) (.t (.one .sc))) (.t (.one .sc))) an), a0.extract 1 a0.size, h, rfl⟩
   ·refine AW.cond_no rfl c3 (AW.skip ?_)
    exact ⟨⟨78, (upd 78 (upd 78 (upd 78 topF 0 (sc (.string a0))) 4 (sc (.bool (v2 == 45)))) 5 (sc (.string a0))), []⟩, (Weak.gen (kk := 0) [] [] hx rfl (by decide) (by decide) rfl rfl rfl (le_upd (le_upd (le_upd (le_top _) (.t (.one .sc))) (.t (.one .sc))) (.t (.one .sc))) an), a0, h, rfl⟩
  ·rintro st ⟨x3, h, rfl⟩
   cases k with
   | zero => exact absurd h (by simp [chars_Number.j0])
   | succ qj0 =>
    replace h := (chars_Number.j0.eq_2 _ _ _ _).symm.trans h
    refine AW.seq (AW.seq (AW.region ?_))
    refine s_move (d := (sc (.string x3))) rfl ?_
    refine s_binS (v := (.bool (x3.toList == (⟨#[]⟩ : ByteArray).toList))) rfl rfl rfl ?_
    refine s_move (d := (sc (.bool (x3.toList == (⟨#[]⟩ : ByteArray).toList)))) rfl ?_
    rcases itH h with ⟨c4, h⟩ | ⟨c4, h⟩
    ·iterate 4 refine AWops.guard_no rfl (nl rfl) rfl c4 ?_
     iterate 3 refine AWops.guard_undef rfl rfl ?_
     refine AWops.guard_no rfl (nl rfl) rfl c4 ?_
     refine s_pick_yes (d := (sc (.bool true))) rfl c4 rfl (AWops.nil ?_)
     refine AW.cond_yes rfl rfl (AW.seq (AW.region ?_))
     refine s_assign (d := (sc (.int .i64 0))) rfl ?_
     refine s_assign (d := (sc (.int .i64 5))) rfl (AWops.nil (AW.ret ?_))
     obtain rfl := Option.some.inj h
     exact ⟨_, rfl, (Weak.gen (kk := 0) [] [] rfl rfl (by decide) (by decide) rfl rfl rfl (le_upd (le_top _) (DLe.tup (ac (TLe.one .sc) (ac (TLe.one .sc) an)))) an)⟩
    ·refine AWops.guard_yes rfl (nl rfl) rfl c4 ?_
     refine s_move (d := (sc (.string x3))) rfl ?_
     refine AWops.guard_yes rfl (nl rfl) rfl c4 ?_
     obtain ⟨v5, ev5, h⟩ := bnd h
     obtain ⟨pv5, bv5, gv5, rfl⟩ := bt_some ev5
     refine s_indexStr F.u_9 rfl rfl pv5 gv5 ?_
     generalize hzv5 : ((bv5.toNat : Nat) : Int) = v5 at *
     refine AWops.guard_yes rfl (nl rfl) rfl c4 ?_
     refine s_binI (v := (.bool (v5 == 48))) rfl rfl rfl ?_
     refine AWops.guard_yes rfl (nl rfl) rfl c4 ?_
     refine s_move (d := (sc (.bool (v5 == 48)))) rfl ?_
     rcases itH h with ⟨c6, h⟩ | ⟨c6, h⟩
     ·refine AWops.guard_yes rfl (nl rfl) rfl c6 ?_
      refine s_move (d := (sc (.string a0))) rfl ?_
      refine AWops.guard_yes rfl (nl rfl) rfl c6 ?_
      refine s_len (n := a0.size) F.u_9 rfl (.inl ⟨⟨_, _, rfl⟩, rfl⟩) ?_
      refine AWops.guard_yes rfl (nl rfl) rfl c6 ?_
      refine s_binI (v := (.bool (decide ((a0.size : Int) > 1)))) rfl rfl rfl ?_
      refine AWops.guard_yes rfl (nl rfl) rfl c4 ?_
      refine s_pick_yes (d := (sc (.bool (decide ((a0.size : Int) > 1))))) rfl c6 rfl ?_
      refine s_pick_no (d := (sc (.bool (decide ((a0.size : Int) > 1))))) rfl c4 rfl (AWops.nil ?_)
      rcases itH h with ⟨c7, h⟩ | ⟨c7, h⟩
      ·refine AW.cond_yes rfl c7 (AW.seq (AW.region ?_))
       refine s_assign (d := (sc (.int .i64 0))) rfl ?_
       refine s_assign (d := (sc (.int .i64 5))) rfl (AWops.nil (AW.ret ?_))
       obtain rfl := Option.some.inj h
       exact ⟨_, rfl, (Weak.gen (kk := 0) [] [] rfl rfl (by decide) (by decide) rfl rfl rfl (le_upd (le_top _) (DLe.tup (ac (TLe.one .sc) (ac (TLe.one .sc) an)))) an)⟩
      ·refine AW.cond_no rfl c7 (AW.skip (AW.seq (AW.region ?_)))
       refine s_assign (d := (sc (.int .u64 0))) rfl (AWops.nil (AW.seq (AW.region ?_)))
       refine s_move (d := (sc (.string x3))) rfl ?_
       refine s_len (n := x3.size) F.u_9 rfl (.inl ⟨⟨_, _, rfl⟩, rfl⟩) ?_
       refine s_binI (v := (.bool (decide ((x3.size : Int) > 19)))) rfl rfl rfl ?_
       refine s_assign (d := (sc (.bool (decide ((x3.size : Int) > 19))))) rfl (AWops.nil (AW.seq (AW.seq (AW.region ?_))))
       refine s_move (d := (sc (.string x3))) rfl ?_
       refine t_ofStr F.u_9 F.u_67 F.u_5 rfl ?_
       refine s_len (n := (bytesI x3).length) F.u_67 rfl (.inr ⟨(fun _ _ h => by cases h), ⟨_, rfl⟩⟩) ?_
       refine s_move (d := (sc (.int .i64 0))) rfl (AWops.nil (AW.block ?_))
       refine AW.loopw (st0 := ⟨78, (upd 78 (upd 78 (upd 78 (upd 78 (upd 78 (upd 78 topF 4 (sc (.bool (v2 == 45)))) 6 (sc (.int .u64 0))) 7 (sc (.bool (decide ((x3.size : Int) > 19))))) 39 (D.one (C.p false (.sl (bytesI x3).length ((bytesI x3).flatMap e_u8))))) 40 (sc (.int .i64 ((bytesI x3).length : Int)))) 41 (sc (.int .i64 0))), []⟩) (fun kv st => kv ≤ qj0 ∧ ∃ (x8 : Int) (x9 : Int), chars_Number.l1 kv x8 x9 v2 x3 = some r ∧ st = ⟨78, (upd 78 (upd 78 (upd 78 (upd 78 (upd 78 (upd 78 topF 4 (sc (.bool (v2 == 45)))) 6 (sc (.int .u64 x8))) 7 (sc (.bool (decide ((x3.size : Int) > 19))))) 39 (D.one (C.p false (.sl (bytesI x3).length ((bytesI x3).flatMap e_u8))))) 40 (sc (.int .i64 ((bytesI x3).length : Int)))) 41 (sc (.int .i64 x9))), []⟩) (k := qj0) (Weak.gen (kk := 0) [] [] hx rfl (by decide) (by decide) rfl rfl rfl (le_upd (le_upd (le_upd (le_upd (le_upd (le_upd (le_top _) (.t (.one .sc))) (.t (.one .sc))) (.t (.one .sc))) (.t (.one .same))) (.t (.one .sc))) (.t (.one .sc))) an) ⟨Nat.le_refl _, 0, 0, h, rfl⟩ ?_
       rintro ql1 st ⟨hkl1, x8, x9, h, rfl⟩
       cases ql1 with
       | zero => exact absurd h (by simp [chars_Number.l1])
       | succ ql1 =>
        replace h := (chars_Number.l1.eq_2 _ _ _ _ _).symm.trans h
        refine AW.seq (AW.region ?_)
        refine s_binI (v := (.bool (decide (x9 < ((bytesI x3).length : Int))))) rfl rfl rfl (AWops.nil (AW.seq ?_))
        rcases itH h with ⟨c10, h⟩ | ⟨c10, h⟩
        ·refine AW.cond_yes rfl c10 (AW.skip (AW.seq (AW.block (AW.seq (AW.region ?_)))))
         obtain ⟨v11, ev11, h⟩ := bnd h
         obtain ⟨pv11, qv11, gv11⟩ := rd_some ev11
         refine s_indexImm (ps := [P.v (.int .u8 v11)]) F.u_67 F.sz_5 rfl rfl pv11 qv11 (flat_at e_u8_len gv11 (e_u8_eq v11)) ?_
         refine s_load1 (c' := (C.p true (.v (.int .u8 v11)))) F.ag_5 rfl rfl ?_
         refine s_assign (d := (sc (.int .u8 v11))) rfl (AWops.nil (AW.seq (AW.seq (AW.region ?_))))
         refine s_move (d := (sc (.int .u8 v11))) rfl ?_
         refine s_binI (v := (.bool (decide (v11 < 48)))) rfl rfl rfl ?_
         refine s_move (d := (sc (.bool (decide (v11 < 48))))) rfl ?_
         rcases itH h with ⟨c12, h⟩ | ⟨c12, h⟩
         ·refine AWops.guard_no rfl (nl rfl) rfl c12 ?_
          refine AWops.guard_no rfl (nl rfl) rfl c12 ?_
          refine s_pick_yes (d := (sc (.bool true))) rfl c12 rfl (AWops.nil ?_)
          refine AW.cond_yes rfl rfl (AW.seq (AW.region ?_))
          refine s_assign (d := (sc (.int .i64 0))) rfl ?_
          refine s_assign (d := (sc (.int .i64 5))) rfl (AWops.nil (AW.ret ?_))
          obtain rfl := Option.some.inj h
          exact ⟨_, rfl, (Weak.gen (kk := 0) [] [] rfl rfl (by decide) (by decide) rfl rfl rfl (le_upd (le_top _) (DLe.tup (ac (TLe.one .sc) (ac (TLe.one .sc) an)))) an)⟩
         ·refine AWops.guard_yes rfl (nl rfl) rfl c12 ?_
          refine s_move (d := (sc (.int .u8 v11))) rfl ?_
          refine AWops.guard_yes rfl (nl rfl) rfl c12 ?_
          refine s_binI (v := (.bool (decide (v11 > 57)))) rfl rfl rfl ?_
          refine s_pick_no (d := (sc (.bool (decide (v11 > 57))))) rfl c12 rfl (AWops.nil ?_)
          rcases itH h with ⟨c13, h⟩ | ⟨c13, h⟩
          ·refine AW.cond_yes rfl c13 (AW.seq (AW.region ?_))
           refine s_assign (d := (sc (.int .i64 0))) rfl ?_
           refine s_assign (d := (sc (.int .i64 5))) rfl (AWops.nil (AW.ret ?_))
           obtain rfl := Option.some.inj h
           exact ⟨_, rfl, (Weak.gen (kk := 0) [] [] rfl rfl (by decide) (by decide) rfl rfl rfl (le_upd (le_top _) (DLe.tup (ac (TLe.one .sc) (ac (TLe.one .sc) an)))) an)⟩
          ·refine AW.cond_no rfl c13 (AW.skip (AW.seq (AW.region ?_)))
           refine s_move (d := (sc (.bool (decide ((x3.size : Int) > 19))))) rfl ?_
           refine s_not rfl (AWops.nil ?_)
           rcases itH h with ⟨c14, h⟩ | ⟨c14, h⟩
           ·refine AW.cond_no rfl (by rw [c14] <;> rfl) (AW.skip (AW.region ?_))
            refine s_binI (v := (.int .i64 (IntKind.i64.wrap (x9 + 1)))) rfl rfl rfl ?_
            refine s_move (d := (sc (.int .i64 (IntKind.i64.wrap (x9 + 1))))) rfl (AWops.nil ?_)
            exact ⟨_, ⟨78, (upd 78 (upd 78 (upd 78 (upd 78 (upd 78 (upd 78 topF 4 (sc (.bool (v2 == 45)))) 6 (sc (.int .u64 x8))) 7 (sc (.bool (decide ((x3.size : Int) > 19))))) 39 (D.one (C.p false (.sl (bytesI x3).length ((bytesI x3).flatMap e_u8))))) 40 (sc (.int .i64 ((bytesI x3).length : Int)))) 41 (sc (.int .i64 (IntKind.i64.wrap (x9 + 1))))), []⟩, by omega, (Weak.gen (kk := 0) [] [] hx rfl (by decide) (by decide) rfl rfl rfl (le_upd (le_upd (le_upd (le_upd (le_upd (le_upd (le_top _) (.t (.one .sc))) (.t (.one .sc))) (.t (.one .sc))) (.t (.one .same))) (.t (.one .sc))) (.t (.one .sc))) an), by omega, x8, IntKind.i64.wrap (x9 + 1), h, rfl⟩
           ·refine AW.cond_yes rfl (by rw [c14] <;> rfl) (AW.region ?_)
            refine s_move (d := (sc (.int .u64 x8))) rfl ?_
            refine s_binI (v := (.int .u64 (IntKind.u64.wrap (10 * x8)))) rfl rfl rfl ?_
            refine s_move (d := (sc (.int .u8 v11))) rfl ?_
            refine s_binI (v := (.int .u8 (IntKind.u8.wrap (v11 - 48)))) rfl rfl rfl ?_
            refine s_convI F.u_5 F.u_71 rfl ?_
            refine s_binI (v := (.int .u64 (IntKind.u64.wrap ((IntKind.u64.wrap (10 * x8)) + (IntKind.u64.wrap (IntKind.u8.wrap (v11 - 48))))))) rfl rfl rfl ?_
            refine s_assign (d := (sc (.int .u64 (IntKind.u64.wrap ((IntKind.u64.wrap (10 * x8)) + (IntKind.u64.wrap (IntKind.u8.wrap (v11 - 48)))))))) rfl (AWops.nil (AW.region ?_))
            refine s_binI (v := (.int .i64 (IntKind.i64.wrap (x9 + 1)))) rfl rfl rfl ?_
            refine s_move (d := (sc (.int .i64 (IntKind.i64.wrap (x9 + 1))))) rfl (AWops.nil ?_)
            exact ⟨_, ⟨78, (upd 78 (upd 78 (upd 78 (upd 78 (upd 78 (upd 78 topF 4 (sc (.bool (v2 == 45)))) 6 (sc (.int .u64 (IntKind.u64.wrap ((IntKind.u64.wrap (10 * x8)) + (IntKind.u64.wrap (IntKind.u8.wrap (v11 - 48)))))))) 7 (sc (.bool (decide ((x3.size : Int) > 19))))) 39 (D.one (C.p false (.sl (bytesI x3).length ((bytesI x3).flatMap e_u8))))) 40 (sc (.int .i64 ((bytesI x3).length : Int)))) 41 (sc (.int .i64 (IntKind.i64.wrap (x9 + 1))))), []⟩, by omega, (Weak.gen (kk := 0) [] [] hx rfl (by decide) (by decide) rfl rfl rfl (le_upd (le_upd (le_upd (le_upd (le_upd (le_upd (le_top _) (.t (.one .sc))) (.t (.one .sc))) (.t (.one .sc))) (.t (.one .same))) (.t (.one .sc))) (.t (.one .sc))) an), by omega, IntKind.u64.wrap ((IntKind.u64.wrap (10 * x8)) + (IntKind.u64.wrap (IntKind.u8.wrap (v11 - 48)))), IntKind.i64.wrap (x9 + 1), h, rfl⟩
        ·refine AW.cond_no rfl c10 (AW.exit (AW.seq (AW.region ?_)))
         refine s_assign (d := (sc (.int .u64 9223372036854775808))) rfl (AWops.nil ?_)
         refine AW.seqJ (fun st => ∃ (x15 : Int), chars_Number.j2 ql1 x15 v2 x3 x8 = some r ∧ st = ⟨78, (upd 78 (upd 78 (upd 78 (upd 78 topF 4 (sc (.bool (v2 == 45)))) 6 (sc (.int .u64 x8))) 7 (sc (.bool (decide ((x3.size : Int) > 19))))) 10 (sc (.int .u64 x15))), []⟩) ?_ ?_
         ·refine AW.seq (AW.region ?_)
          refine s_move (d := (sc (.bool (v2 == 45)))) rfl ?_
          refine s_not rfl (AWops.nil ?_)
          rcases itH h with ⟨c15, h⟩ | ⟨c15, h⟩
          ·refine AW.cond_no rfl (by rw [c15] <;> rfl) (AW.skip ?_)
           exact ⟨⟨78, (upd 78 (upd 78 (upd 78 (upd 78 topF 4 (sc (.bool (v2 == 45)))) 6 (sc (.int .u64 x8))) 7 (sc (.bool (decide ((x3.size : Int) > 19))))) 10 (sc (.int .u64 9223372036854775808))), []⟩, (Weak.gen (kk := 0) [] [] hx rfl (by decide) (by decide) rfl rfl rfl (le_upd (le_upd (le_upd (le_upd (le_top _) (.t (.one .sc))) (.t (.one .sc))) (.t (.one .sc))) (.t (.one .sc))) an), 9223372036854775808, h, rfl⟩
          ·refine AW.cond_yes rfl (by rw [c15] <;> rfl) (AW.region ?_)
           refine s_move (d := (sc (.int .u64 9223372036854775808))) rfl ?_
           refine s_binI (v := (.int .u64 9223372036854775807)) rfl rfl (by rfl) ?_
           refine s_assign (d := (sc (.int .u64 9223372036854775807))) rfl (AWops.nil ?_)
           exact ⟨⟨78, (upd 78 (upd 78 (upd 78 (upd 78 topF 4 (sc (.bool (v2 == 45)))) 6 (sc (.int .u64 x8))) 7 (sc (.bool (decide ((x3.size : Int) > 19))))) 10 (sc (.int .u64 9223372036854775807))), []⟩, (Weak.gen (kk := 0) [] [] hx rfl (by decide) (by decide) rfl rfl rfl (le_upd (le_upd (le_upd (le_upd (le_top _) (.t (.one .sc))) (.t (.one .sc))) (.t (.one .sc))) (.t (.one .sc))) an), 9223372036854775807, h, rfl⟩
         ·rintro st ⟨x15, h, rfl⟩
          cases ql1 with
          | zero => exact absurd h (by simp [chars_Number.j2])
          | succ qj2 =>
           replace h := (chars_Number.j2.eq_2 _ _ _ _ _).symm.trans h
           refine AW.seq (AW.block (AW.seq (AW.region ?_)))
           refine s_move (d := (sc (.bool (decide ((x3.size : Int) > 19))))) rfl ?_
           refine s_move (d := (sc (.bool (decide ((x3.size : Int) > 19))))) rfl ?_
           rcases itH h with ⟨c16, h⟩ | ⟨c16, h⟩
           ·iterate 3 refine AWops.guard_no rfl (nl rfl) rfl c16 ?_
            refine s_pick_yes (d := (sc (.bool true))) rfl c16 rfl ?_
            refine s_assign (d := (sc (.bool true))) rfl (AWops.nil ?_)
            refine AW.cond_yes rfl rfl (AW.seq (AW.region ?_))
            refine s_assign (d := (sc (.int .i64 0))) rfl ?_
            refine s_assign (d := (sc (.int .i64 4))) rfl (AWops.nil (AW.ret ?_))
            obtain rfl := Option.some.inj h
            exact ⟨_, rfl, (Weak.gen (kk := 0) [] [] rfl rfl (by decide) (by decide) rfl rfl rfl (le_upd (le_top _) (DLe.tup (ac (TLe.one .sc) (ac (TLe.one .sc) an)))) an)⟩
           ·refine AWops.guard_yes rfl (nl rfl) rfl c16 ?_
            refine s_move (d := (sc (.int .u64 x8))) rfl ?_
            refine AWops.guard_yes rfl (nl rfl) rfl c16 ?_
            refine s_move (d := (sc (.int .u64 x15))) rfl ?_
            refine AWops.guard_yes rfl (nl rfl) rfl c16 ?_
            refine s_binI (v := (.bool (decide (x8 > x15)))) rfl rfl rfl ?_
            refine s_pick_no (d := (sc (.bool (decide (x8 > x15))))) rfl c16 rfl ?_
            refine s_assign (d := (sc (.bool (decide (x8 > x15))))) rfl (AWops.nil ?_)
            rcases itH h with ⟨c17, h⟩ | ⟨c17, h⟩
            ·refine AW.cond_yes rfl c17 (AW.seq (AW.region ?_))
             refine s_assign (d := (sc (.int .i64 0))) rfl ?_
             refine s_assign (d := (sc (.int .i64 4))) rfl (AWops.nil (AW.ret ?_))
             obtain rfl := Option.some.inj h
             exact ⟨_, rfl, (Weak.gen (kk := 0) [] [] rfl rfl (by decide) (by decide) rfl rfl rfl (le_upd (le_top _) (DLe.tup (ac (TLe.one .sc) (ac (TLe.one .sc) an)))) an)⟩
            ·refine AW.cond_no rfl c17 (AW.seq (AW.region ?_))
             refine s_move (d := (sc (.bool (v2 == 45)))) rfl ?_
             refine s_assign (d := (sc (.bool (v2 == 45)))) rfl (AWops.nil ?_)
             rcases itH h with ⟨c18, h⟩ | ⟨c18, h⟩
             ·refine AW.cond_yes rfl c18 (AW.seq (AW.region ?_))
              refine s_move (d := (sc (.int .u64 x8))) rfl ?_
              refine s_convI F.u_71 F.u_3 rfl ?_
              refine s_unI (v := (.int .i64 (IntKind.i64.wrap (0 - (IntKind.i64.wrap x8))))) rfl rfl ?_
              refine s_assign (d := (sc (.int .i64 (IntKind.i64.wrap (0 - (IntKind.i64.wrap x8)))))) rfl ?_
              refine s_assign (d := (sc (.int .i64 0))) rfl (AWops.nil (AW.ret ?_))
              obtain rfl := Option.some.inj h
              exact ⟨_, rfl, (Weak.gen (kk := 0) [] [] rfl rfl (by decide) (by decide) rfl rfl rfl (le_upd (le_top _) (DLe.tup (ac (TLe.one .sc) (ac (TLe.one .sc) an)))) an)⟩
             ·refine AW.cond_no rfl c18 (AW.skip (AW.seq (AW.region ?_)))
              refine s_move (d := (sc (.int .u64 x8))) rfl ?_
              refine s_convI F.u_71 F.u_3 rfl ?_
              refine s_assign (d := (sc (.int .i64 (IntKind.i64.wrap x8)))) rfl ?_
              refine s_assign (d := (sc (.int .i64 0))) rfl (AWops.nil (AW.ret ?_))
              obtain rfl := Option.some.inj h
              exact ⟨_, rfl, (Weak.gen (kk := 0) [] [] rfl rfl (by decide) (by decide) rfl rfl rfl (le_upd (le_top _) (DLe.tup (ac (TLe.one .sc) (ac (TLe.one .sc) an)))) an)⟩
     ·iterate 3 refine AWops.guard_no rfl (nl rfl) rfl c6 ?_
      refine AWops.guard_yes rfl (nl rfl) rfl c4 ?_
      refine s_pick_no (d := (sc (.bool false))) rfl c6 rfl ?_
      refine s_pick_no (d := (sc (.bool false))) rfl c4 rfl (AWops.nil ?_)
      refine AW.cond_no rfl rfl (AW.skip (AW.seq (AW.region ?_)))
      refine s_assign (d := (sc (.int .u64 0))) rfl (AWops.nil (AW.seq (AW.region ?_)))
      refine s_move (d := (sc (.string x3))) rfl ?_
      refine s_len (n := x3.size) F.u_9 rfl (.inl ⟨⟨_, _, rfl⟩, rfl⟩) ?_
      refine s_binI (v := (.bool (decide ((x3.size : Int) > 19)))) rfl rfl rfl ?_
      refine s_assign (d := (sc (.bool (decide ((x3.size : Int) > 19))))) rfl (AWops.nil (AW.seq (AW.seq (AW.region ?_))))
      refine s_move (d := (sc (.string x3))) rfl ?_
      refine t_ofStr F.u_9 F.u_67 F.u_5 rfl ?_
      refine s_len (n := (bytesI x3).length) F.u_67 rfl (.inr ⟨(fun _ _ h => by cases h), ⟨_, rfl⟩⟩) ?_
      refine s_move (d := (sc (.int .i64 0))) rfl (AWops.nil (AW.block ?_))
      refine AW.loopw (st0 := ⟨78, (upd 78 (upd 78 (upd 78 (upd 78 (upd 78 (upd 78 topF 4 (sc (.bool (v2 == 45)))) 6 (sc (.int .u64 0))) 7 (sc (.bool (decide ((x3.size : Int) > 19))))) 39 (D.one (C.p false (.sl (bytesI x3).length ((bytesI x3).flatMap e_u8))))) 40 (sc (.int .i64 ((bytesI x3).length : Int)))) 41 (sc (.int .i64 0))), []⟩) (fun kv st => kv ≤ qj0 ∧ ∃ (x19 : Int) (x20 : Int), chars_Number.l3 kv x19 x20 v2 x3 = some r ∧ st = ⟨78, (upd 78 (upd 78 (upd 78 (upd 78 (upd 78 (upd 78 topF 4 (sc (.bool (v2 == 45)))) 6 (sc (.int .u64 x19))) 7 (sc (.bool (decide ((x3.size : Int) > 19))))) 39 (D.one (C.p false (.sl (bytesI x3).length ((bytesI x3).flatMap e_u8))))) 40 (sc (.int .i64 ((bytesI x3).length : Int)))) 41 (sc (.int .i64 x20))), []⟩) (k := qj0) (Weak.gen (kk := 0) [] [] hx rfl (by decide) (by decide) rfl rfl rfl (le_upd (le_upd (le_upd (le_upd (le_upd (le_upd (le_top _) (.t (.one .sc))) (.t (.one .sc))) (.t (.one .sc))) (.t (.one .same))) (.t (.one .sc))) (.t (.one .sc))) an) ⟨Nat.le_refl _, 0, 0, h, rfl⟩ ?_
      rintro ql3 st ⟨hkl3, x19, x20, h, rfl⟩
      cases ql3 with
      | zero => exact absurd h (by simp [chars_Number.l3])
      | succ ql3 =>
       replace h := (chars_Number.l3.eq_2 _ _ _ _ _).symm.trans h
       refine AW.seq (AW.region ?_)
       refine s_binI (v := (.bool (decide (x20 < ((bytesI x3).length : Int))))) rfl rfl rfl (AWops.nil (AW.seq ?_))
       rcases itH h with ⟨c21, h⟩ | ⟨c21, h⟩
       ·refine AW.cond_yes rfl c21 (AW.skip (AW.seq (AW.block (AW.seq (AW.region ?_)))))
        obtain ⟨v22, ev22, h⟩ := bnd h
        obtain ⟨pv22, qv22, gv22⟩ := rd_some ev22
        refine s_indexImm (ps := [P.v (.int .u8 v22)]) F.u_67 F.sz_5 rfl rfl pv22 qv22 (flat_at e_u8_len gv22 (e_u8_eq v22)) ?_
        refine s_load1 (c' := (C.p true (.v (.int .u8 v22)))) F.ag_5 rfl rfl ?_
        refine s_assign (d := (sc (.int .u8 v22))) rfl (AWops.nil (AW.seq (AW.seq (AW.region ?_))))
        refine s_move (d := (sc (.int .u8 v22))) rfl ?_
        refine s_binI (v := (.bool (decide (v22 < 48)))) rfl rfl rfl ?_
        refine s_move (d := (sc (.bool (decide (v22 < 48))))) rfl ?_
        rcases itH h with ⟨c23, h⟩ | ⟨c23, h⟩
        ·refine AWops.guard_no rfl (nl rfl) rfl c23 ?_
         refine AWops.guard_no rfl (nl rfl) rfl c23 ?_
         refine s_pick_yes (d := (sc (.bool true))) rfl c23 rfl (AWops.nil ?_)
         refine AW.cond_yes rfl rfl (AW.seq (AW.region ?_))
         refine s_assign (d := (sc (.int .i64 0))) rfl ?_
         refine s_assign (d := (sc (.int .i64 5))) rfl (AWops.nil (AW.ret ?_))
         obtain rfl := Option.some.inj h
         exact ⟨_, rfl, (Weak.gen (kk := 0) [] [] rfl rfl (by decide) (by decide) rfl rfl rfl (le_upd (le_top _) (DLe.tup (ac (TLe.one .sc) (ac (TLe.one .sc) an)))) an)⟩
        ·refine AWops.guard_yes rfl (nl rfl) rfl c23 ?_
         refine s_move (d := (sc (.int .u8 v22))) rfl ?_
         refine AWops.guard_yes rfl (nl rfl) rfl c23 ?_
         refine s_binI (v := (.bool (decide (v22 > 57)))) rfl rfl rfl ?_
         refine s_pick_no (d := (sc (.bool (decide (v22 > 57))))) rfl c23 rfl (AWops.nil ?_)
         rcases itH h with ⟨c24, h⟩ | ⟨c24, h⟩
         ·refine AW.cond_yes rfl c24 (AW.seq (AW.region ?_))
          refine s_assign (d := (sc (.int .i64 0))) rfl ?_
          refine s_assign (d := (sc (.int .i64 5))) rfl (AWops.nil (AW.ret ?_))
          obtain rfl := Option.some.inj h
          exact ⟨_, rfl, (Weak.gen (kk := 0) [] [] rfl rfl (by decide) (by decide) rfl rfl rfl (le_upd (le_top _) (DLe.tup (ac (TLe.one .sc) (ac (TLe.one .sc) an)))) an)⟩
         ·refine AW.cond_no rfl c24 (AW.skip (AW.seq (AW.region ?_)))
          refine s_move (d := (sc (.bool (decide ((x3.size : Int) > 19))))) rfl ?_
          refine s_not rfl (AWops.nil ?_)
          rcases itH h with ⟨c25, h⟩ | ⟨c25, h⟩
          ·refine AW.cond_no rfl (by rw [c25] <;> rfl) (AW.skip (AW.region ?_))
           refine s_binI (v := (.int .i64 (IntKind.i64.wrap (x20 + 1)))) rfl rfl rfl ?_
           refine s_move (d := (sc (.int .i64 (IntKind.i64.wrap (x20 + 1))))) rfl (AWops.nil ?_)
           exact ⟨_, ⟨78, (upd 78 (upd 78 (upd 78 (upd 78 (upd 78 (upd 78 topF 4 (sc (.bool (v2 == 45)))) 6 (sc (.int .u64 x19))) 7 (sc (.bool (decide ((x3.size : Int) > 19))))) 39 (D.one (C.p false (.sl (bytesI x3).length ((bytesI x3).flatMap e_u8))))) 40 (sc (.int .i64 ((bytesI x3).length : Int)))) 41 (sc (.int .i64 (IntKind.i64.wrap (x20 + 1))))), []⟩, by omega, (Weak.gen (kk := 0) [] [] hx rfl (by decide) (by decide) rfl rfl rfl (le_upd (le_upd (le_upd (le_upd (le_upd (le_upd (le_top _) (.t (.one .sc))) (.t (.one .sc))) (.t (.one .sc))) (.t (.one .same))) (.t (.one .sc))) (.t (.one .sc))) an), by omega, x19, IntKind.i64.wrap (x20 + 1), h, rfl⟩
          ·refine AW.cond_yes rfl (by rw [c25] <;> rfl) (AW.region ?_)
           refine s_move (d := (sc (.int .u64 x19))) rfl ?_
           refine s_binI (v := (.int .u64 (IntKind.u64.wrap (10 * x19)))) rfl rfl rfl ?_
           refine s_move (d := (sc (.int .u8 v22))) rfl ?_
           refine s_binI (v := (.int .u8 (IntKind.u8.wrap (v22 - 48)))) rfl rfl rfl ?_
           refine s_convI F.u_5 F.u_71 rfl ?_
           refine s_binI (v := (.int .u64 (IntKind.u64.wrap ((IntKind.u64.wrap (10 * x19)) + (IntKind.u64.wrap (IntKind.u8.wrap (v22 - 48))))))) rfl rfl rfl ?_
           refine s_assign (d := (sc (.int .u64 (IntKind.u64.wrap ((IntKind.u64.wrap (10 * x19)) + (IntKind.u64.wrap (IntKind.u8.wrap (v22 - 48)))))))) rfl (AWops.nil (AW.region ?_))
           refine s_binI (v := (.int .i64 (IntKind.i64.wrap (x20 + 1)))) rfl rfl rfl ?_
           refine s_move (d := (sc (.int .i64 (IntKind.i64.wrap (x20 + 1))))) rfl (AWops.nil ?_)
           exact ⟨_, ⟨78, (upd 78 (upd 78 (upd 78 (upd 78 (upd 78 (upd 78 topF 4 (sc (.bool (v2 == 45)))) 6 (sc (.int .u64 (IntKind.u64.wrap ((IntKind.u64.wrap (10 * x19)) + (IntKind.u64.wrap (IntKind.u8.wrap (v22 - 48)))))))) 7 (sc (.bool (decide ((x3.size : Int) > 19))))) 39 (D.one (C.p false (.sl (bytesI x3).length ((bytesI x3).flatMap e_u8))))) 40 (sc (.int .i64 ((bytesI x3).length : Int)))) 41 (sc (.int .i64 (IntKind.i64.wrap (x20 + 1))))), []⟩, by omega, (Weak.gen (kk := 0) [] [] hx rfl (by decide) (by decide) rfl rfl rfl (le_upd (le_upd (le_upd (le_upd (le_upd (le_upd (le_top _) (.t (.one .sc))) (.t (.one .sc))) (.t (.one .sc))) (.t (.one .same))) (.t (.one .sc))) (.t (.one .sc))) an), by omega, IntKind.u64.wrap ((IntKind.u64.wrap (10 * x19)) + (IntKind.u64.wrap (IntKind.u8.wrap (v22 - 48)))), IntKind.i64.wrap (x20 + 1), h, rfl⟩
       ·refine AW.cond_no rfl c21 (AW.exit (AW.seq (AW.region ?_)))
        refine s_assign (d := (sc (.int .u64 9223372036854775808))) rfl (AWops.nil ?_)
        refine AW.seqJ (fun st => ∃ (x26 : Int), chars_Number.j4 ql3 x26 v2 x3 x19 = some r ∧ st = ⟨78, (upd 78 (upd 78 (upd 78 (upd 78 topF 4 (sc (.bool (v2 == 45)))) 6 (sc (.int .u64 x19))) 7 (sc (.bool (decide ((x3.size : Int) > 19))))) 10 (sc (.int .u64 x26))), []⟩) ?_ ?_
        ·refine AW.seq (AW.region ?_)
         refine s_move (d := (sc (.bool (v2 == 45)))) rfl ?_
         refine s_not rfl (AWops.nil ?_)
         rcases itH h with ⟨c26, h⟩ | ⟨c26, h⟩
         ·refine AW.cond_no rfl (by rw [c26] <;> rfl) (AW.skip ?_)
          exact ⟨⟨78, (upd 78 (upd 78 (upd 78 (upd 78 topF 4 (sc (.bool (v2 == 45)))) 6 (sc (.int .u64 x19))) 7 (sc (.bool (decide ((x3.size : Int) > 19))))) 10 (sc (.int .u64 9223372036854775808))), []⟩, (Weak.gen (kk := 0) [] [] hx rfl (by decide) (by decide) rfl rfl rfl (le_upd (le_upd (le_upd (le_upd (le_top _) (.t (.one .sc))) (.t (.one .sc))) (.t (.one .sc))) (.t (.one .sc))) an), 9223372036854775808, h, rfl⟩
         ·refine AW.cond_yes rfl (by rw [c26] <;> rfl) (AW.region ?_)
          refine s_move (d := (sc (.int .u64 9223372036854775808))) rfl ?_
          refine s_binI (v := (.int .u64 9223372036854775807)) rfl rfl (by rfl) ?_
          refine s_assign (d := (sc (.int .u64 9223372036854775807))) rfl (AWops.nil ?_)
          exact ⟨⟨78, (upd 78 (upd 78 (upd 78 (upd 78 topF 4 (sc (.bool (v2 == 45)))) 6 (sc (.int .u64 x19))) 7 (sc (.bool (decide ((x3.size : Int) > 19))))) 10 (sc (.int .u64 9223372036854775807))), []⟩, (Weak.gen (kk := 0) [] [] hx rfl (by decide) (by decide) rfl rfl rfl (le_upd (le_upd (le_upd (le_upd (le_top _) (.t (.one .sc))) (.t (.one .sc))) (.t (.one .sc))) (.t (.one .sc))) an), 9223372036854775807, h, rfl⟩
        ·rintro st ⟨x26, h, rfl⟩
         cases ql3 with
         | zero => exact absurd h (by simp [chars_Number.j4])
         | succ qj4 =>
          replace h := (chars_Number.j4.eq_2 _ _ _ _ _).symm.trans h
          refine AW.seq (AW.block (AW.seq (AW.region ?_)))
          refine s_move (d := (sc (.bool (decide ((x3.size : Int) > 19))))) rfl ?_
          refine s_move (d := (sc (.bool (decide ((x3.size : Int) > 19))))) rfl ?_
          rcases itH h with ⟨c27, h⟩ | ⟨c27, h⟩
          ·iterate 3 refine AWops.guard_no rfl (nl rfl) rfl c27 ?_
           refine s_pick_yes (d := (sc (.bool true))) rfl c27 rfl ?_
           refine s_assign (d := (sc (.bool true))) rfl (AWops.nil ?_)
           refine AW.cond_yes rfl rfl (AW.seq (AW.region ?_))
           refine s_assign (d := (sc (.int .i64 0))) rfl ?_
           refine s_assign (d := (sc (.int .i64 4))) rfl (AWops.nil (AW.ret ?_))
           obtain rfl := Option.some.inj h
           exact ⟨_, rfl, (Weak.gen (kk := 0) [] [] rfl rfl (by decide) (by decide) rfl rfl rfl (le_upd (le_top _) (DLe.tup (ac (TLe.one .sc) (ac (TLe.one .sc) an)))) an)⟩
          ·refine AWops.guard_yes rfl (nl rfl) rfl c27 ?_
           refine s_move (d := (sc (.int .u64 x19))) rfl ?_
           refine AWops.guard_yes rfl (nl rfl) rfl c27 ?_
           refine s_move (d := (sc (.int .u64 x26))) rfl ?_
           refine AWops.guard_yes rfl (nl rfl) rfl c27 ?_
           refine s_binI (v := (.bool (decide (x19 > x26)))) rfl rfl rfl ?_
           refine s_pick_no (d := (sc (.bool (decide (x19 > x26))))) rfl c27 rfl ?_
           refine s_assign (d := (sc (.bool (decide (x19 > x26))))) rfl (AWops.nil ?_)
           rcases itH h with ⟨c28, h⟩ | ⟨c28, h⟩
           ·refine AW.cond_yes rfl c28 (AW.seq (AW.region ?_))
            refine s_assign (d := (sc (.int .i64 0))) rfl ?_
            refine s_assign (d := (sc (.int .i64 4))) rfl (AWops.nil (AW.ret ?_))
            obtain rfl := Option.some.inj h
            exact ⟨_, rfl, (Weak.gen (kk := 0) [] [] rfl rfl (by decide) (by decide) rfl rfl rfl (le_upd (le_top _) (DLe.tup (ac (TLe.one .sc) (ac (TLe.one .sc) an)))) an)⟩
           ·refine AW.cond_no rfl c28 (AW.seq (AW.region ?_))
            refine s_move (d := (sc (.bool (v2 == 45)))) rfl ?_
            refine s_assign (d := (sc (.bool (v2 == 45)))) rfl (AWops.nil ?_)
            rcases itH h with ⟨c29, h⟩ | ⟨c29, h⟩
            ·refine AW.cond_yes rfl c29 (AW.seq (AW.region ?_))
             refine s_move (d := (sc (.int .u64 x19))) rfl ?_
             refine s_convI F.u_71 F.u_3 rfl ?_
             refine s_unI (v := (.int .i64 (IntKind.i64.wrap (0 - (IntKind.i64.wrap x19))))) rfl rfl ?_
             refine s_assign (d := (sc (.int .i64 (IntKind.i64.wrap (0 - (IntKind.i64.wrap x19)))))) rfl ?_
             refine s_assign (d := (sc (.int .i64 0))) rfl (AWops.nil (AW.ret ?_))
             obtain rfl := Option.some.inj h
             exact ⟨_, rfl, (Weak.gen (kk := 0) [] [] rfl rfl (by decide) (by decide) rfl rfl rfl (le_upd (le_top _) (DLe.tup (ac (TLe.one .sc) (ac (TLe.one .sc) an)))) an)⟩
            ·refine AW.cond_no rfl c29 (AW.skip (AW.seq (AW.region ?_)))
             refine s_move (d := (sc (.int .u64 x19))) rfl ?_
             refine s_convI F.u_71 F.u_3 rfl ?_
             refine s_assign (d := (sc (.int .i64 (IntKind.i64.wrap x19)))) rfl ?_
             refine s_assign (d := (sc (.int .i64 0))) rfl (AWops.nil (AW.ret ?_))
             obtain rfl := Option.some.inj h
             exact ⟨_, rfl, (Weak.gen (kk := 0) [] [] rfl rfl (by decide) (by decide) rfl rfl rfl (le_upd (le_top _) (DLe.tup (ac (TLe.one .sc) (ac (TLe.one .sc) an)))) an)⟩
 ·iterate 3 refine AWops.guard_no rfl (nl rfl) rfl c1 ?_
  refine s_pick_no (d := (sc (.bool false))) rfl c1 rfl ?_
  refine s_assign (d := (sc (.bool false))) rfl (AWops.nil (AW.seq (AW.region ?_)))
  refine s_move (d := (sc (.string a0))) rfl ?_
  refine s_assign (d := (sc (.string a0))) rfl (AWops.nil (AW.seq (AW.seq (AW.region ?_))))
  refine s_move (d := (sc (.bool false))) rfl (AWops.nil ?_)
  refine AW.cond_no rfl rfl (AW.skip (AW.seq (AW.seq (AW.region ?_))))
  refine s_move (d := (sc (.string a0))) rfl ?_
  refine s_binS (v := (.bool (a0.toList == (⟨#[]⟩ : ByteArray).toList))) rfl rfl rfl ?_
  refine s_move (d := (sc (.bool (a0.toList == (⟨#[]⟩ : ByteArray).toList)))) rfl ?_
  rcases itH h with ⟨c30, h⟩ | ⟨c30, h⟩
  ·iterate 4 refine AWops.guard_no rfl (nl rfl) rfl c30 ?_
   iterate 3 refine AWops.guard_undef rfl rfl ?_
   refine AWops.guard_no rfl (nl rfl) rfl c30 ?_
   refine s_pick_yes (d := (sc (.bool true))) rfl c30 rfl (AWops.nil ?_)
   refine AW.cond_yes rfl rfl (AW.seq (AW.region ?_))
   refine s_assign (d := (sc (.int .i64 0))) rfl ?_
   refine s_assign (d := (sc (.int .i64 5))) rfl (AWops.nil (AW.ret ?_))
   obtain rfl := Option.some.inj h
   exact ⟨_, rfl, (Weak.gen (kk := 0) [] [] rfl rfl (by decide) (by decide) rfl rfl rfl (le_upd (le_top _) (DLe.tup (ac (TLe.one .sc) (ac (TLe.one .sc) an)))) an)⟩
  ·refine AWops.guard_yes rfl (nl rfl) rfl c30 ?_
   refine s_move (d := (sc (.string a0))) rfl ?_
   refine AWops.guard_yes rfl (nl rfl) rfl c30 ?_
   obtain ⟨v31, ev31, h⟩ := bnd h
   obtain ⟨pv31, bv31, gv31, rfl⟩ := bt_some ev31
   refine s_indexStr F.u_9 rfl rfl pv31 gv31 ?_
   generalize hzv31 : ((bv31.toNat : Nat) : Int) = v31 at *
   refine AWops.guard_yes rfl (nl rfl) rfl c30 ?_
   refine s_binI (v := (.bool (v31 == 48))) rfl rfl rfl ?_
   refine AWops.guard_yes rfl (nl rfl) rfl c30 ?_
   refine s_move (d := (sc (.bool (v31 == 48)))) rfl ?_
   rcases itH h with ⟨c32, h⟩ | ⟨c32, h⟩
   ·refine AWops.guard_yes rfl (nl rfl) rfl c32 ?_
    refine s_move (d := (sc (.string a0))) rfl ?_
    refine AWops.guard_yes rfl (nl rfl) rfl c32 ?_
    refine s_len (n := a0.size) F.u_9 rfl (.inl ⟨⟨_, _, rfl⟩, rfl⟩) ?_
    refine AWops.guard_yes rfl (nl rfl) rfl c32 ?_
    refine s_binI (v := (.bool (decide ((a0.size : Int) > 1)))) rfl rfl rfl ?_
    refine AWops.guard_yes rfl (nl rfl) rfl c30 ?_
    refine s_pick_yes (d := (sc (.bool (decide ((a0.size : Int) > 1))))) rfl c32 rfl ?_
    refine s_pick_no (d := (sc (.bool (decide ((a0.size : Int) > 1))))) rfl c30 rfl (AWops.nil ?_)
    rcases itH h with ⟨c33, h⟩ | ⟨c33, h⟩
    ·refine AW.cond_yes rfl c33 (AW.seq (AW.region ?_))
     refine s_assign (d := (sc (.int .i64 0))) rfl ?_
     refine s_assign (d := (sc (.int .i64 5))) rfl (AWops.nil (AW.ret ?_))
     obtain rfl := Option.some.inj h
     exact ⟨_, rfl, (Weak.gen (kk := 0) [] [] rfl rfl (by decide) (by decide) rfl rfl rfl (le_upd (le_top _) (DLe.tup (ac (TLe.one .sc) (ac (TLe.one .sc) an)))) an)⟩
    ·refine AW.cond_no rfl c33 (AW.skip (AW.seq (AW.region ?_)))
     refine s_assign (d := (sc (.int .u64 0))) rfl (AWops.nil (AW.seq (AW.region ?_)))
     refine s_move (d := (sc (.string a0))) rfl ?_
     refine s_len (n := a0.size) F.u_9 rfl (.inl ⟨⟨_, _, rfl⟩, rfl⟩) ?_
     refine s_binI (v := (.bool (decide ((a0.size : Int) > 19)))) rfl rfl rfl ?_
     refine s_assign (d := (sc (.bool (decide ((a0.size : Int) > 19))))) rfl (AWops.nil (AW.seq (AW.seq (AW.region ?_))))
     refine s_move (d := (sc (.string a0))) rfl ?_
     refine t_ofStr F.u_9 F.u_67 F.u_5 rfl ?_
     refine s_len (n := (bytesI a0).length) F.u_67 rfl (.inr ⟨(fun _ _ h => by cases h), ⟨_, rfl⟩⟩) ?_
     refine s_move (d := (sc (.int .i64 0))) rfl (AWops.nil (AW.block ?_))
     refine AW.loopw (st0 := ⟨78, (upd 78 (upd 78 (upd 78 (upd 78 (upd 78 (upd 78 topF 4 (sc (.bool false))) 6 (sc (.int .u64 0))) 7 (sc (.bool (decide ((a0.size : Int) > 19))))) 39 (D.one (C.p false (.sl (bytesI a0).length ((bytesI a0).flatMap e_u8))))) 40 (sc (.int .i64 ((bytesI a0).length : Int)))) 41 (sc (.int .i64 0))), []⟩) (fun kv st => kv ≤ k ∧ ∃ (x34 : Int) (x35 : Int), chars_Number.l5 kv x34 x35 a0 = some r ∧ st = ⟨78, (upd 78 (upd 78 (upd 78 (upd 78 (upd 78 (upd 78 topF 4 (sc (.bool false))) 6 (sc (.int .u64 x34))) 7 (sc (.bool (decide ((a0.size : Int) > 19))))) 39 (D.one (C.p false (.sl (bytesI a0).length ((bytesI a0).flatMap e_u8))))) 40 (sc (.int .i64 ((bytesI a0).length : Int)))) 41 (sc (.int .i64 x35))), []⟩) (k := k) (Weak.gen (kk := 0) [] [] hx rfl (by decide) (by decide) rfl rfl rfl (le_upd (le_upd (le_upd (le_upd (le_upd (le_upd (le_top _) (.t (.one .sc))) (.t (.one .sc))) (.t (.one .sc))) (.t (.one .same))) (.t (.one .sc))) (.t (.one .sc))) an) ⟨Nat.le_refl _, 0, 0, h, rfl⟩ ?_
     rintro ql5 st ⟨hkl5, x34, x35, h, rfl⟩
     cases ql5 with
     | zero => exact absurd h (by simp [chars_Number.l5])
     | succ ql5 =>
      replace h := (chars_Number.l5.eq_2 _ _ _ _).symm.trans h
      refine AW.seq (AW.region ?_)
      refine s_binI (v := (.bool (decide (x35 < ((bytesI a0).length : Int))))) rfl rfl rfl (AWops.nil (AW.seq ?_))
      rcases itH h with ⟨c36, h⟩ | ⟨c36, h⟩
      ·refine AW.cond_yes rfl c36 (AW.skip (AW.seq (AW.block (AW.seq (AW.region ?_)))))
       obtain ⟨v37, ev37, h⟩ := bnd h
       obtain ⟨pv37, qv37, gv37⟩ := rd_some ev37
       refine s_indexImm (ps := [P.v (.int .u8 v37)]) F.u_67 F.sz_5 rfl rfl pv37 qv37 (flat_at e_u8_len gv37 (e_u8_eq v37)) ?_
       refine s_load1 (c' := (C.p true (.v (.int .u8 v37)))) F.ag_5 rfl rfl ?_
       refine s_assign (d := (sc (.int .u8 v37))) rfl (AWops.nil (AW.seq (AW.seq (AW.region ?_))))
       refine s_move (d := (sc (.int .u8 v37))) rfl ?_
       refine s_binI (v := (.bool (decide (v37 < 48)))) rfl rfl rfl ?_
       refine s_move (d := (sc (.bool (decide (v37 < 48))))) rfl ?_
       rcases itH h with ⟨c38, h⟩ | ⟨c38, h⟩
       ·refine AWops.guard_no rfl (nl rfl) rfl c38 ?_
        refine AWops.guard_no rfl (nl rfl) rfl c38 ?_
        refine s_pick_yes (d := (sc (.bool true))) rfl c38 rfl (AWops.nil ?_)
        refine AW.cond_yes rfl rfl (AW.seq (AW.region ?_))
        refine s_assign (d := (sc (.int .i64 0))) rfl ?_
        refine s_assign (d := (sc (.int .i64 5))) rfl (AWops.nil (AW.ret ?_))
        obtain rfl := Option.some.inj h
        exact ⟨_, rfl, (Weak.gen (kk := 0) [] [] rfl rfl (by decide) (by decide) rfl rfl rfl (le_upd (le_top _) (DLe.tup (ac (TLe.one .sc) (ac (TLe.one .sc) an)))) an)⟩
       ·refine AWops.guard_yes rfl (nl rfl) rfl c38 ?_
        refine s_move (d := (sc (.int .u8 v37))) rfl ?_
        refine AWops.guard_yes rfl (nl rfl) rfl c38 ?_
        refine s_binI (v := (.bool (decide (v37 > 57)))) rfl rfl rfl ?_
        refine s_pick_no (d := (sc (.bool (decide (v37 > 57))))) rfl c38 rfl (AWops.nil ?_)
        rcases itH h with ⟨c39, h⟩ | ⟨c39, h⟩
        ·refine AW.cond_yes rfl c39 (AW.seq (AW.region ?_))
         refine s_assign (d := (sc (.int .i64 0))) rfl ?_
         refine s_assign (d := (sc (.int .i64 5))) rfl (AWops.nil (AW.ret ?_))
         obtain rfl := Option.some.inj h
         exact ⟨_, rfl, (Weak.gen (kk := 0) [] [] rfl rfl (by decide) (by decide) rfl rfl rfl (le_upd (le_top _) (DLe.tup (ac (TLe.one .sc) (ac (TLe.one .sc) an)))) an)⟩
        ·refine AW.cond_no rfl c39 (AW.skip (AW.seq (AW.region ?_)))
         refine s_move (d := (sc (.bool (decide ((a0.size : Int) > 19))))) rfl ?_
         refine s_not rfl (AWops.nil ?_)
         rcases itH h with ⟨c40, h⟩ | ⟨c40, h⟩
         ·refine AW.cond_no rfl (by rw [c40] <;> rfl) (AW.skip (AW.region ?_))
          refine s_binI (v := (.int .i64 (IntKind.i64.wrap (x35 + 1)))) rfl rfl rfl ?_
          refine s_move (d := (sc (.int .i64 (IntKind.i64.wrap (x35 + 1))))) rfl (AWops.nil ?_)
          exact ⟨_, ⟨78, (upd 78 (upd 78 (upd 78 (upd 78 (upd 78 (upd 78 topF 4 (sc (.bool false))) 6 (sc (.int .u64 x34))) 7 (sc (.bool (decide ((a0.size : Int) > 19))))) 39 (D.one (C.p false (.sl (bytesI a0).length ((bytesI a0).flatMap e_u8))))) 40 (sc (.int .i64 ((bytesI a0).length : Int)))) 41 (sc (.int .i64 (IntKind.i64.wrap (x35 + 1))))), []⟩, by omega, (Weak.gen (kk := 0) [] [] hx rfl (by decide) (by decide) rfl rfl rfl (le_upd (le_upd (le_upd (le_upd (le_upd (le_upd (le_top _) (.t (.one .sc))) (.t (.one .sc))) (.t (.one .sc))) (.t (.one .same))) (.t (.one .sc))) (.t (.one .sc))) an), by omega, x34, IntKind.i64.wrap (x35 + 1), h, rfl⟩
         ·refine AW.cond_yes rfl (by rw [c40] <;> rfl) (AW.region ?_)
          refine s_move (d := (sc (.int .u64 x34))) rfl ?_
          refine s_binI (v := (.int .u64 (IntKind.u64.wrap (10 * x34)))) rfl rfl rfl ?_
          refine s_move (d := (sc (.int .u8 v37))) rfl ?_
          refine s_binI (v := (.int .u8 (IntKind.u8.wrap (v37 - 48)))) rfl rfl rfl ?_
          refine s_convI F.u_5 F.u_71 rfl ?_
          refine s_binI (v := (.int .u64 (IntKind.u64.wrap ((IntKind.u64.wrap (10 * x34)) + (IntKind.u64.wrap (IntKind.u8.wrap (v37 - 48))))))) rfl rfl rfl ?_
          refine s_assign (d := (sc (.int .u64 (IntKind.u64.wrap ((IntKind.u64.wrap (10 * x34)) + (IntKind.u64.wrap (IntKind.u8.wrap (v37 - 48)))))))) rfl (AWops.nil (AW.region ?_))
          refine s_binI (v := (.int .i64 (IntKind.i64.wrap (x35 + 1)))) rfl rfl rfl ?_
          refine s_move (d := (sc (.int .i64 (IntKind.i64.wrap (x35 + 1))))) rfl (AWops.nil ?_)
          exact ⟨_, ⟨78, (upd 78 (upd 78 (upd 78 (upd 78 (upd 78 (upd 78 topF 4 (sc (.bool false))) 6 (sc (.int .u64 (IntKind.u64.wrap ((IntKind.u64.wrap (10 * x34)) + (IntKind.u64.wrap (IntKind.u8.wrap (v37 - 48)))))))) 7 (sc (.bool (decide ((a0.size : Int) > 19))))) 39 (D.one (C.p false (.sl (bytesI a0).length ((bytesI a0).flatMap e_u8))))) 40 (sc (.int .i64 ((bytesI a0).length : Int)))) 41 (sc (.int .i64 (IntKind.i64.wrap (x35 + 1))))), []⟩, by omega, (Weak.gen (kk := 0) [] [] hx rfl (by decide) (by decide) rfl rfl rfl (le_upd (le_upd (le_upd (le_upd (le_upd (le_upd (le_top _) (.t (.one .sc))) (.t (.one .sc))) (.t (.one .sc))) (.t (.one .same))) (.t (.one .sc))) (.t (.one .sc))) an), by omega, IntKind.u64.wrap ((IntKind.u64.wrap (10 * x34)) + (IntKind.u64.wrap (IntKind.u8.wrap (v37 - 48)))), IntKind.i64.wrap (x35 + 1), h, rfl⟩
      ·refine AW.cond_no rfl c36 (AW.exit (AW.seq (AW.region ?_)))
       refine s_assign (d := (sc (.int .u64 9223372036854775808))) rfl (AWops.nil (AW.seq (AW.seq (AW.region ?_))))
       refine s_move (d := (sc (.bool false))) rfl ?_
       refine s_not rfl (AWops.nil ?_)
       refine AW.cond_yes rfl rfl (AW.region ?_)
       refine s_move (d := (sc (.int .u64 9223372036854775808))) rfl ?_
       refine s_binI (v := (.int .u64 9223372036854775807)) rfl rfl (by rfl) ?_
       refine s_assign (d := (sc (.int .u64 9223372036854775807))) rfl (AWops.nil (AW.seq (AW.block (AW.seq (AW.region ?_)))))
       refine s_move (d := (sc (.bool (decide ((a0.size : Int) > 19))))) rfl ?_
       refine s_move (d := (sc (.bool (decide ((a0.size : Int) > 19))))) rfl ?_
       rcases itH h with ⟨c41, h⟩ | ⟨c41, h⟩
       ·iterate 3 refine AWops.guard_no rfl (nl rfl) rfl c41 ?_
        refine s_pick_yes (d := (sc (.bool true))) rfl c41 rfl ?_
        refine s_assign (d := (sc (.bool true))) rfl (AWops.nil ?_)
        refine AW.cond_yes rfl rfl (AW.seq (AW.region ?_))
        refine s_assign (d := (sc (.int .i64 0))) rfl ?_
        refine s_assign (d := (sc (.int .i64 4))) rfl (AWops.nil (AW.ret ?_))
        obtain rfl := Option.some.inj h
        exact ⟨_, rfl, (Weak.gen (kk := 0) [] [] rfl rfl (by decide) (by decide) rfl rfl rfl (le_upd (le_top _) (DLe.tup (ac (TLe.one .sc) (ac (TLe.one .sc) an)))) an)⟩
       ·refine AWops.guard_yes rfl (nl rfl) rfl c41 ?_
        refine s_move (d := (sc (.int .u64 x34))) rfl ?_
        refine AWops.guard_yes rfl (nl rfl) rfl c41 ?_
        refine s_move (d := (sc (.int .u64 9223372036854775807))) rfl ?_
        refine AWops.guard_yes rfl (nl rfl) rfl c41 ?_
        refine s_binI (v := (.bool (decide (x34 > 9223372036854775807)))) rfl rfl rfl ?_
        refine s_pick_no (d := (sc (.bool (decide (x34 > 9223372036854775807))))) rfl c41 rfl ?_
        refine s_assign (d := (sc (.bool (decide (x34 > 9223372036854775807))))) rfl (AWops.nil ?_)
        rcases itH h with ⟨c42, h⟩ | ⟨c42, h⟩
        ·refine AW.cond_yes rfl c42 (AW.seq (AW.region ?_))
         refine s_assign (d := (sc (.int .i64 0))) rfl ?_
         refine s_assign (d := (sc (.int .i64 4))) rfl (AWops.nil (AW.ret ?_))
         obtain rfl := Option.some.inj h
         exact ⟨_, rfl, (Weak.gen (kk := 0) [] [] rfl rfl (by decide) (by decide) rfl rfl rfl (le_upd (le_top _) (DLe.tup (ac (TLe.one .sc) (ac (TLe.one .sc) an)))) an)⟩
        ·refine AW.cond_no rfl c42 (AW.seq (AW.region ?_))
         refine s_move (d := (sc (.bool false))) rfl ?_
         refine s_assign (d := (sc (.bool false))) rfl (AWops.nil ?_)
         refine AW.cond_no rfl rfl (AW.skip (AW.seq (AW.region ?_)))
         refine s_move (d := (sc (.int .u64 x34))) rfl ?_
         refine s_convI F.u_71 F.u_3 rfl ?_
         refine s_assign (d := (sc (.int .i64 (IntKind.i64.wrap x34)))) rfl ?_
         refine s_assign (d := (sc (.int .i64 0))) rfl (AWops.nil (AW.ret ?_))
         obtain rfl := Option.some.inj h
         exact ⟨_, rfl, (Weak.gen (kk := 0) [] [] rfl rfl (by decide) (by decide) rfl rfl rfl (le_upd (le_top _) (DLe.tup (ac (TLe.one .sc) (ac (TLe.one .sc) an)))) an)⟩
   ·iterate 3 refine AWops.guard_no rfl (nl rfl) rfl c32 ?_
    refine AWops.guard_yes rfl (nl rfl) rfl c30 ?_
    refine s_pick_no (d := (sc (.bool false))) rfl c32 rfl ?_
    refine s_pick_no (d := (sc (.bool false))) rfl c30 rfl (AWops.nil ?_)
    refine AW.cond_no rfl rfl (AW.skip (AW.seq (AW.region ?_)))
    refine s_assign (d := (sc (.int .u64 0))) rfl (AWops.nil (AW.seq (AW.region ?_)))
    refine s_move (d := (sc (.string a0))) rfl ?_
    refine s_len (n := a0.size) F.u_9 rfl (.inl ⟨⟨_, _, rfl⟩, rfl⟩) ?_
    refine s_binI (v := (.bool (decide ((a0.size : Int) > 19)))) rfl rfl rfl ?_
    refine s_assign (d := (sc (.bool (decide ((a0.size : Int) > 19))))) rfl (AWops.nil (AW.seq (AW.seq (AW.region ?_))))
    refine s_move (d := (sc (.string a0))) rfl ?_
    refine t_ofStr F.u_9 F.u_67 F.u_5 rfl ?_
    refine s_len (n := (bytesI a0).length) F.u_67 rfl (.inr ⟨(fun _ _ h => by cases h), ⟨_, rfl⟩⟩) ?_
    refine s_move (d := (sc (.int .i64 0))) rfl (AWops.nil (AW.block ?_))
    refine AW.loopw (st0 := ⟨78, (upd 78 (upd 78 (upd 78 (upd 78 (upd 78 (upd 78 topF 4 (sc (.bool false))) 6 (sc (.int .u64 0))) 7 (sc (.bool (decide ((a0.size : Int) > 19))))) 39 (D.one (C.p false (.sl (bytesI a0).length ((bytesI a0).flatMap e_u8))))) 40 (sc (.int .i64 ((bytesI a0).length : Int)))) 41 (sc (.int .i64 0))), []⟩) (fun kv st => kv ≤ k ∧ ∃ (x43 : Int) (x44 : Int), chars_Number.l6 kv x43 x44 a0 = some r ∧ st = ⟨78, (upd 78 (upd 78 (upd 78 (upd 78 (upd 78 (upd 78 topF 4 (sc (.bool false))) 6 (sc (.int .u64 x43))) 7 (sc (.bool (decide ((a0.size : Int) > 19))))) 39 (D.one (C.p false (.sl (bytesI a0).length ((bytesI a0).flatMap e_u8))))) 40 (sc (.int .i64 ((bytesI a0).length : Int)))) 41 (sc (.int .i64 x44))), []⟩) (k := k) (Weak.gen (kk := 0) [] [] hx rfl (by decide) (by decide) rfl rfl rfl (le_upd (le_upd (le_upd (le_upd (le_upd (le_upd (le_top _) (.t (.one .sc))) (.t (.one .sc))) (.t (.one .sc))) (.t (.one .same))) (.t (.one .sc))) (.t (.one .sc))) an) ⟨Nat.le_refl _, 0, 0, h, rfl⟩ ?_
    rintro ql6 st ⟨hkl6, x43, x44, h, rfl⟩
    cases ql6 with
    | zero => exact absurd h (by simp [chars_Number.l6])
    | succ ql6 =>
     replace h := (chars_Number.l6.eq_2 _ _ _ _).symm.trans h
     refine AW.seq (AW.region ?_)
     refine s_binI (v := (.bool (decide (x44 < ((bytesI a0).length : Int))))) rfl rfl rfl (AWops.nil (AW.seq ?_))
     rcases itH h with ⟨c45, h⟩ | ⟨c45, h⟩
     ·refine AW.cond_yes rfl c45 (AW.skip (AW.seq (AW.block (AW.seq (AW.region ?_)))))
      obtain ⟨v46, ev46, h⟩ := bnd h
      obtain ⟨pv46, qv46, gv46⟩ := rd_some ev46
      refine s_indexImm (ps := [P.v (.int .u8 v46)]) F.u_67 F.sz_5 rfl rfl pv46 qv46 (flat_at e_u8_len gv46 (e_u8_eq v46)) ?_
      refine s_load1 (c' := (C.p true (.v (.int .u8 v46)))) F.ag_5 rfl rfl ?_
      refine s_assign (d := (sc (.int .u8 v46))) rfl (AWops.nil (AW.seq (AW.seq (AW.region ?_))))
      refine s_move (d := (sc (.int .u8 v46))) rfl ?_
      refine s_binI (v := (.bool (decide (v46 < 48)))) rfl rfl rfl ?_
      refine s_move (d := (sc (.bool (decide (v46 < 48))))) rfl ?_
      rcases itH h with ⟨c47, h⟩ | ⟨c47, h⟩
      ·refine AWops.guard_no rfl (nl rfl) rfl c47 ?_
       refine AWops.guard_no rfl (nl rfl) rfl c47 ?_
       refine s_pick_yes (d := (sc (.bool true))) rfl c47 rfl (AWops.nil ?_)
       refine AW.cond_yes rfl rfl (AW.seq (AW.region ?_))
       refine s_assign (d := (sc (.int .i64 0))) rfl ?_
       refine s_assign (d := (sc (.int .i64 5))) rfl (AWops.nil (AW.ret ?_))
       obtain rfl := Option.some.inj h
       exact ⟨_, rfl, (Weak.gen (kk := 0) [] [] rfl rfl (by decide) (by decide) rfl rfl rfl (le_upd (le_top _) (DLe.tup (ac (TLe.one .sc) (ac (TLe.one .sc) an)))) an)⟩
      ·refine AWops.guard_yes rfl (nl rfl) rfl c47 ?_
       refine s_move (d := (sc (.int .u8 v46))) rfl ?_
       refine AWops.guard_yes rfl (nl rfl) rfl c47 ?_
       refine s_binI (v := (.bool (decide (v46 > 57)))) rfl rfl rfl ?_
       refine s_pick_no (d := (sc (.bool (decide (v46 > 57))))) rfl c47 rfl (AWops.nil ?_)
       rcases itH h with ⟨c48, h⟩ | ⟨c48, h⟩
       ·refine AW.cond_yes rfl c48 (AW.seq (AW.region ?_))
        refine s_assign (d := (sc (.int .i64 0))) rfl ?_
        refine s_assign (d := (sc (.int .i64 5))) rfl (AWops.nil (AW.ret ?_))
        obtain rfl := Option.some.inj h
        exact ⟨_, rfl, (Weak.gen (kk := 0) [] [] rfl rfl (by decide) (by decide) rfl rfl rfl (le_upd (le_top _) (DLe.tup (ac (TLe.one .sc) (ac (TLe.one .sc) an)))) an)⟩
       ·refine AW.cond_no rfl c48 (AW.skip (AW.seq (AW.region ?_)))
        refine s_move (d := (sc (.bool (decide ((a0.size : Int) > 19))))) rfl ?_
        refine s_not rfl (AWops.nil ?_)
        rcases itH h with ⟨c49, h⟩ | ⟨c49, h⟩
        ·refine AW.cond_no rfl (by rw [c49] <;> rfl) (AW.skip (AW.region ?_))
         refine s_binI (v := (.int .i64 (IntKind.i64.wrap (x44 + 1)))) rfl rfl rfl ?_
         refine s_move (d := (sc (.int .i64 (IntKind.i64.wrap (x44 + 1))))) rfl (AWops.nil ?_)
         exact ⟨_, ⟨78, (upd 78 (upd 78 (upd 78 (upd 78 (upd 78 (upd 78 topF 4 (sc (.bool false))) 6 (sc (.int .u64 x43))) 7 (sc (.bool (decide ((a0.size : Int) > 19))))) 39 (D.one (C.p false (.sl (bytesI a0).length ((bytesI a0).flatMap e_u8))))) 40 (sc (.int .i64 ((bytesI a0).length : Int)))) 41 (sc (.int .i64 (IntKind.i64.wrap (x44 + 1))))), []⟩, by omega, (Weak.gen (kk := 0) [] [] hx rfl (by decide) (by decide) rfl rfl rfl (le_upd (le_upd (le_upd (le_upd (le_upd (le_upd (le_top _) (.t (.one .sc))) (.t (.one .sc))) (.t (.one .sc))) (.t (.one .same))) (.t (.one .sc))) (.t (.one .sc))) an), by omega, x43, IntKind.i64.wrap (x44 + 1), h, rfl⟩
        ·refine AW.cond_yes rfl (by rw [c49] <;> rfl) (AW.region ?_)
         refine s_move (d := (sc (.int .u64 x43))) rfl ?_
         refine s_binI (v := (.int .u64 (IntKind.u64.wrap (10 * x43)))) rfl rfl rfl ?_
         refine s_move (d := (sc (.int .u8 v46))) rfl ?_
         refine s_binI (v := (.int .u8 (IntKind.u8.wrap (v46 - 48)))) rfl rfl rfl ?_
         refine s_convI F.u_5 F.u_71 rfl ?_
         refine s_binI (v := (.int .u64 (IntKind.u64.wrap ((IntKind.u64.wrap (10 * x43)) + (IntKind.u64.wrap (IntKind.u8.wrap (v46 - 48))))))) rfl rfl rfl ?_
         refine s_assign (d := (sc (.int .u64 (IntKind.u64.wrap ((IntKind.u64.wrap (10 * x43)) + (IntKind.u64.wrap (IntKind.u8.wrap (v46 - 48)))))))) rfl (AWops.nil (AW.region ?_))
         refine s_binI (v := (.int .i64 (IntKind.i64.wrap (x44 + 1)))) rfl rfl rfl ?_
         refine s_move (d := (sc (.int .i64 (IntKind.i64.wrap (x44 + 1))))) rfl (AWops.nil ?_)
         exact ⟨_, ⟨78, (upd 78 (upd 78 (upd 78 (upd 78 (upd 78 (upd 78 topF 4 (sc (.bool false))) 6 (sc (.int .u64 (IntKind.u64.wrap ((IntKind.u64.wrap (10 * x43)) + (IntKind.u64.wrap (IntKind.u8.wrap (v46 - 48)))))))) 7 (sc (.bool (decide ((a0.size : Int) > 19))))) 39 (D.one (C.p false (.sl (bytesI a0).length ((bytesI a0).flatMap e_u8))))) 40 (sc (.int .i64 ((bytesI a0).length : Int)))) 41 (sc (.int .i64 (IntKind.i64.wrap (x44 + 1))))), []⟩, by omega, (Weak.gen (kk := 0) [] [] hx rfl (by decide) (by decide) rfl rfl rfl (le_upd (le_upd (le_upd (le_upd (le_upd (le_upd (le_top _) (.t (.one .sc))) (.t (.one .sc))) (.t (.one .sc))) (.t (.one .same))) (.t (.one .sc))) (.t (.one .sc))) an), by omega, IntKind.u64.wrap ((IntKind.u64.wrap (10 * x43)) + (IntKind.u64.wrap (IntKind.u8.wrap (v46 - 48)))), IntKind.i64.wrap (x44 + 1), h, rfl⟩
     ·refine AW.cond_no rfl c45 (AW.exit (AW.seq (AW.region ?_)))
      refine s_assign (d := (sc (.int .u64 9223372036854775808))) rfl (AWops.nil (AW.seq (AW.seq (AW.region ?_))))
      refine s_move (d := (sc (.bool false))) rfl ?_
      refine s_not rfl (AWops.nil ?_)
      refine AW.cond_yes rfl rfl (AW.region ?_)
      refine s_move (d := (sc (.int .u64 9223372036854775808))) rfl ?_
      refine s_binI (v := (.int .u64 9223372036854775807)) rfl rfl (by rfl) ?_
      refine s_assign (d := (sc (.int .u64 9223372036854775807))) rfl (AWops.nil (AW.seq (AW.block (AW.seq (AW.region ?_)))))
      refine s_move (d := (sc (.bool (decide ((a0.size : Int) > 19))))) rfl ?_
      refine s_move (d := (sc (.bool (decide ((a0.size : Int) > 19))))) rfl ?_
      rcases itH h with ⟨c50, h⟩ | ⟨c50, h⟩
      ·iterate 3 refine AWops.guard_no rfl (nl rfl) rfl c50 ?_
       refine s_pick_yes (d := (sc (.bool true))) rfl c50 rfl ?_
       refine s_assign (d := (sc (.bool true))) rfl (AWops.nil ?_)
       refine AW.cond_yes rfl rfl (AW.seq (AW.region ?_))
       refine s_assign (d := (sc (.int .i64 0))) rfl ?_
       refine s_assign (d := (sc (.int .i64 4))) rfl (AWops.nil (AW.ret ?_))
       obtain rfl := Option.some.inj h
       exact ⟨_, rfl, (Weak.gen (kk := 0) [] [] rfl rfl (by decide) (by decide) rfl rfl rfl (le_upd (le_top _) (DLe.tup (ac (TLe.one .sc) (ac (TLe.one .sc) an)))) an)⟩
      ·refine AWops.guard_yes rfl (nl rfl) rfl c50 ?_
       refine s_move (d := (sc (.int .u64 x43))) rfl ?_
       refine AWops.guard_yes rfl (nl rfl) rfl c50 ?_
       refine s_move (d := (sc (.int .u64 9223372036854775807))) rfl ?_
       refine AWops.guard_yes rfl (nl rfl) rfl c50 ?_
       refine s_binI (v := (.bool (decide (x43 > 9223372036854775807)))) rfl rfl rfl ?_
       refine s_pick_no (d := (sc (.bool (decide (x43 > 9223372036854775807))))) rfl c50 rfl ?_
       refine s_assign (d := (sc (.bool (decide (x43 > 9223372036854775807))))) rfl (AWops.nil ?_)
       rcases itH h with ⟨c51, h⟩ | ⟨c51, h⟩
       ·refine AW.cond_yes rfl c51 (AW.seq (AW.region ?_))
        refine s_assign (d := (sc (.int .i64 0))) rfl ?_
        refine s_assign (d := (sc (.int .i64 4))) rfl (AWops.nil (AW.ret ?_))
        obtain rfl := Option.some.inj h
        exact ⟨_, rfl, (Weak.gen (kk := 0) [] [] rfl rfl (by decide) (by decide) rfl rfl rfl (le_upd (le_top _) (DLe.tup (ac (TLe.one .sc) (ac (TLe.one .sc) an)))) an)⟩
       ·refine AW.cond_no rfl c51 (AW.seq (AW.region ?_))
        refine s_move (d := (sc (.bool false))) rfl ?_
        refine s_assign (d := (sc (.bool false))) rfl (AWops.nil ?_)
        refine AW.cond_no rfl rfl (AW.skip (AW.seq (AW.region ?_)))
        refine s_move (d := (sc (.int .u64 x43))) rfl ?_
        refine s_convI F.u_71 F.u_3 rfl ?_
        refine s_assign (d := (sc (.int .i64 (IntKind.i64.wrap x43)))) rfl ?_
        refine s_assign (d := (sc (.int .i64 0))) rfl (AWops.nil (AW.ret ?_))
        obtain rfl := Option.some.inj h
        exact ⟨_, rfl, (Weak.gen (kk := 0) [] [] rfl rfl (by decide) (by decide) rfl rfl rfl (le_upd (le_top _) (DLe.tup (ac (TLe.one .sc) (ac (TLe.one .sc) an)))) an)⟩
def tree_part.f (k : Nat) (a0 : ByteArray) : Option (ByteArray × Int) := (strings_LastIndexByte.f k a0 46).bind fun r1 => if (decide (r1 < 1)) = true then (some ((⟨#[]⟩ : ByteArray), 0)) else (if (decide (0 ≤ (IntKind.i64.wrap (r1 + 1)) ∧ (IntKind.i64.wrap (r1 + 1)) ≤ (a0.size : Int) ∧ (a0.size : Int) ≤ (a0.size : Int))) = true then ((chars_Number.f k (a0.extract (IntKind.i64.wrap (r1 + 1)).toNat a0.size)).bind fun r4 => if (r4.2 != 0) = true then (some ((⟨#[]⟩ : ByteArray), 0)) else (if (decide (r4.1 < 1)) = true then (some ((⟨#[]⟩ : ByteArray), 0)) else (if (decide (0 ≤ 0 ∧ 0 ≤ r1 ∧ r1 ≤ (a0.size : Int))) = true then (some (a0.extract 0 r1.toNat, r4.1)) else none))) else none)
theorem tree_part.meets (k : Nat) (a0 : ByteArray) (r : ByteArray × Int) (h : tree_part.f k a0 = some r) : Meets Try.prog 47 [(sc (.string a0))] [] (D.tup [(sc (.string r.1)), (sc (.int .i64 r.2))]) [] := by
 unfold tree_part.f at h
 refine Meets.of_body (n := 29) Try.func47 rfl rfl (nl rfl) fun x hx => ?_
 replace hx : x.k = 0 := hx
 show AW _ x _ _ ⟨29, fr0 [(sc (.string a0))], []⟩
 refine AW.seq (AW.region ?_)
 refine s_assign (d := (sc (.string (⟨#[]⟩ : ByteArray)))) rfl ?_
 refine s_assign (d := (sc (.int .i64 0))) rfl (AWops.nil (AW.seq (AW.region ?_)))
 refine s_move (d := (sc (.string a0))) rfl ?_
 obtain ⟨r1, er1, h⟩ := bnd h
 refine s_call2 (ρ := []) (br := false) (H2 := []) (d := (sc (.int .i64 r1))) F.ca_41 rfl rfl (ac (.one .sc) (ac (.one .sc) an)) an (by decide) rfl (strings_LastIndexByte.meets _ a0 46 r1 er1) (.inl rfl) rfl rfl ?_
 refine s_assign (d := (sc (.int .i64 r1))) rfl (AWops.nil (AW.seq (AW.seq (AW.region ?_))))
 refine s_move (d := (sc (.int .i64 r1))) rfl ?_
 refine s_binI (v := (.bool (decide (r1 < 1)))) rfl rfl rfl (AWops.nil ?_)
 rcases itH h with ⟨c2, h⟩ | ⟨c2, h⟩
 ·refine AW.cond_yes rfl c2 (AW.seq (AW.region ?_))
  refine s_assign (d := (sc (.string (⟨#[]⟩ : ByteArray)))) rfl ?_
  refine s_assign (d := (sc (.int .i64 0))) rfl (AWops.nil (AW.ret ?_))
  obtain rfl := Option.some.inj h
  exact ⟨_, rfl, (Weak.gen (kk := 0) [] [] rfl rfl (by decide) (by decide) rfl rfl rfl (le_upd (le_top _) (DLe.tup (ac (TLe.one .sc) (ac (TLe.one .sc) an)))) an)⟩
 ·refine AW.cond_no rfl c2 (AW.skip (AW.seq (AW.region ?_)))
  refine s_move (d := (sc (.string a0))) rfl ?_
  refine s_move (d := (sc (.int .i64 r1))) rfl ?_
  refine s_binI (v := (.int .i64 (IntKind.i64.wrap (r1 + 1)))) rfl rfl rfl ?_
  obtain ⟨c3, h⟩ := gdH h
  have dc3 := of_decide_eq_true c3
  refine s_sliceStr F.u_9 rfl (.yes rfl (by omega) rfl) .no (by omega) (by omega) ?_
  obtain ⟨r4, er4, h⟩ := bnd h
  refine s_call2 (ρ := []) (br := false) (H2 := []) (d := (D.tup [(sc (.int .i64 r4.1)), (sc (.int .i64 r4.2))])) F.ca_52 rfl rfl (ac (.one .sc) an) an (by decide) rfl (chars_Number.meets _ (a0.extract (IntKind.i64.wrap (r1 + 1)).toNat a0.size) r4 er4) (.inl rfl) rfl rfl ?_
  refine s_move (d := (D.tup [(sc (.int .i64 r4.1)), (sc (.int .i64 r4.2))])) rfl ?_
  refine s_extract (d := (sc (.int .i64 r4.1))) rfl rfl ?_
  refine s_extract (d := (sc (.int .i64 r4.2))) rfl rfl ?_
  refine s_assign (d := (sc (.int .i64 r4.1))) rfl ?_
  refine s_assign (d := (sc (.int .i64 r4.2))) rfl (AWops.nil (AW.seq (AW.seq (AW.region ?_))))
  refine s_move (d := (sc (.int .i64 r4.2))) rfl ?_
  refine s_binI (v := (.bool (r4.2 != 0))) rfl rfl rfl ?_
  refine s_move (d := (sc (.bool (r4.2 != 0)))) rfl ?_
  rcases itH h with ⟨c5, h⟩ | ⟨c5, h⟩
  ·refine AWops.guard_no rfl (nl rfl) rfl c5 ?_
   refine AWops.guard_no rfl (nl rfl) rfl c5 ?_
   refine s_pick_yes (d := (sc (.bool true))) rfl c5 rfl (AWops.nil ?_)
   refine AW.cond_yes rfl rfl (AW.seq (AW.region ?_))
   refine s_assign (d := (sc (.string (⟨#[]⟩ : ByteArray)))) rfl ?_
   refine s_assign (d := (sc (.int .i64 0))) rfl (AWops.nil (AW.ret ?_))
   obtain rfl := Option.some.inj h
   exact ⟨_, rfl, (Weak.gen (kk := 0) [] [] rfl rfl (by decide) (by decide) rfl rfl rfl (le_upd (le_top _) (DLe.tup (ac (TLe.one .sc) (ac (TLe.one .sc) an)))) an)⟩
  ·refine AWops.guard_yes rfl (nl rfl) rfl c5 ?_
   refine s_move (d := (sc (.int .i64 r4.1))) rfl ?_
   refine AWops.guard_yes rfl (nl rfl) rfl c5 ?_
   refine s_binI (v := (.bool (decide (r4.1 < 1)))) rfl rfl rfl ?_
   refine s_pick_no (d := (sc (.bool (decide (r4.1 < 1))))) rfl c5 rfl (AWops.nil ?_)
   rcases itH h with ⟨c6, h⟩ | ⟨c6, h⟩
   ·refine AW.cond_yes rfl c6 (AW.seq (AW.region ?_))
    refine s_assign (d := (sc (.string (⟨#[]⟩ : ByteArray)))) rfl ?_
    refine s_assign (d := (sc (.int .i64 0))) rfl (AWops.nil (AW.ret ?_))
    obtain rfl := Option.some.inj h
    exact ⟨_, rfl, (Weak.gen (kk := 0) [] [] rfl rfl (by decide) (by decide) rfl rfl rfl (le_upd (le_top _) (DLe.tup (ac (TLe.one .sc) (ac (TLe.one .sc) an)))) an)⟩
   ·refine AW.cond_no rfl c6 (AW.skip (AW.seq (AW.region ?_)))
    refine s_move (d := (sc (.string a0))) rfl ?_
    refine s_move (d := (sc (.int .i64 r1))) rfl ?_
    obtain ⟨c7, h⟩ := gdH h
    have dc7 := of_decide_eq_true c7
    refine s_sliceStr F.u_9 rfl .no (.yes rfl (by omega) rfl) (by omega) (by omega) ?_
    refine s_move (d := (sc (.int .i64 r4.1))) rfl ?_
    refine s_assign (d := (sc (.string (a0.extract 0 r1.toNat)))) rfl ?_
    refine s_assign (d := (sc (.int .i64 r4.1))) rfl (AWops.nil (AW.ret ?_))
    obtain rfl := Option.some.inj h
    exact ⟨_, rfl, (Weak.gen (kk := 0) [] [] rfl rfl (by decide) (by decide) rfl rfl rfl (le_upd (le_top _) (DLe.tup (ac (TLe.one .sc) (ac (TLe.one .sc) an)))) an)⟩
def tree_Last.f (k : Nat) (a0 : ByteArray) : Option (ByteArray × Int) := (strings_LastIndexByte.f k a0 47).bind fun r1 => if (decide (0 ≤ (IntKind.i64.wrap (r1 + 1)) ∧ (IntKind.i64.wrap (r1 + 1)) ≤ (a0.size : Int) ∧ (a0.size : Int) ≤ (a0.size : Int))) = true then ((tree_part.f k (a0.extract (IntKind.i64.wrap (r1 + 1)).toNat a0.size)).bind fun r3 => some (r3.1, r3.2)) else none
theorem tree_Last.meets (k : Nat) (a0 : ByteArray) (r : ByteArray × Int) (h : tree_Last.f k a0 = some r) : Meets Try.prog 31 [(sc (.string a0))] [] (D.tup [(sc (.string r.1)), (sc (.int .i64 r.2))]) [] := by
 unfold tree_Last.f at h
 refine Meets.of_body (n := 12) Try.func31 rfl rfl (nl rfl) fun x hx => ?_
 replace hx : x.k = 0 := hx
 show AW _ x _ _ ⟨12, fr0 [(sc (.string a0))], []⟩
 refine AW.seq (AW.region ?_)
 refine s_assign (d := (sc (.string (⟨#[]⟩ : ByteArray)))) rfl ?_
 refine s_assign (d := (sc (.int .i64 0))) rfl (AWops.nil (AW.seq (AW.region ?_)))
 refine s_move (d := (sc (.string a0))) rfl ?_
 refine s_move (d := (sc (.string a0))) rfl ?_
 obtain ⟨r1, er1, h⟩ := bnd h
 refine s_call2 (ρ := []) (br := false) (H2 := []) (d := (sc (.int .i64 r1))) F.ca_41 rfl rfl (ac (.one .sc) (ac (.one .sc) an)) an (by decide) rfl (strings_LastIndexByte.meets _ a0 47 r1 er1) (.inl rfl) rfl rfl ?_
 refine s_binI (v := (.int .i64 (IntKind.i64.wrap (r1 + 1)))) rfl rfl rfl ?_
 obtain ⟨c2, h⟩ := gdH h
 have dc2 := of_decide_eq_true c2
 refine s_sliceStr F.u_9 rfl (.yes rfl (by omega) rfl) .no (by omega) (by omega) ?_
 obtain ⟨r3, er3, h⟩ := bnd h
 refine s_call2 (ρ := []) (br := false) (H2 := []) (d := (D.tup [(sc (.string r3.1)), (sc (.int .i64 r3.2))])) F.ca_47 rfl rfl (ac (.one .sc) an) an (by decide) rfl (tree_part.meets _ (a0.extract (IntKind.i64.wrap (r1 + 1)).toNat a0.size) r3 er3) (.inl rfl) rfl rfl ?_
 refine s_extract (d := (sc (.string r3.1))) rfl rfl ?_
 refine s_extract (d := (sc (.int .i64 r3.2))) rfl rfl ?_
 refine s_assign (d := (sc (.string r3.1))) rfl ?_
 refine s_assign (d := (sc (.int .i64 r3.2))) rfl (AWops.nil (AW.ret ?_))
 obtain rfl := Option.some.inj h
 exact ⟨_, rfl, (Weak.gen (kk := 0) [] [] rfl rfl (by decide) (by decide) rfl rfl rfl (le_upd (le_top _) (DLe.tup (ac (TLe.one .sc) (ac (TLe.one .sc) an)))) an)⟩
mutual
def tree_Next.l0 : Nat → Int → Int → api_Case → ByteArray → ByteArray → Option Int
 | 0, _, _, _, _, _ => none
 | k + 1, x1, x2, a0, a1, a2 => if (decide (x2 < (a0.Insts.length : Int))) = true then ((rd a0.Insts x2).bind fun v4 => (tree_Last.f k v4.Path).bind fun r5 => (tree_Up.f k v4.Path).bind fun r6 => if (r6.toList == a1.toList) = true then (if (decide (r5.2 > 0)) = true then (if (r5.1.toList == a2.toList) = true then (tree_Next.l0 k (if r5.2 > x1 then r5.2 else x1) (IntKind.i64.wrap (x2 + 1)) a0 a1 a2) else (tree_Next.l0 k x1 (IntKind.i64.wrap (x2 + 1)) a0 a1 a2)) else (tree_Next.l0 k x1 (IntKind.i64.wrap (x2 + 1)) a0 a1 a2)) else (tree_Next.l0 k x1 (IntKind.i64.wrap (x2 + 1)) a0 a1 a2)) else (some (IntKind.i64.wrap ((if 4611686018427387903 < x1 then 4611686018427387903 else x1) + 1)))
end
def tree_Next.f (k : Nat) (a0 : api_Case) (a1 : ByteArray) (a2 : ByteArray) : Option Int := tree_Next.l0 k 0 0 a0 a1 a2
theorem tree_Next.meets (k : Nat) (a0 : api_Case) (a1 : ByteArray) (a2 : ByteArray) (r : Int) (h : tree_Next.f k a0 a1 a2 = some r) : Meets Try.prog 14 [(D.agg (c_api_Case a0)), (sc (.string a1)), (sc (.string a2))] [] (sc (.int .i64 r)) [] := by
 unfold tree_Next.f at h
 refine Meets.of_body (n := 46) Try.func14 rfl rfl (nl rfl) fun x hx => ?_
 replace hx : x.k = 0 := hx
 show AW _ x _ _ ⟨46, fr0 [(D.agg (c_api_Case a0)), (sc (.string a1)), (sc (.string a2))], []⟩
 refine AW.seq (AW.region ?_)
 refine s_box (cs := (c_api_Case a0)) rfl (List.cons_ne_nil _ _) rfl ?_
 refine s_assign (d := (sc (.int .i64 0))) rfl (AWops.nil (AW.seq (AW.region ?_)))
 refine s_assign (d := (sc (.int .i64 0))) rfl (AWops.nil (AW.seq (AW.seq (AW.region ?_))))
 refine s_fieldRef F.fo_25_2 (by decide) rfl ?_
 refine s_load1 (c' := (C.p false (.sl a0.Insts.length (a0.Insts.flatMap e_api_Inst)))) F.ag_22 rfl rfl ?_
 refine s_len (n := a0.Insts.length) F.u_22 rfl (.inr ⟨(fun _ _ h => by cases h), ⟨_, rfl⟩⟩) ?_
 refine s_move (d := (sc (.int .i64 0))) rfl (AWops.nil (AW.block ?_))
 refine AW.loopw (st0 := ⟨46, (upd 46 (upd 46 (upd 46 (upd 46 (upd 46 (upd 46 topF 1 (sc (.string a1))) 2 (sc (.string a2))) 7 (sc (.int .i64 0))) 13 (D.one (C.p false (.sl a0.Insts.length (a0.Insts.flatMap e_api_Inst))))) 14 (sc (.int .i64 (a0.Insts.length : Int)))) 15 (sc (.int .i64 0))), []⟩) (fun kv st => kv ≤ k ∧ ∃ (x1 : Int) (x2 : Int), tree_Next.l0 kv x1 x2 a0 a1 a2 = some r ∧ st = ⟨46, (upd 46 (upd 46 (upd 46 (upd 46 (upd 46 (upd 46 topF 1 (sc (.string a1))) 2 (sc (.string a2))) 7 (sc (.int .i64 x1))) 13 (D.one (C.p false (.sl a0.Insts.length (a0.Insts.flatMap e_api_Inst))))) 14 (sc (.int .i64 (a0.Insts.length : Int)))) 15 (sc (.int .i64 x2))), []⟩) (k := k) (Weak.gen (kk := 0) [] [] hx rfl (by decide) (by decide) rfl rfl rfl (le_upd (le_upd (le_upd (le_upd (le_upd (le_upd (le_top _) (.t (.one .sc))) (.t (.one .sc))) (.t (.one .sc))) (.t (.one .same))) (.t (.one .sc))) (.t (.one .sc))) an) ⟨Nat.le_refl _, 0, 0, h, rfl⟩ ?_
 rintro ql0 st ⟨hkl0, x1, x2, h, rfl⟩
 cases ql0 with
 | zero => exact absurd h (by simp [tree_Next.l0])
 | succ ql0 =>
  replace h := (tree_Next.l0.eq_2 _ _ _ _ _ _).symm.trans h
  refine AW.seq (AW.region ?_)
  refine s_binI (v := (.bool (decide (x2 < (a0.Insts.length : Int))))) rfl rfl rfl (AWops.nil (AW.seq ?_))
  rcases itH h with ⟨c3, h⟩ | ⟨c3, h⟩
  ·refine AW.cond_yes rfl c3 (AW.skip (AW.seq (AW.block (AW.seq (AW.region ?_)))))
   obtain ⟨v4, ev4, h⟩ := bnd h
   obtain ⟨pv4, qv4, gv4⟩ := rd_some ev4
   refine s_indexImm (ps := (p_api_Inst v4)) F.u_22 F.sz_30 rfl rfl pv4 qv4 (flat_at e_api_Inst_len gv4 (e_api_Inst_eq v4)) ?_
   refine s_loadN (ds := (c_api_Inst v4)) F.ag_30 F.sz_30 rfl rfl rfl ?_
   refine s_alloc (cs := [(C.p true (.v (.string (⟨#[]⟩ : ByteArray)))), (C.p true (.v (.string (⟨#[]⟩ : ByteArray)))), (C.p true (.v (.int .i64 0))), (C.p true (.v (.int .i64 0))), (C.p true (.v (.slice none 0 0))), (C.p true (.v (.int .i64 0)))]) F.z_30 rfl rfl ?_
   refine s_store (cs' := (c_api_Inst v4)) rfl rfl rfl (List.cons_ne_nil _ _) rfl F.sz_30 (nl rfl) rfl (AWops.nil (AW.seq (AW.region ?_)))
   refine s_fieldRef F.fo_30_0 (by decide) rfl ?_
   refine s_load1 (c' := (C.p true (.v (.string v4.Path)))) F.ag_9 rfl rfl ?_
   obtain ⟨r5, er5, h⟩ := bnd h
   refine s_call2 (ρ := []) (br := false) (H2 := [(some (AObj.cells true (c_api_Inst v4)))]) (d := (D.tup [(sc (.string r5.1)), (sc (.int .i64 r5.2))])) F.ca_31 rfl rfl (ac (.one .sc) an) an (by decide) rfl (tree_Last.meets _ v4.Path r5 er5) (.inl rfl) rfl rfl ?_
   refine s_move (d := (D.tup [(sc (.string r5.1)), (sc (.int .i64 r5.2))])) rfl ?_
   refine s_extract (d := (sc (.string r5.1))) rfl rfl ?_
   refine s_extract (d := (sc (.int .i64 r5.2))) rfl rfl ?_
   refine s_assign (d := (sc (.string r5.1))) rfl ?_
   refine s_assign (d := (sc (.int .i64 r5.2))) rfl (AWops.nil (AW.seq (AW.region ?_)))
   refine s_fieldRef F.fo_30_0 (by decide) rfl ?_
   refine s_load1 (c' := (C.p true (.v (.string v4.Path)))) F.ag_9 rfl rfl ?_
   obtain ⟨r6, er6, h⟩ := bnd h
   refine s_call2 (ρ := []) (br := false) (H2 := [(some (AObj.cells true (c_api_Inst v4)))]) (d := (sc (.string r6))) F.ca_20 rfl rfl (ac (.one .sc) an) an (by decide) rfl (tree_Up.meets _ v4.Path r6 er6) (.inl rfl) rfl rfl ?_
   refine s_move (d := (sc (.string a1))) rfl ?_
   refine s_binS (v := (.bool (r6.toList == a1.toList))) rfl rfl rfl ?_
   refine s_move (d := (sc (.bool (r6.toList == a1.toList)))) rfl ?_
   rcases itH h with ⟨c7, h⟩ | ⟨c7, h⟩
   ·refine AWops.guard_yes rfl (nl rfl) rfl c7 ?_
    refine s_move (d := (sc (.int .i64 r5.2))) rfl ?_
    refine AWops.guard_yes rfl (nl rfl) rfl c7 ?_
    refine s_binI (v := (.bool (decide (r5.2 > 0)))) rfl rfl rfl ?_
    refine s_pick_yes (d := (sc (.bool (decide (r5.2 > 0))))) rfl c7 rfl ?_
    refine s_move (d := (sc (.bool (decide (r5.2 > 0))))) rfl ?_
    rcases itH h with ⟨c8, h⟩ | ⟨c8, h⟩
    ·refine AWops.guard_yes rfl (nl rfl) rfl c8 ?_
     refine s_move (d := (sc (.string r5.1))) rfl ?_
     refine AWops.guard_yes rfl (nl rfl) rfl c8 ?_
     refine s_move (d := (sc (.string a2))) rfl ?_
     refine AWops.guard_yes rfl (nl rfl) rfl c8 ?_
     refine s_binS (v := (.bool (r5.1.toList == a2.toList))) rfl rfl rfl ?_
     refine s_pick_yes (d := (sc (.bool (r5.1.toList == a2.toList)))) rfl c8 rfl (AWops.nil ?_)
     rcases itH h with ⟨c9, h⟩ | ⟨c9, h⟩
     ·refine AW.cond_yes rfl c9 (AW.region ?_)
      refine s_move (d := (sc (.int .i64 x1))) rfl ?_
      refine s_move (d := (sc (.int .i64 r5.2))) rfl ?_
      refine s_max2 (r := (if r5.2 > x1 then r5.2 else x1)) rfl rfl rfl ?_
      refine s_assign (d := (sc (.int .i64 (if r5.2 > x1 then r5.2 else x1)))) rfl (AWops.nil (AW.region ?_))
      refine s_binI (v := (.int .i64 (IntKind.i64.wrap (x2 + 1)))) rfl rfl rfl ?_
      refine s_move (d := (sc (.int .i64 (IntKind.i64.wrap (x2 + 1))))) rfl (AWops.nil ?_)
      exact ⟨_, ⟨46, (upd 46 (upd 46 (upd 46 (upd 46 (upd 46 (upd 46 topF 1 (sc (.string a1))) 2 (sc (.string a2))) 7 (sc (.int .i64 (if r5.2 > x1 then r5.2 else x1)))) 13 (D.one (C.p false (.sl a0.Insts.length (a0.Insts.flatMap e_api_Inst))))) 14 (sc (.int .i64 (a0.Insts.length : Int)))) 15 (sc (.int .i64 (IntKind.i64.wrap (x2 + 1))))), []⟩, by omega, (Weak.gen (kk := 0) [] [] hx rfl (by decide) (by decide) rfl rfl rfl (le_upd (le_upd (le_upd (le_upd (le_upd (le_upd (le_top _) (.t (.one .sc))) (.t (.one .sc))) (.t (.one .sc))) (.t (.one .same))) (.t (.one .sc))) (.t (.one .sc))) an), by omega, (if r5.2 > x1 then r5.2 else x1), IntKind.i64.wrap (x2 + 1), h, rfl⟩
     ·refine AW.cond_no rfl c9 (AW.skip (AW.region ?_))
      refine s_binI (v := (.int .i64 (IntKind.i64.wrap (x2 + 1)))) rfl rfl rfl ?_
      refine s_move (d := (sc (.int .i64 (IntKind.i64.wrap (x2 + 1))))) rfl (AWops.nil ?_)
      exact ⟨_, ⟨46, (upd 46 (upd 46 (upd 46 (upd 46 (upd 46 (upd 46 topF 1 (sc (.string a1))) 2 (sc (.string a2))) 7 (sc (.int .i64 x1))) 13 (D.one (C.p false (.sl a0.Insts.length (a0.Insts.flatMap e_api_Inst))))) 14 (sc (.int .i64 (a0.Insts.length : Int)))) 15 (sc (.int .i64 (IntKind.i64.wrap (x2 + 1))))), []⟩, by omega, (Weak.gen (kk := 0) [] [] hx rfl (by decide) (by decide) rfl rfl rfl (le_upd (le_upd (le_upd (le_upd (le_upd (le_upd (le_top _) (.t (.one .sc))) (.t (.one .sc))) (.t (.one .sc))) (.t (.one .same))) (.t (.one .sc))) (.t (.one .sc))) an), by omega, x1, IntKind.i64.wrap (x2 + 1), h, rfl⟩
    ·iterate 3 refine AWops.guard_no rfl (nl rfl) rfl c8 ?_
     refine s_pick_no (d := (sc (.bool false))) rfl c8 rfl (AWops.nil ?_)
     refine AW.cond_no rfl rfl (AW.skip (AW.region ?_))
     refine s_binI (v := (.int .i64 (IntKind.i64.wrap (x2 + 1)))) rfl rfl rfl ?_
     refine s_move (d := (sc (.int .i64 (IntKind.i64.wrap (x2 + 1))))) rfl (AWops.nil ?_)
     exact ⟨_, ⟨46, (upd 46 (upd 46 (upd 46 (upd 46 (upd 46 (upd 46 topF 1 (sc (.string a1))) 2 (sc (.string a2))) 7 (sc (.int .i64 x1))) 13 (D.one (C.p false (.sl a0.Insts.length (a0.Insts.flatMap e_api_Inst))))) 14 (sc (.int .i64 (a0.Insts.length : Int)))) 15 (sc (.int .i64 (IntKind.i64.wrap (x2 + 1))))), []⟩, by omega, (Weak.gen (kk := 0) [] [] hx rfl (by decide) (by decide) rfl rfl rfl (le_upd (le_upd (le_upd (le_upd (le_upd (le_upd (le_top _) (.t (.one .sc))) (.t (.one .sc))) (.t (.one .sc))) (.t (.one .same))) (.t (.one .sc))) (.t (.one .sc))) an), by omega, x1, IntKind.i64.wrap (x2 + 1), h, rfl⟩
   ·refine AWops.guard_no rfl (nl rfl) rfl c7 ?_
    refine AWops.guard_no rfl (nl rfl) rfl c7 ?_
    refine s_pick_no (d := (sc (.bool false))) rfl c7 rfl ?_
    refine s_move (d := (sc (.bool false))) rfl ?_
    iterate 3 refine AWops.guard_no rfl (nl rfl) rfl rfl ?_
    refine s_pick_no (d := (sc (.bool false))) rfl rfl rfl (AWops.nil ?_)
    refine AW.cond_no rfl rfl (AW.skip (AW.region ?_))
    refine s_binI (v := (.int .i64 (IntKind.i64.wrap (x2 + 1)))) rfl rfl rfl ?_
    refine s_move (d := (sc (.int .i64 (IntKind.i64.wrap (x2 + 1))))) rfl (AWops.nil ?_)
    exact ⟨_, ⟨46, (upd 46 (upd 46 (upd 46 (upd 46 (upd 46 (upd 46 topF 1 (sc (.string a1))) 2 (sc (.string a2))) 7 (sc (.int .i64 x1))) 13 (D.one (C.p false (.sl a0.Insts.length (a0.Insts.flatMap e_api_Inst))))) 14 (sc (.int .i64 (a0.Insts.length : Int)))) 15 (sc (.int .i64 (IntKind.i64.wrap (x2 + 1))))), []⟩, by omega, (Weak.gen (kk := 0) [] [] hx rfl (by decide) (by decide) rfl rfl rfl (le_upd (le_upd (le_upd (le_upd (le_upd (le_upd (le_top _) (.t (.one .sc))) (.t (.one .sc))) (.t (.one .sc))) (.t (.one .same))) (.t (.one .sc))) (.t (.one .sc))) an), by omega, x1, IntKind.i64.wrap (x2 + 1), h, rfl⟩
  ·refine AW.cond_no rfl c3 (AW.exit (AW.seq (AW.region ?_)))
   refine s_move (d := (sc (.int .i64 x1))) rfl ?_
   refine s_min2 (r := (if 4611686018427387903 < x1 then 4611686018427387903 else x1)) rfl rfl rfl ?_
   refine s_binI (v := (.int .i64 (IntKind.i64.wrap ((if 4611686018427387903 < x1 then 4611686018427387903 else x1) + 1)))) rfl rfl rfl ?_
   refine s_assign (d := (sc (.int .i64 (IntKind.i64.wrap ((if 4611686018427387903 < x1 then 4611686018427387903 else x1) + 1))))) rfl (AWops.nil (AW.ret ?_))
   obtain rfl := Option.some.inj h
   exact ⟨_, rfl, (Weak.gen (kk := 0) [] [] rfl rfl (by decide) (by decide) rfl rfl rfl (le_upd (le_top _) (.t (.one .sc))) an)⟩
mutual
def dossierref01_Text.f : Nat → Int → Option ByteArray
 | 0, _ => none
 | k + 1, a0 => if (decide (a0 < 0)) = true then (if (decide (a0 > (-10))) = true then ((dossierref01_Text.f k (IntKind.i64.wrap (0 - a0))).bind fun r3 => if (decide ((⟨#[45]⟩ : ByteArray).size + r3.size ≤ 9223372036854775807)) = true then (some ((⟨#[45]⟩ : ByteArray) ++ r3)) else none) else ((dossierref01_Text.f k (IntKind.i64.wrap (Int.tdiv a0 10))).bind fun r5 => (dossierref01_Text.f k (IntKind.i64.wrap (0 - (Int.tmod a0 10)))).bind fun r6 => if (decide (r5.size + r6.size ≤ 9223372036854775807)) = true then (some (r5 ++ r6)) else none)) else (if (decide (a0 < 10)) = true then (if (decide (0 ≤ a0 ∧ a0 ≤ (IntKind.i64.wrap (a0 + 1)) ∧ (IntKind.i64.wrap (a0 + 1)) ≤ ((⟨#[48, 49, 50, 51, 52, 53, 54, 55, 56, 57]⟩ : ByteArray).size : Int))) = true then (some ((⟨#[48, 49, 50, 51, 52, 53, 54, 55, 56, 57]⟩ : ByteArray).extract a0.toNat (IntKind.i64.wrap (a0 + 1)).toNat)) else none) else ((dossierref01_Text.f k (IntKind.i64.wrap (Int.tdiv a0 10))).bind fun r10 => (dossierref01_Text.f k (Int.tmod a0 10)).bind fun r11 => if (decide (r10.size + r11.size ≤ 9223372036854775807)) = true then (some (r10 ++ r11)) else none))
end
theorem dossierref01_Text.meets (k : Nat) : ∀ (a0 : Int) (r : ByteArray), dossierref01_Text.f k a0 = some r → Meets Try.prog 54 [(sc (.int .i64 a0))] [] (sc (.string r)) [] := by
 induction k using Nat.strongRecOn with
 | _ k ih =>
  cases k with
  | zero =>
   ·intro a0 r h; exact absurd h (by simp [dossierref01_Text.f])
  | succ k =>
   ·intro a0 r h
    replace h := (dossierref01_Text.f.eq_2 _ _).symm.trans h
    refine Meets.of_body (n := 32) Try.func54 rfl rfl (nl rfl) fun x hx => ?_
    replace hx : x.k = 0 := hx
    show AW _ x _ _ ⟨32, fr0 [(sc (.int .i64 a0))], []⟩
    refine AW.seq (AW.region ?_)
    refine s_assign (d := (sc (.string (⟨#[]⟩ : ByteArray)))) rfl (AWops.nil (AW.seq (AW.seq (AW.region ?_))))
    refine s_move (d := (sc (.int .i64 a0))) rfl ?_
    refine s_binI (v := (.bool (decide (a0 < 0)))) rfl rfl rfl (AWops.nil ?_)
    rcases itH h with ⟨c1, h⟩ | ⟨c1, h⟩
    ·refine AW.cond_yes rfl c1 (AW.seq (AW.seq (AW.region ?_)))
     refine s_move (d := (sc (.int .i64 a0))) rfl ?_
     refine s_binI (v := (.bool (decide (a0 > (-10))))) rfl rfl rfl (AWops.nil ?_)
     rcases itH h with ⟨c2, h⟩ | ⟨c2, h⟩
     ·refine AW.cond_yes rfl c2 (AW.seq (AW.region ?_))
      refine s_move (d := (sc (.int .i64 a0))) rfl ?_
      refine s_unI (v := (.int .i64 (IntKind.i64.wrap (0 - a0)))) rfl rfl ?_
      obtain ⟨r3, er3, h⟩ := bnd h
      refine s_call2 (ρ := []) (br := false) (H2 := []) (d := (sc (.string r3))) F.ca_54 rfl rfl (ac (.one .sc) an) an (by decide) rfl (ih _ (by omega) (IntKind.i64.wrap (0 - a0)) r3 er3) (.inl rfl) rfl rfl ?_
      obtain ⟨c4, h⟩ := gdH h
      refine s_binS (v := (.string ((⟨#[45]⟩ : ByteArray) ++ r3))) rfl rfl (if_neg (by have := of_decide_eq_true c4; omega)) ?_
      refine s_assign (d := (sc (.string ((⟨#[45]⟩ : ByteArray) ++ r3)))) rfl (AWops.nil (AW.ret ?_))
      obtain rfl := Option.some.inj h
      exact ⟨_, rfl, (Weak.gen (kk := 0) [] [] rfl rfl (by decide) (by decide) rfl rfl rfl (le_upd (le_top _) (.t (.one .sc))) an)⟩
     ·refine AW.cond_no rfl c2 (AW.skip (AW.seq (AW.region ?_)))
      refine s_move (d := (sc (.int .i64 a0))) rfl ?_
      refine s_binI (v := (.int .i64 (IntKind.i64.wrap (Int.tdiv a0 10)))) rfl rfl rfl ?_
      obtain ⟨r5, er5, h⟩ := bnd h
      refine s_call2 (ρ := []) (br := false) (H2 := []) (d := (sc (.string r5))) F.ca_54 rfl rfl (ac (.one .sc) an) an (by decide) rfl (ih _ (by omega) (IntKind.i64.wrap (Int.tdiv a0 10)) r5 er5) (.inl rfl) rfl rfl ?_
      refine s_move (d := (sc (.int .i64 a0))) rfl ?_
      refine s_binI (v := (.int .i64 (Int.tmod a0 10))) rfl rfl rfl ?_
      refine s_unI (v := (.int .i64 (IntKind.i64.wrap (0 - (Int.tmod a0 10))))) rfl rfl ?_
      obtain ⟨r6, er6, h⟩ := bnd h
      refine s_call2 (ρ := []) (br := false) (H2 := []) (d := (sc (.string r6))) F.ca_54 rfl rfl (ac (.one .sc) an) an (by decide) rfl (ih _ (by omega) (IntKind.i64.wrap (0 - (Int.tmod a0 10))) r6 er6) (.inl rfl) rfl rfl ?_
      obtain ⟨c7, h⟩ := gdH h
      refine s_binS (v := (.string (r5 ++ r6))) rfl rfl (if_neg (by have := of_decide_eq_true c7; omega)) ?_
      refine s_assign (d := (sc (.string (r5 ++ r6)))) rfl (AWops.nil (AW.ret ?_))
      obtain rfl := Option.some.inj h
      exact ⟨_, rfl, (Weak.gen (kk := 0) [] [] rfl rfl (by decide) (by decide) rfl rfl rfl (le_upd (le_top _) (.t (.one .sc))) an)⟩
    ·refine AW.cond_no rfl c1 (AW.skip (AW.seq (AW.seq (AW.region ?_))))
     refine s_move (d := (sc (.int .i64 a0))) rfl ?_
     refine s_binI (v := (.bool (decide (a0 < 10)))) rfl rfl rfl (AWops.nil ?_)
     rcases itH h with ⟨c8, h⟩ | ⟨c8, h⟩
     ·refine AW.cond_yes rfl c8 (AW.seq (AW.region ?_))
      refine s_move (d := (sc (.int .i64 a0))) rfl ?_
      refine s_move (d := (sc (.int .i64 a0))) rfl ?_
      refine s_binI (v := (.int .i64 (IntKind.i64.wrap (a0 + 1)))) rfl rfl rfl ?_
      obtain ⟨c9, h⟩ := gdH h
      have dc9 := of_decide_eq_true c9
      refine s_sliceStr F.u_9 rfl (.yes rfl (by omega) rfl) (.yes rfl (by omega) rfl) (by omega) (by omega) ?_
      refine s_assign (d := (sc (.string ((⟨#[48, 49, 50, 51, 52, 53, 54, 55, 56, 57]⟩ : ByteArray).extract a0.toNat (IntKind.i64.wrap (a0 + 1)).toNat)))) rfl (AWops.nil (AW.ret ?_))
      obtain rfl := Option.some.inj h
      exact ⟨_, rfl, (Weak.gen (kk := 0) [] [] rfl rfl (by decide) (by decide) rfl rfl rfl (le_upd (le_top _) (.t (.one .sc))) an)⟩
     ·refine AW.cond_no rfl c8 (AW.skip (AW.seq (AW.region ?_)))
      refine s_move (d := (sc (.int .i64 a0))) rfl ?_
      refine s_binI (v := (.int .i64 (IntKind.i64.wrap (Int.tdiv a0 10)))) rfl rfl rfl ?_
      obtain ⟨r10, er10, h⟩ := bnd h
      refine s_call2 (ρ := []) (br := false) (H2 := []) (d := (sc (.string r10))) F.ca_54 rfl rfl (ac (.one .sc) an) an (by decide) rfl (ih _ (by omega) (IntKind.i64.wrap (Int.tdiv a0 10)) r10 er10) (.inl rfl) rfl rfl ?_
      refine s_move (d := (sc (.int .i64 a0))) rfl ?_
      refine s_binI (v := (.int .i64 (Int.tmod a0 10))) rfl rfl rfl ?_
      obtain ⟨r11, er11, h⟩ := bnd h
      refine s_call2 (ρ := []) (br := false) (H2 := []) (d := (sc (.string r11))) F.ca_54 rfl rfl (ac (.one .sc) an) an (by decide) rfl (ih _ (by omega) (Int.tmod a0 10) r11 er11) (.inl rfl) rfl rfl ?_
      obtain ⟨c12, h⟩ := gdH h
      refine s_binS (v := (.string (r10 ++ r11))) rfl rfl (if_neg (by have := of_decide_eq_true c12; omega)) ?_
      refine s_assign (d := (sc (.string (r10 ++ r11)))) rfl (AWops.nil (AW.ret ?_))
      obtain rfl := Option.some.inj h
      exact ⟨_, rfl, (Weak.gen (kk := 0) [] [] rfl rfl (by decide) (by decide) rfl rfl rfl (le_upd (le_top _) (.t (.one .sc))) an)⟩
mutual
def dossierref01_Number.j3 : Nat → Int → ByteArray → Option (Int × Int)
 | 0, _, _ => none
 | k + 1, x17, a0 => (dossierref01_Text.f k x17).bind fun r18 => if (r18.toList == a0.toList) = true then (some (x17, 0)) else (some (0, 4))
def dossierref01_Number.l2 : Nat → Int → Int → ByteArray → ByteArray → Option (Int × Int)
 | 0, _, _, _, _ => none
 | k + 1, x13, x14, a0, x1 => if (decide (x14 < (x1.size : Int))) = true then ((bt x1 x14).bind fun v16 => dossierref01_Number.l2 k (IntKind.i64.wrap ((IntKind.i64.wrap (10 * x13)) - (IntKind.i64.wrap (IntKind.u8.wrap (v16 - 48))))) (IntKind.i64.wrap (x14 + 1)) a0 x1) else (if ((x1.size : Int) == (a0.size : Int)) = true then (dossierref01_Number.j3 k (IntKind.i64.wrap (0 - x13)) a0) else (dossierref01_Number.j3 k x13 a0))
def dossierref01_Number.l1 : Nat → Int → ByteArray → ByteArray → Option (Int × Int)
 | 0, _, _, _ => none
 | k + 1, x6, a0, x1 => if (decide (x6 < (x1.size : Int))) = true then ((bt x1 x6).bind fun v8 => if (decide (v8 < 48)) = true then (some (0, 5)) else ((bt x1 x6).bind fun v10 => if (decide (v10 > 57)) = true then (some (0, 5)) else (dossierref01_Number.l1 k (IntKind.i64.wrap (x6 + 1)) a0 x1))) else (if (decide ((x1.size : Int) > 19)) = true then (some (0, 4)) else (dossierref01_Number.l2 k 0 0 a0 x1))
def dossierref01_Number.j6 : Nat → Int → ByteArray → Option (Int × Int)
 | 0, _, _ => none
 | k + 1, x31, a0 => (dossierref01_Text.f k x31).bind fun r32 => if (r32.toList == a0.toList) = true then (some (x31, 0)) else (some (0, 4))
def dossierref01_Number.l5 : Nat → Int → Int → ByteArray → ByteArray → Option (Int × Int)
 | 0, _, _, _, _ => none
 | k + 1, x27, x28, a0, x1 => if (decide (x28 < (x1.size : Int))) = true then ((bt x1 x28).bind fun v30 => dossierref01_Number.l5 k (IntKind.i64.wrap ((IntKind.i64.wrap (10 * x27)) - (IntKind.i64.wrap (IntKind.u8.wrap (v30 - 48))))) (IntKind.i64.wrap (x28 + 1)) a0 x1) else (if ((x1.size : Int) == (a0.size : Int)) = true then (dossierref01_Number.j6 k (IntKind.i64.wrap (0 - x27)) a0) else (dossierref01_Number.j6 k x27 a0))
def dossierref01_Number.l4 : Nat → Int → ByteArray → ByteArray → Option (Int × Int)
 | 0, _, _, _ => none
 | k + 1, x20, a0, x1 => if (decide (x20 < (x1.size : Int))) = true then ((bt x1 x20).bind fun v22 => if (decide (v22 < 48)) = true then (some (0, 5)) else ((bt x1 x20).bind fun v24 => if (decide (v24 > 57)) = true then (some (0, 5)) else (dossierref01_Number.l4 k (IntKind.i64.wrap (x20 + 1)) a0 x1))) else (if (decide ((x1.size : Int) > 19)) = true then (some (0, 4)) else (dossierref01_Number.l5 k 0 0 a0 x1))
def dossierref01_Number.j0 : Nat → ByteArray → ByteArray → Option (Int × Int)
 | 0, _, _ => none
 | k + 1, x1, a0 => if ((x1.size : Int) == 0) = true then (some (0, 5)) else ((bt x1 0).bind fun v3 => if (v3 == 48) = true then (if (decide ((a0.size : Int) > 1)) = true then (some (0, 5)) else (dossierref01_Number.l1 k 0 a0 x1)) else (dossierref01_Number.l4 k 0 a0 x1))
end
def dossierref01_Number.f (k : Nat) (a0 : ByteArray) : Option (Int × Int) := if (decide ((a0.size : Int) > 0)) = true then ((bt a0 0).bind fun v2 => if (v2 == 45) = true then (if (decide (0 ≤ 1 ∧ 1 ≤ (a0.size : Int) ∧ (a0.size : Int) ≤ (a0.size : Int))) = true then (dossierref01_Number.j0 k (a0.extract 1 a0.size) a0) else none) else (dossierref01_Number.j0 k a0 a0)) else (dossierref01_Number.j0 k a0 a0)
theorem dossierref01_Number.meets (k : Nat) (a0 : ByteArray) (r : Int × Int) (h : dossierref01_Number.f k a0 = some r) : Meets Try.prog 53 [(sc (.string a0))] [] (D.tup [(sc (.int .i64 r.1)), (sc (.int .i64 r.2))]) [] := by
 unfold dossierref01_Number.f at h
 refine Meets.of_body (n := 77) Try.func53 rfl rfl (nl rfl) fun x hx => ?_
 replace hx : x.k = 0 := hx
 show AW _ x _ _ ⟨77, fr0 [(sc (.string a0))], []⟩
 refine AW.seq (AW.region ?_)
 refine s_assign (d := (sc (.int .i64 0))) rfl ?_
 refine s_assign (d := (sc (.int .i64 0))) rfl (AWops.nil (AW.seq (AW.region ?_)))
 refine s_move (d := (sc (.string a0))) rfl ?_
 refine s_assign (d := (sc (.string a0))) rfl (AWops.nil ?_)
 refine AW.seqJ (fun st => ∃ (x1 : ByteArray), dossierref01_Number.j0 k x1 a0 = some r ∧ st = ⟨77, (upd 77 (upd 77 topF 0 (sc (.string a0))) 4 (sc (.string x1))), []⟩) ?_ ?_
 ·refine AW.seq (AW.region ?_)
  refine s_move (d := (sc (.string a0))) rfl ?_
  refine s_len (n := a0.size) F.u_9 rfl (.inl ⟨⟨_, _, rfl⟩, rfl⟩) ?_
  refine s_binI (v := (.bool (decide ((a0.size : Int) > 0)))) rfl rfl rfl ?_
  refine s_move (d := (sc (.bool (decide ((a0.size : Int) > 0))))) rfl ?_
  rcases itH h with ⟨c1, h⟩ | ⟨c1, h⟩
  ·refine AWops.guard_yes rfl (nl rfl) rfl c1 ?_
   refine s_move (d := (sc (.string a0))) rfl ?_
   refine AWops.guard_yes rfl (nl rfl) rfl c1 ?_
   obtain ⟨v2, ev2, h⟩ := bnd h
   obtain ⟨pv2, bv2, gv2, rfl⟩ := bt_some ev2
   refine s_indexStr F.u_9 rfl rfl pv2 gv2 ?_
   generalize hzv2 : ((bv2.toNat : Nat) : Int) = v2 at *
   refine AWops.guard_yes rfl (nl rfl) rfl c1 ?_
   refine s_binI (v := (.bool (v2 == 45))) rfl rfl rfl ?_
   refine s_pick_yes (d := (sc (.bool (v2 == 45)))) rfl c1 rfl (AWops.nil ?_)
   rcases itH h with ⟨c3, h⟩ | ⟨c3, h⟩
   ·refine AW.cond_yes rfl c3 (AW.region ?_)
    refine s_move (d := (sc (.string a0))) rfl ?_
    obtain ⟨c4, h⟩ := gdH h
    have dc4 := of_decide_eq_true c4
    refine s_sliceStr F.u_9 rfl (.yes rfl (by omega) rfl) .no (by omega) (by omega) ?_
    refine s_assign (d := (sc (.string (a0.extract 1 a0.size)))) rfl (AWops.nil ?_)
    exact ⟨⟨77, (upd 77 (upd 77 topF 0 (sc (.string a0))) 4 (sc (.string (a0.extract 1 a0.size)))), []⟩, (Weak.gen (kk := 0) [] [] hx rfl (by decide) (by decide) rfl rfl rfl (le_upd (le_upd (le_top _) (.t (.one .sc))) (.t (.one .sc))) an), a0.extract 1 a0.size, h, rfl⟩
   ·refine AW.cond_no rfl c3 (AW.skip ?_)
    exact ⟨⟨77, (upd 77 (upd 77 topF 0 (sc (.string a0))) 4 (sc (.string a0))), []⟩, (Weak.gen (kk := 0) [] [] hx rfl (by decide) (by decide) rfl rfl rfl (le_upd (le_upd (le_top _) (.t (.one .sc))) (.t (.one .sc))) an), a0, h, rfl⟩
  ·iterate 3 refine AWops.guard_no rfl (nl rfl) rfl c1 ?_
   refine s_pick_no (d := (sc (.bool false))) rfl c1 rfl (AWops.nil ?_)
   refine AW.cond_no rfl rfl (AW.skip ?_)
   exact ⟨⟨77, (upd 77 (upd 77 topF 0 (sc (.string a0))) 4 (sc (.string a0))), []⟩, (Weak.gen (kk := 0) [] [] hx rfl (by decide) (by decide) rfl rfl rfl (le_upd (le_upd (le_top _) (.t (.one .sc))) (.t (.one .sc))) an), a0, h, rfl⟩
 ·rintro st ⟨x1, h, rfl⟩
  cases k with
  | zero => exact absurd h (by simp [dossierref01_Number.j0])
  | succ qj0 =>
   replace h := (dossierref01_Number.j0.eq_2 _ _ _).symm.trans h
   refine AW.seq (AW.seq (AW.region ?_))
   refine s_move (d := (sc (.string x1))) rfl ?_
   refine s_len (n := x1.size) F.u_9 rfl (.inl ⟨⟨_, _, rfl⟩, rfl⟩) ?_
   refine s_binI (v := (.bool ((x1.size : Int) == 0))) rfl rfl rfl ?_
   refine s_move (d := (sc (.bool ((x1.size : Int) == 0)))) rfl ?_
   rcases itH h with ⟨c2, h⟩ | ⟨c2, h⟩
   ·iterate 4 refine AWops.guard_no rfl (nl rfl) rfl c2 ?_
    iterate 3 refine AWops.guard_undef rfl rfl ?_
    refine AWops.guard_no rfl (nl rfl) rfl c2 ?_
    refine s_pick_yes (d := (sc (.bool true))) rfl c2 rfl (AWops.nil ?_)
    refine AW.cond_yes rfl rfl (AW.seq (AW.region ?_))
    refine s_assign (d := (sc (.int .i64 0))) rfl ?_
    refine s_assign (d := (sc (.int .i64 5))) rfl (AWops.nil (AW.ret ?_))
    obtain rfl := Option.some.inj h
    exact ⟨_, rfl, (Weak.gen (kk := 0) [] [] rfl rfl (by decide) (by decide) rfl rfl rfl (le_upd (le_top _) (DLe.tup (ac (TLe.one .sc) (ac (TLe.one .sc) an)))) an)⟩
   ·refine AWops.guard_yes rfl (nl rfl) rfl c2 ?_
    refine s_move (d := (sc (.string x1))) rfl ?_
    refine AWops.guard_yes rfl (nl rfl) rfl c2 ?_
    obtain ⟨v3, ev3, h⟩ := bnd h
    obtain ⟨pv3, bv3, gv3, rfl⟩ := bt_some ev3
    refine s_indexStr F.u_9 rfl rfl pv3 gv3 ?_
    generalize hzv3 : ((bv3.toNat : Nat) : Int) = v3 at *
    refine AWops.guard_yes rfl (nl rfl) rfl c2 ?_
    refine s_binI (v := (.bool (v3 == 48))) rfl rfl rfl ?_
    refine AWops.guard_yes rfl (nl rfl) rfl c2 ?_
    refine s_move (d := (sc (.bool (v3 == 48)))) rfl ?_
    rcases itH h with ⟨c4, h⟩ | ⟨c4, h⟩
    ·refine AWops.guard_yes rfl (nl rfl) rfl c4 ?_
     refine s_move (d := (sc (.string a0))) rfl ?_
     refine AWops.guard_yes rfl (nl rfl) rfl c4 ?_
     refine s_len (n := a0.size) F.u_9 rfl (.inl ⟨⟨_, _, rfl⟩, rfl⟩) ?_
     refine AWops.guard_yes rfl (nl rfl) rfl c4 ?_
     refine s_binI (v := (.bool (decide ((a0.size : Int) > 1)))) rfl rfl rfl ?_
     refine AWops.guard_yes rfl (nl rfl) rfl c2 ?_
     refine s_pick_yes (d := (sc (.bool (decide ((a0.size : Int) > 1))))) rfl c4 rfl ?_
     refine s_pick_no (d := (sc (.bool (decide ((a0.size : Int) > 1))))) rfl c2 rfl (AWops.nil ?_)
     rcases itH h with ⟨c5, h⟩ | ⟨c5, h⟩
     ·refine AW.cond_yes rfl c5 (AW.seq (AW.region ?_))
      refine s_assign (d := (sc (.int .i64 0))) rfl ?_
      refine s_assign (d := (sc (.int .i64 5))) rfl (AWops.nil (AW.ret ?_))
      obtain rfl := Option.some.inj h
      exact ⟨_, rfl, (Weak.gen (kk := 0) [] [] rfl rfl (by decide) (by decide) rfl rfl rfl (le_upd (le_top _) (DLe.tup (ac (TLe.one .sc) (ac (TLe.one .sc) an)))) an)⟩
     ·refine AW.cond_no rfl c5 (AW.skip (AW.seq (AW.seq (AW.region ?_))))
      refine s_move (d := (sc (.string x1))) rfl ?_
      refine s_len (n := x1.size) F.u_9 rfl (.inl ⟨⟨_, _, rfl⟩, rfl⟩) ?_
      refine s_move (d := (sc (.int .i64 0))) rfl (AWops.nil (AW.block ?_))
      refine AW.loopw (st0 := ⟨77, (upd 77 (upd 77 (upd 77 (upd 77 topF 0 (sc (.string a0))) 4 (sc (.string x1))) 33 (sc (.int .i64 (x1.size : Int)))) 34 (sc (.int .i64 0))), []⟩) (fun kv st => kv ≤ qj0 ∧ ∃ (x6 : Int), dossierref01_Number.l1 kv x6 a0 x1 = some r ∧ st = ⟨77, (upd 77 (upd 77 (upd 77 (upd 77 topF 0 (sc (.string a0))) 4 (sc (.string x1))) 33 (sc (.int .i64 (x1.size : Int)))) 34 (sc (.int .i64 x6))), []⟩) (k := qj0) (Weak.gen (kk := 0) [] [] hx rfl (by decide) (by decide) rfl rfl rfl (le_upd (le_upd (le_upd (le_upd (le_top _) (.t (.one .sc))) (.t (.one .sc))) (.t (.one .sc))) (.t (.one .sc))) an) ⟨Nat.le_refl _, 0, h, rfl⟩ ?_
      rintro ql1 st ⟨hkl1, x6, h, rfl⟩
      cases ql1 with
      | zero => exact absurd h (by simp [dossierref01_Number.l1])
      | succ ql1 =>
       replace h := (dossierref01_Number.l1.eq_2 _ _ _ _).symm.trans h
       refine AW.seq (AW.region ?_)
       refine s_binI (v := (.bool (decide (x6 < (x1.size : Int))))) rfl rfl rfl (AWops.nil (AW.seq ?_))
       rcases itH h with ⟨c7, h⟩ | ⟨c7, h⟩
       ·refine AW.cond_yes rfl c7 (AW.skip (AW.seq (AW.block (AW.seq (AW.region ?_)))))
        refine s_move (d := (sc (.int .i64 x6))) rfl ?_
        refine s_assign (d := (sc (.int .i64 x6))) rfl (AWops.nil (AW.seq (AW.region ?_)))
        refine s_move (d := (sc (.string x1))) rfl ?_
        refine s_move (d := (sc (.int .i64 x6))) rfl ?_
        obtain ⟨v8, ev8, h⟩ := bnd h
        obtain ⟨pv8, bv8, gv8, rfl⟩ := bt_some ev8
        refine s_indexStr F.u_9 rfl rfl pv8 gv8 ?_
        generalize hzv8 : ((bv8.toNat : Nat) : Int) = v8 at *
        refine s_binI (v := (.bool (decide (v8 < 48)))) rfl rfl rfl ?_
        refine s_move (d := (sc (.bool (decide (v8 < 48))))) rfl ?_
        rcases itH h with ⟨c9, h⟩ | ⟨c9, h⟩
        ·iterate 4 refine AWops.guard_no rfl (nl rfl) rfl c9 ?_
         refine s_pick_yes (d := (sc (.bool true))) rfl c9 rfl (AWops.nil ?_)
         refine AW.cond_yes rfl rfl (AW.seq (AW.region ?_))
         refine s_assign (d := (sc (.int .i64 0))) rfl ?_
         refine s_assign (d := (sc (.int .i64 5))) rfl (AWops.nil (AW.ret ?_))
         obtain rfl := Option.some.inj h
         exact ⟨_, rfl, (Weak.gen (kk := 0) [] [] rfl rfl (by decide) (by decide) rfl rfl rfl (le_upd (le_top _) (DLe.tup (ac (TLe.one .sc) (ac (TLe.one .sc) an)))) an)⟩
        ·refine AWops.guard_yes rfl (nl rfl) rfl c9 ?_
         refine s_move (d := (sc (.string x1))) rfl ?_
         refine AWops.guard_yes rfl (nl rfl) rfl c9 ?_
         refine s_move (d := (sc (.int .i64 x6))) rfl ?_
         refine AWops.guard_yes rfl (nl rfl) rfl c9 ?_
         obtain ⟨v10, ev10, h⟩ := bnd h
         obtain ⟨pv10, bv10, gv10, rfl⟩ := bt_some ev10
         refine s_indexStr F.u_9 rfl rfl pv10 gv10 ?_
         generalize hzv10 : ((bv10.toNat : Nat) : Int) = v10 at *
         refine AWops.guard_yes rfl (nl rfl) rfl c9 ?_
         refine s_binI (v := (.bool (decide (v10 > 57)))) rfl rfl rfl ?_
         refine s_pick_no (d := (sc (.bool (decide (v10 > 57))))) rfl c9 rfl (AWops.nil ?_)
         rcases itH h with ⟨c11, h⟩ | ⟨c11, h⟩
         ·refine AW.cond_yes rfl c11 (AW.seq (AW.region ?_))
          refine s_assign (d := (sc (.int .i64 0))) rfl ?_
          refine s_assign (d := (sc (.int .i64 5))) rfl (AWops.nil (AW.ret ?_))
          obtain rfl := Option.some.inj h
          exact ⟨_, rfl, (Weak.gen (kk := 0) [] [] rfl rfl (by decide) (by decide) rfl rfl rfl (le_upd (le_top _) (DLe.tup (ac (TLe.one .sc) (ac (TLe.one .sc) an)))) an)⟩
         ·refine AW.cond_no rfl c11 (AW.skip (AW.region ?_))
          refine s_binI (v := (.int .i64 (IntKind.i64.wrap (x6 + 1)))) rfl rfl rfl ?_
          refine s_move (d := (sc (.int .i64 (IntKind.i64.wrap (x6 + 1))))) rfl (AWops.nil ?_)
          exact ⟨_, ⟨77, (upd 77 (upd 77 (upd 77 (upd 77 topF 0 (sc (.string a0))) 4 (sc (.string x1))) 33 (sc (.int .i64 (x1.size : Int)))) 34 (sc (.int .i64 (IntKind.i64.wrap (x6 + 1))))), []⟩, by omega, (Weak.gen (kk := 0) [] [] hx rfl (by decide) (by decide) rfl rfl rfl (le_upd (le_upd (le_upd (le_upd (le_top _) (.t (.one .sc))) (.t (.one .sc))) (.t (.one .sc))) (.t (.one .sc))) an), by omega, IntKind.i64.wrap (x6 + 1), h, rfl⟩
       ·refine AW.cond_no rfl c7 (AW.exit (AW.seq (AW.seq (AW.region ?_))))
        refine s_move (d := (sc (.string x1))) rfl ?_
        refine s_len (n := x1.size) F.u_9 rfl (.inl ⟨⟨_, _, rfl⟩, rfl⟩) ?_
        refine s_binI (v := (.bool (decide ((x1.size : Int) > 19)))) rfl rfl rfl (AWops.nil ?_)
        rcases itH h with ⟨c12, h⟩ | ⟨c12, h⟩
        ·refine AW.cond_yes rfl c12 (AW.seq (AW.region ?_))
         refine s_assign (d := (sc (.int .i64 0))) rfl ?_
         refine s_assign (d := (sc (.int .i64 4))) rfl (AWops.nil (AW.ret ?_))
         obtain rfl := Option.some.inj h
         exact ⟨_, rfl, (Weak.gen (kk := 0) [] [] rfl rfl (by decide) (by decide) rfl rfl rfl (le_upd (le_top _) (DLe.tup (ac (TLe.one .sc) (ac (TLe.one .sc) an)))) an)⟩
        ·refine AW.cond_no rfl c12 (AW.skip (AW.seq (AW.region ?_)))
         refine s_assign (d := (sc (.int .i64 0))) rfl (AWops.nil (AW.seq (AW.seq (AW.region ?_))))
         refine s_move (d := (sc (.string x1))) rfl ?_
         refine s_len (n := x1.size) F.u_9 rfl (.inl ⟨⟨_, _, rfl⟩, rfl⟩) ?_
         refine s_move (d := (sc (.int .i64 0))) rfl (AWops.nil (AW.block ?_))
         refine AW.loopw (st0 := ⟨77, (upd 77 (upd 77 (upd 77 (upd 77 (upd 77 topF 0 (sc (.string a0))) 4 (sc (.string x1))) 6 (sc (.int .i64 0))) 52 (sc (.int .i64 (x1.size : Int)))) 53 (sc (.int .i64 0))), []⟩) (fun kv st => kv ≤ ql1 ∧ ∃ (x13 : Int) (x14 : Int), dossierref01_Number.l2 kv x13 x14 a0 x1 = some r ∧ st = ⟨77, (upd 77 (upd 77 (upd 77 (upd 77 (upd 77 topF 0 (sc (.string a0))) 4 (sc (.string x1))) 6 (sc (.int .i64 x13))) 52 (sc (.int .i64 (x1.size : Int)))) 53 (sc (.int .i64 x14))), []⟩) (k := ql1) (Weak.gen (kk := 0) [] [] hx rfl (by decide) (by decide) rfl rfl rfl (le_upd (le_upd (le_upd (le_upd (le_upd (le_top _) (.t (.one .sc))) (.t (.one .sc))) (.t (.one .sc))) (.t (.one .sc))) (.t (.one .sc))) an) ⟨Nat.le_refl _, 0, 0, h, rfl⟩ ?_
         rintro ql2 st ⟨hkl2, x13, x14, h, rfl⟩
         cases ql2 with
         | zero => exact absurd h (by simp [dossierref01_Number.l2])
         | succ ql2 =>
          replace h := (dossierref01_Number.l2.eq_2 _ _ _ _ _).symm.trans h
          refine AW.seq (AW.region ?_)
          refine s_binI (v := (.bool (decide (x14 < (x1.size : Int))))) rfl rfl rfl (AWops.nil (AW.seq ?_))
          rcases itH h with ⟨c15, h⟩ | ⟨c15, h⟩
          ·refine AW.cond_yes rfl c15 (AW.skip (AW.seq (AW.block (AW.seq (AW.region ?_)))))
           refine s_move (d := (sc (.int .i64 x14))) rfl ?_
           refine s_assign (d := (sc (.int .i64 x14))) rfl (AWops.nil (AW.region ?_))
           refine s_move (d := (sc (.int .i64 x13))) rfl ?_
           refine s_binI (v := (.int .i64 (IntKind.i64.wrap (10 * x13)))) rfl rfl rfl ?_
           refine s_move (d := (sc (.string x1))) rfl ?_
           refine s_move (d := (sc (.int .i64 x14))) rfl ?_
           obtain ⟨v16, ev16, h⟩ := bnd h
           obtain ⟨pv16, bv16, gv16, rfl⟩ := bt_some ev16
           refine s_indexStr F.u_9 rfl rfl pv16 gv16 ?_
           generalize hzv16 : ((bv16.toNat : Nat) : Int) = v16 at *
           refine s_binI (v := (.int .u8 (IntKind.u8.wrap (v16 - 48)))) rfl rfl rfl ?_
           refine s_convI F.u_5 F.u_3 rfl ?_
           refine s_binI (v := (.int .i64 (IntKind.i64.wrap ((IntKind.i64.wrap (10 * x13)) - (IntKind.i64.wrap (IntKind.u8.wrap (v16 - 48))))))) rfl rfl rfl ?_
           refine s_assign (d := (sc (.int .i64 (IntKind.i64.wrap ((IntKind.i64.wrap (10 * x13)) - (IntKind.i64.wrap (IntKind.u8.wrap (v16 - 48)))))))) rfl (AWops.nil (AW.region ?_))
           refine s_binI (v := (.int .i64 (IntKind.i64.wrap (x14 + 1)))) rfl rfl rfl ?_
           refine s_move (d := (sc (.int .i64 (IntKind.i64.wrap (x14 + 1))))) rfl (AWops.nil ?_)
           exact ⟨_, ⟨77, (upd 77 (upd 77 (upd 77 (upd 77 (upd 77 topF 0 (sc (.string a0))) 4 (sc (.string x1))) 6 (sc (.int .i64 (IntKind.i64.wrap ((IntKind.i64.wrap (10 * x13)) - (IntKind.i64.wrap (IntKind.u8.wrap (v16 - 48)))))))) 52 (sc (.int .i64 (x1.size : Int)))) 53 (sc (.int .i64 (IntKind.i64.wrap (x14 + 1))))), []⟩, by omega, (Weak.gen (kk := 0) [] [] hx rfl (by decide) (by decide) rfl rfl rfl (le_upd (le_upd (le_upd (le_upd (le_upd (le_top _) (.t (.one .sc))) (.t (.one .sc))) (.t (.one .sc))) (.t (.one .sc))) (.t (.one .sc))) an), by omega, IntKind.i64.wrap ((IntKind.i64.wrap (10 * x13)) - (IntKind.i64.wrap (IntKind.u8.wrap (v16 - 48)))), IntKind.i64.wrap (x14 + 1), h, rfl⟩
          ·refine AW.cond_no rfl c15 (AW.exit ?_)
           refine AW.seqJ (fun st => ∃ (x17 : Int), dossierref01_Number.j3 ql2 x17 a0 = some r ∧ st = ⟨77, (upd 77 (upd 77 topF 0 (sc (.string a0))) 6 (sc (.int .i64 x17))), []⟩) ?_ ?_
           ·refine AW.seq (AW.region ?_)
            refine s_move (d := (sc (.string x1))) rfl ?_
            refine s_len (n := x1.size) F.u_9 rfl (.inl ⟨⟨_, _, rfl⟩, rfl⟩) ?_
            refine s_move (d := (sc (.string a0))) rfl ?_
            refine s_len (n := a0.size) F.u_9 rfl (.inl ⟨⟨_, _, rfl⟩, rfl⟩) ?_
            refine s_binI (v := (.bool ((x1.size : Int) == (a0.size : Int)))) rfl rfl rfl (AWops.nil ?_)
            rcases itH h with ⟨c17, h⟩ | ⟨c17, h⟩
            ·refine AW.cond_yes rfl c17 (AW.region ?_)
             refine s_move (d := (sc (.int .i64 x13))) rfl ?_
             refine s_unI (v := (.int .i64 (IntKind.i64.wrap (0 - x13)))) rfl rfl ?_
             refine s_assign (d := (sc (.int .i64 (IntKind.i64.wrap (0 - x13))))) rfl (AWops.nil ?_)
             exact ⟨⟨77, (upd 77 (upd 77 topF 0 (sc (.string a0))) 6 (sc (.int .i64 (IntKind.i64.wrap (0 - x13))))), []⟩, (Weak.gen (kk := 0) [] [] hx rfl (by decide) (by decide) rfl rfl rfl (le_upd (le_upd (le_top _) (.t (.one .sc))) (.t (.one .sc))) an), IntKind.i64.wrap (0 - x13), h, rfl⟩
            ·refine AW.cond_no rfl c17 (AW.skip ?_)
             exact ⟨⟨77, (upd 77 (upd 77 topF 0 (sc (.string a0))) 6 (sc (.int .i64 x13))), []⟩, (Weak.gen (kk := 0) [] [] hx rfl (by decide) (by decide) rfl rfl rfl (le_upd (le_upd (le_top _) (.t (.one .sc))) (.t (.one .sc))) an), x13, h, rfl⟩
           ·rintro st ⟨x17, h, rfl⟩
            cases ql2 with
            | zero => exact absurd h (by simp [dossierref01_Number.j3])
            | succ qj3 =>
             replace h := (dossierref01_Number.j3.eq_2 _ _ _).symm.trans h
             refine AW.seq (AW.seq (AW.region ?_))
             refine s_move (d := (sc (.int .i64 x17))) rfl ?_
             obtain ⟨r18, er18, h⟩ := bnd h
             refine s_call2 (ρ := []) (br := false) (H2 := []) (d := (sc (.string r18))) F.ca_54 rfl rfl (ac (.one .sc) an) an (by decide) rfl (dossierref01_Text.meets _ x17 r18 er18) (.inl rfl) rfl rfl ?_
             refine s_move (d := (sc (.string a0))) rfl ?_
             refine s_binS (v := (.bool (!(r18.toList == a0.toList)))) rfl rfl rfl (AWops.nil ?_)
             rcases itH h with ⟨c19, h⟩ | ⟨c19, h⟩
             ·refine AW.cond_no rfl (by rw [c19] <;> rfl) (AW.skip (AW.seq (AW.region ?_)))
              refine s_move (d := (sc (.int .i64 x17))) rfl ?_
              refine s_assign (d := (sc (.int .i64 x17))) rfl ?_
              refine s_assign (d := (sc (.int .i64 0))) rfl (AWops.nil (AW.ret ?_))
              obtain rfl := Option.some.inj h
              exact ⟨_, rfl, (Weak.gen (kk := 0) [] [] rfl rfl (by decide) (by decide) rfl rfl rfl (le_upd (le_top _) (DLe.tup (ac (TLe.one .sc) (ac (TLe.one .sc) an)))) an)⟩
             ·refine AW.cond_yes rfl (by rw [c19] <;> rfl) (AW.seq (AW.region ?_))
              refine s_assign (d := (sc (.int .i64 0))) rfl ?_
              refine s_assign (d := (sc (.int .i64 4))) rfl (AWops.nil (AW.ret ?_))
              obtain rfl := Option.some.inj h
              exact ⟨_, rfl, (Weak.gen (kk := 0) [] [] rfl rfl (by decide) (by decide) rfl rfl rfl (le_upd (le_top _) (DLe.tup (ac (TLe.one .sc) (ac (TLe.one .sc) an)))) an)⟩
    ·iterate 3 refine AWops.guard_no rfl (nl rfl) rfl c4 ?_
     refine AWops.guard_yes rfl (nl rfl) rfl c2 ?_
     refine s_pick_no (d := (sc (.bool false))) rfl c4 rfl ?_
     refine s_pick_no (d := (sc (.bool false))) rfl c2 rfl (AWops.nil ?_)
     refine AW.cond_no rfl rfl (AW.skip (AW.seq (AW.seq (AW.region ?_))))
     refine s_move (d := (sc (.string x1))) rfl ?_
     refine s_len (n := x1.size) F.u_9 rfl (.inl ⟨⟨_, _, rfl⟩, rfl⟩) ?_
     refine s_move (d := (sc (.int .i64 0))) rfl (AWops.nil (AW.block ?_))
     refine AW.loopw (st0 := ⟨77, (upd 77 (upd 77 (upd 77 (upd 77 topF 0 (sc (.string a0))) 4 (sc (.string x1))) 33 (sc (.int .i64 (x1.size : Int)))) 34 (sc (.int .i64 0))), []⟩) (fun kv st => kv ≤ qj0 ∧ ∃ (x20 : Int), dossierref01_Number.l4 kv x20 a0 x1 = some r ∧ st = ⟨77, (upd 77 (upd 77 (upd 77 (upd 77 topF 0 (sc (.string a0))) 4 (sc (.string x1))) 33 (sc (.int .i64 (x1.size : Int)))) 34 (sc (.int .i64 x20))), []⟩) (k := qj0) (Weak.gen (kk := 0) [] [] hx rfl (by decide) (by decide) rfl rfl rfl (le_upd (le_upd (le_upd (le_upd (le_top _) (.t (.one .sc))) (.t (.one .sc))) (.t (.one .sc))) (.t (.one .sc))) an) ⟨Nat.le_refl _, 0, h, rfl⟩ ?_
     rintro ql4 st ⟨hkl4, x20, h, rfl⟩
     cases ql4 with
     | zero => exact absurd h (by simp [dossierref01_Number.l4])
     | succ ql4 =>
      replace h := (dossierref01_Number.l4.eq_2 _ _ _ _).symm.trans h
      refine AW.seq (AW.region ?_)
      refine s_binI (v := (.bool (decide (x20 < (x1.size : Int))))) rfl rfl rfl (AWops.nil (AW.seq ?_))
      rcases itH h with ⟨c21, h⟩ | ⟨c21, h⟩
      ·refine AW.cond_yes rfl c21 (AW.skip (AW.seq (AW.block (AW.seq (AW.region ?_)))))
       refine s_move (d := (sc (.int .i64 x20))) rfl ?_
       refine s_assign (d := (sc (.int .i64 x20))) rfl (AWops.nil (AW.seq (AW.region ?_)))
       refine s_move (d := (sc (.string x1))) rfl ?_
       refine s_move (d := (sc (.int .i64 x20))) rfl ?_
       obtain ⟨v22, ev22, h⟩ := bnd h
       obtain ⟨pv22, bv22, gv22, rfl⟩ := bt_some ev22
       refine s_indexStr F.u_9 rfl rfl pv22 gv22 ?_
       generalize hzv22 : ((bv22.toNat : Nat) : Int) = v22 at *
       refine s_binI (v := (.bool (decide (v22 < 48)))) rfl rfl rfl ?_
       refine s_move (d := (sc (.bool (decide (v22 < 48))))) rfl ?_
       rcases itH h with ⟨c23, h⟩ | ⟨c23, h⟩
       ·iterate 4 refine AWops.guard_no rfl (nl rfl) rfl c23 ?_
        refine s_pick_yes (d := (sc (.bool true))) rfl c23 rfl (AWops.nil ?_)
        refine AW.cond_yes rfl rfl (AW.seq (AW.region ?_))
        refine s_assign (d := (sc (.int .i64 0))) rfl ?_
        refine s_assign (d := (sc (.int .i64 5))) rfl (AWops.nil (AW.ret ?_))
        obtain rfl := Option.some.inj h
        exact ⟨_, rfl, (Weak.gen (kk := 0) [] [] rfl rfl (by decide) (by decide) rfl rfl rfl (le_upd (le_top _) (DLe.tup (ac (TLe.one .sc) (ac (TLe.one .sc) an)))) an)⟩
       ·refine AWops.guard_yes rfl (nl rfl) rfl c23 ?_
        refine s_move (d := (sc (.string x1))) rfl ?_
        refine AWops.guard_yes rfl (nl rfl) rfl c23 ?_
        refine s_move (d := (sc (.int .i64 x20))) rfl ?_
        refine AWops.guard_yes rfl (nl rfl) rfl c23 ?_
        obtain ⟨v24, ev24, h⟩ := bnd h
        obtain ⟨pv24, bv24, gv24, rfl⟩ := bt_some ev24
        refine s_indexStr F.u_9 rfl rfl pv24 gv24 ?_
        generalize hzv24 : ((bv24.toNat : Nat) : Int) = v24 at *
        refine AWops.guard_yes rfl (nl rfl) rfl c23 ?_
        refine s_binI (v := (.bool (decide (v24 > 57)))) rfl rfl rfl ?_
        refine s_pick_no (d := (sc (.bool (decide (v24 > 57))))) rfl c23 rfl (AWops.nil ?_)
        rcases itH h with ⟨c25, h⟩ | ⟨c25, h⟩
        ·refine AW.cond_yes rfl c25 (AW.seq (AW.region ?_))
         refine s_assign (d := (sc (.int .i64 0))) rfl ?_
         refine s_assign (d := (sc (.int .i64 5))) rfl (AWops.nil (AW.ret ?_))
         obtain rfl := Option.some.inj h
         exact ⟨_, rfl, (Weak.gen (kk := 0) [] [] rfl rfl (by decide) (by decide) rfl rfl rfl (le_upd (le_top _) (DLe.tup (ac (TLe.one .sc) (ac (TLe.one .sc) an)))) an)⟩
        ·refine AW.cond_no rfl c25 (AW.skip (AW.region ?_))
         refine s_binI (v := (.int .i64 (IntKind.i64.wrap (x20 + 1)))) rfl rfl rfl ?_
         refine s_move (d := (sc (.int .i64 (IntKind.i64.wrap (x20 + 1))))) rfl (AWops.nil ?_)
         exact ⟨_, ⟨77, (upd 77 (upd 77 (upd 77 (upd 77 topF 0 (sc (.string a0))) 4 (sc (.string x1))) 33 (sc (.int .i64 (x1.size : Int)))) 34 (sc (.int .i64 (IntKind.i64.wrap (x20 + 1))))), []⟩, by omega, (Weak.gen (kk := 0) [] [] hx rfl (by decide) (by decide) rfl rfl rfl (le_upd (le_upd (le_upd (le_upd (le_top _) (.t (.one .sc))) (.t (.one .sc))) (.t (.one .sc))) (.t (.one .sc))) an), by omega, IntKind.i64.wrap (x20 + 1), h, rfl⟩
      ·refine AW.cond_no rfl c21 (AW.exit (AW.seq (AW.seq (AW.region ?_))))
       refine s_move (d := (sc (.string x1))) rfl ?_
       refine s_len (n := x1.size) F.u_9 rfl (.inl ⟨⟨_, _, rfl⟩, rfl⟩) ?_
       refine s_binI (v := (.bool (decide ((x1.size : Int) > 19)))) rfl rfl rfl (AWops.nil ?_)
       rcases itH h with ⟨c26, h⟩ | ⟨c26, h⟩
       ·refine AW.cond_yes rfl c26 (AW.seq (AW.region ?_))
        refine s_assign (d := (sc (.int .i64 0))) rfl ?_
        refine s_assign (d := (sc (.int .i64 4))) rfl (AWops.nil (AW.ret ?_))
        obtain rfl := Option.some.inj h
        exact ⟨_, rfl, (Weak.gen (kk := 0) [] [] rfl rfl (by decide) (by decide) rfl rfl rfl (le_upd (le_top _) (DLe.tup (ac (TLe.one .sc) (ac (TLe.one .sc) an)))) an)⟩
       ·refine AW.cond_no rfl c26 (AW.skip (AW.seq (AW.region ?_)))
        refine s_assign (d := (sc (.int .i64 0))) rfl (AWops.nil (AW.seq (AW.seq (AW.region ?_))))
        refine s_move (d := (sc (.string x1))) rfl ?_
        refine s_len (n := x1.size) F.u_9 rfl (.inl ⟨⟨_, _, rfl⟩, rfl⟩) ?_
        refine s_move (d := (sc (.int .i64 0))) rfl (AWops.nil (AW.block ?_))
        refine AW.loopw (st0 := ⟨77, (upd 77 (upd 77 (upd 77 (upd 77 (upd 77 topF 0 (sc (.string a0))) 4 (sc (.string x1))) 6 (sc (.int .i64 0))) 52 (sc (.int .i64 (x1.size : Int)))) 53 (sc (.int .i64 0))), []⟩) (fun kv st => kv ≤ ql4 ∧ ∃ (x27 : Int) (x28 : Int), dossierref01_Number.l5 kv x27 x28 a0 x1 = some r ∧ st = ⟨77, (upd 77 (upd 77 (upd 77 (upd 77 (upd 77 topF 0 (sc (.string a0))) 4 (sc (.string x1))) 6 (sc (.int .i64 x27))) 52 (sc (.int .i64 (x1.size : Int)))) 53 (sc (.int .i64 x28))), []⟩) (k := ql4) (Weak.gen (kk := 0) [] [] hx rfl (by decide) (by decide) rfl rfl rfl (le_upd (le_upd (le_upd (le_upd (le_upd (le_top _) (.t (.one .sc))) (.t (.one .sc))) (.t (.one .sc))) (.t (.one .sc))) (.t (.one .sc))) an) ⟨Nat.le_refl _, 0, 0, h, rfl⟩ ?_
        rintro ql5 st ⟨hkl5, x27, x28, h, rfl⟩
        cases ql5 with
        | zero => exact absurd h (by simp [dossierref01_Number.l5])
        | succ ql5 =>
         replace h := (dossierref01_Number.l5.eq_2 _ _ _ _ _).symm.trans h
         refine AW.seq (AW.region ?_)
         refine s_binI (v := (.bool (decide (x28 < (x1.size : Int))))) rfl rfl rfl (AWops.nil (AW.seq ?_))
         rcases itH h with ⟨c29, h⟩ | ⟨c29, h⟩
         ·refine AW.cond_yes rfl c29 (AW.skip (AW.seq (AW.block (AW.seq (AW.region ?_)))))
          refine s_move (d := (sc (.int .i64 x28))) rfl ?_
          refine s_assign (d := (sc (.int .i64 x28))) rfl (AWops.nil (AW.region ?_))
          refine s_move (d := (sc (.int .i64 x27))) rfl ?_
          refine s_binI (v := (.int .i64 (IntKind.i64.wrap (10 * x27)))) rfl rfl rfl ?_
          refine s_move (d := (sc (.string x1))) rfl ?_
          refine s_move (d := (sc (.int .i64 x28))) rfl ?_
          obtain ⟨v30, ev30, h⟩ := bnd h
          obtain ⟨pv30, bv30, gv30, rfl⟩ := bt_some ev30
          refine s_indexStr F.u_9 rfl rfl pv30 gv30 ?_
          generalize hzv30 : ((bv30.toNat : Nat) : Int) = v30 at *
          refine s_binI (v := (.int .u8 (IntKind.u8.wrap (v30 - 48)))) rfl rfl rfl ?_
          refine s_convI F.u_5 F.u_3 rfl ?_
          refine s_binI (v := (.int .i64 (IntKind.i64.wrap ((IntKind.i64.wrap (10 * x27)) - (IntKind.i64.wrap (IntKind.u8.wrap (v30 - 48))))))) rfl rfl rfl ?_
          refine s_assign (d := (sc (.int .i64 (IntKind.i64.wrap ((IntKind.i64.wrap (10 * x27)) - (IntKind.i64.wrap (IntKind.u8.wrap (v30 - 48)))))))) rfl (AWops.nil (AW.region ?_))
          refine s_binI (v := (.int .i64 (IntKind.i64.wrap (x28 + 1)))) rfl rfl rfl ?_
          refine s_move (d := (sc (.int .i64 (IntKind.i64.wrap (x28 + 1))))) rfl (AWops.nil ?_)
          exact ⟨_, ⟨77, (upd 77 (upd 77 (upd 77 (upd 77 (upd 77 topF 0 (sc (.string a0))) 4 (sc (.string x1))) 6 (sc (.int .i64 (IntKind.i64.wrap ((IntKind.i64.wrap (10 * x27)) - (IntKind.i64.wrap (IntKind.u8.wrap (v30 - 48)))))))) 52 (sc (.int .i64 (x1.size : Int)))) 53 (sc (.int .i64 (IntKind.i64.wrap (x28 + 1))))), []⟩, by omega, (Weak.gen (kk := 0) [] [] hx rfl (by decide) (by decide) rfl rfl rfl (le_upd (le_upd (le_upd (le_upd (le_upd (le_top _) (.t (.one .sc))) (.t (.one .sc))) (.t (.one .sc))) (.t (.one .sc))) (.t (.one .sc))) an), by omega, IntKind.i64.wrap ((IntKind.i64.wrap (10 * x27)) - (IntKind.i64.wrap (IntKind.u8.wrap (v30 - 48)))), IntKind.i64.wrap (x28 + 1), h, rfl⟩
         ·refine AW.cond_no rfl c29 (AW.exit ?_)
          refine AW.seqJ (fun st => ∃ (x31 : Int), dossierref01_Number.j6 ql5 x31 a0 = some r ∧ st = ⟨77, (upd 77 (upd 77 topF 0 (sc (.string a0))) 6 (sc (.int .i64 x31))), []⟩) ?_ ?_
          ·refine AW.seq (AW.region ?_)
           refine s_move (d := (sc (.string x1))) rfl ?_
           refine s_len (n := x1.size) F.u_9 rfl (.inl ⟨⟨_, _, rfl⟩, rfl⟩) ?_
           refine s_move (d := (sc (.string a0))) rfl ?_
           refine s_len (n := a0.size) F.u_9 rfl (.inl ⟨⟨_, _, rfl⟩, rfl⟩) ?_
           refine s_binI (v := (.bool ((x1.size : Int) == (a0.size : Int)))) rfl rfl rfl (AWops.nil ?_)
           rcases itH h with ⟨c31, h⟩ | ⟨c31, h⟩
           ·refine AW.cond_yes rfl c31 (AW.region ?_)
            refine s_move (d := (sc (.int .i64 x27))) rfl ?_
            refine s_unI (v := (.int .i64 (IntKind.i64.wrap (0 - x27)))) rfl rfl ?_
            refine s_assign (d := (sc (.int .i64 (IntKind.i64.wrap (0 - x27))))) rfl (AWops.nil ?_)
            exact ⟨⟨77, (upd 77 (upd 77 topF 0 (sc (.string a0))) 6 (sc (.int .i64 (IntKind.i64.wrap (0 - x27))))), []⟩, (Weak.gen (kk := 0) [] [] hx rfl (by decide) (by decide) rfl rfl rfl (le_upd (le_upd (le_top _) (.t (.one .sc))) (.t (.one .sc))) an), IntKind.i64.wrap (0 - x27), h, rfl⟩
           ·refine AW.cond_no rfl c31 (AW.skip ?_)
            exact ⟨⟨77, (upd 77 (upd 77 topF 0 (sc (.string a0))) 6 (sc (.int .i64 x27))), []⟩, (Weak.gen (kk := 0) [] [] hx rfl (by decide) (by decide) rfl rfl rfl (le_upd (le_upd (le_top _) (.t (.one .sc))) (.t (.one .sc))) an), x27, h, rfl⟩
          ·rintro st ⟨x31, h, rfl⟩
           cases ql5 with
           | zero => exact absurd h (by simp [dossierref01_Number.j6])
           | succ qj6 =>
            replace h := (dossierref01_Number.j6.eq_2 _ _ _).symm.trans h
            refine AW.seq (AW.seq (AW.region ?_))
            refine s_move (d := (sc (.int .i64 x31))) rfl ?_
            obtain ⟨r32, er32, h⟩ := bnd h
            refine s_call2 (ρ := []) (br := false) (H2 := []) (d := (sc (.string r32))) F.ca_54 rfl rfl (ac (.one .sc) an) an (by decide) rfl (dossierref01_Text.meets _ x31 r32 er32) (.inl rfl) rfl rfl ?_
            refine s_move (d := (sc (.string a0))) rfl ?_
            refine s_binS (v := (.bool (!(r32.toList == a0.toList)))) rfl rfl rfl (AWops.nil ?_)
            rcases itH h with ⟨c33, h⟩ | ⟨c33, h⟩
            ·refine AW.cond_no rfl (by rw [c33] <;> rfl) (AW.skip (AW.seq (AW.region ?_)))
             refine s_move (d := (sc (.int .i64 x31))) rfl ?_
             refine s_assign (d := (sc (.int .i64 x31))) rfl ?_
             refine s_assign (d := (sc (.int .i64 0))) rfl (AWops.nil (AW.ret ?_))
             obtain rfl := Option.some.inj h
             exact ⟨_, rfl, (Weak.gen (kk := 0) [] [] rfl rfl (by decide) (by decide) rfl rfl rfl (le_upd (le_top _) (DLe.tup (ac (TLe.one .sc) (ac (TLe.one .sc) an)))) an)⟩
            ·refine AW.cond_yes rfl (by rw [c33] <;> rfl) (AW.seq (AW.region ?_))
             refine s_assign (d := (sc (.int .i64 0))) rfl ?_
             refine s_assign (d := (sc (.int .i64 4))) rfl (AWops.nil (AW.ret ?_))
             obtain rfl := Option.some.inj h
             exact ⟨_, rfl, (Weak.gen (kk := 0) [] [] rfl rfl (by decide) (by decide) rfl rfl rfl (le_upd (le_top _) (DLe.tup (ac (TLe.one .sc) (ac (TLe.one .sc) an)))) an)⟩
def dossierref18_part.f (k : Nat) (a0 : ByteArray) : Option (ByteArray × Int) := (dossierref18_last.f k a0 46).bind fun r1 => if (decide (r1 < 1)) = true then (some ((⟨#[]⟩ : ByteArray), 0)) else (if (decide (0 ≤ (IntKind.i64.wrap (r1 + 1)) ∧ (IntKind.i64.wrap (r1 + 1)) ≤ (a0.size : Int) ∧ (a0.size : Int) ≤ (a0.size : Int))) = true then ((dossierref01_Number.f k (a0.extract (IntKind.i64.wrap (r1 + 1)).toNat a0.size)).bind fun r4 => if (r4.2 != 0) = true then (some ((⟨#[]⟩ : ByteArray), 0)) else (if (decide (r4.1 < 1)) = true then (some ((⟨#[]⟩ : ByteArray), 0)) else (if (decide (0 ≤ 0 ∧ 0 ≤ r1 ∧ r1 ≤ (a0.size : Int))) = true then (some (a0.extract 0 r1.toNat, r4.1)) else none))) else none)
theorem dossierref18_part.meets (k : Nat) (a0 : ByteArray) (r : ByteArray × Int) (h : dossierref18_part.f k a0 = some r) : Meets Try.prog 48 [(sc (.string a0))] [] (D.tup [(sc (.string r.1)), (sc (.int .i64 r.2))]) [] := by
 unfold dossierref18_part.f at h
 refine Meets.of_body (n := 29) Try.func48 rfl rfl (nl rfl) fun x hx => ?_
 replace hx : x.k = 0 := hx
 show AW _ x _ _ ⟨29, fr0 [(sc (.string a0))], []⟩
 refine AW.seq (AW.region ?_)
 refine s_assign (d := (sc (.string (⟨#[]⟩ : ByteArray)))) rfl ?_
 refine s_assign (d := (sc (.int .i64 0))) rfl (AWops.nil (AW.seq (AW.region ?_)))
 refine s_move (d := (sc (.string a0))) rfl ?_
 obtain ⟨r1, er1, h⟩ := bnd h
 refine s_call2 (ρ := []) (br := false) (H2 := []) (d := (sc (.int .i64 r1))) F.ca_45 rfl rfl (ac (.one .sc) (ac (.one .sc) an)) an (by decide) rfl (dossierref18_last.meets _ a0 46 r1 er1) (.inl rfl) rfl rfl ?_
 refine s_assign (d := (sc (.int .i64 r1))) rfl (AWops.nil (AW.seq (AW.seq (AW.region ?_))))
 refine s_move (d := (sc (.int .i64 r1))) rfl ?_
 refine s_binI (v := (.bool (decide (r1 < 1)))) rfl rfl rfl (AWops.nil ?_)
 rcases itH h with ⟨c2, h⟩ | ⟨c2, h⟩
 ·refine AW.cond_yes rfl c2 (AW.seq (AW.region ?_))
  refine s_assign (d := (sc (.string (⟨#[]⟩ : ByteArray)))) rfl ?_
  refine s_assign (d := (sc (.int .i64 0))) rfl (AWops.nil (AW.ret ?_))
  obtain rfl := Option.some.inj h
  exact ⟨_, rfl, (Weak.gen (kk := 0) [] [] rfl rfl (by decide) (by decide) rfl rfl rfl (le_upd (le_top _) (DLe.tup (ac (TLe.one .sc) (ac (TLe.one .sc) an)))) an)⟩
 ·refine AW.cond_no rfl c2 (AW.skip (AW.seq (AW.region ?_)))
  refine s_move (d := (sc (.string a0))) rfl ?_
  refine s_move (d := (sc (.int .i64 r1))) rfl ?_
  refine s_binI (v := (.int .i64 (IntKind.i64.wrap (r1 + 1)))) rfl rfl rfl ?_
  obtain ⟨c3, h⟩ := gdH h
  have dc3 := of_decide_eq_true c3
  refine s_sliceStr F.u_9 rfl (.yes rfl (by omega) rfl) .no (by omega) (by omega) ?_
  obtain ⟨r4, er4, h⟩ := bnd h
  refine s_call2 (ρ := []) (br := false) (H2 := []) (d := (D.tup [(sc (.int .i64 r4.1)), (sc (.int .i64 r4.2))])) F.ca_53 rfl rfl (ac (.one .sc) an) an (by decide) rfl (dossierref01_Number.meets _ (a0.extract (IntKind.i64.wrap (r1 + 1)).toNat a0.size) r4 er4) (.inl rfl) rfl rfl ?_
  refine s_move (d := (D.tup [(sc (.int .i64 r4.1)), (sc (.int .i64 r4.2))])) rfl ?_
  refine s_extract (d := (sc (.int .i64 r4.1))) rfl rfl ?_
  refine s_extract (d := (sc (.int .i64 r4.2))) rfl rfl ?_
  refine s_assign (d := (sc (.int .i64 r4.1))) rfl ?_
  refine s_assign (d := (sc (.int .i64 r4.2))) rfl (AWops.nil (AW.seq (AW.seq (AW.region ?_))))
  refine s_move (d := (sc (.int .i64 r4.2))) rfl ?_
  refine s_binI (v := (.bool (r4.2 != 0))) rfl rfl rfl ?_
  refine s_move (d := (sc (.bool (r4.2 != 0)))) rfl ?_
  rcases itH h with ⟨c5, h⟩ | ⟨c5, h⟩
  ·refine AWops.guard_no rfl (nl rfl) rfl c5 ?_
   refine AWops.guard_no rfl (nl rfl) rfl c5 ?_
   refine s_pick_yes (d := (sc (.bool true))) rfl c5 rfl (AWops.nil ?_)
   refine AW.cond_yes rfl rfl (AW.seq (AW.region ?_))
   refine s_assign (d := (sc (.string (⟨#[]⟩ : ByteArray)))) rfl ?_
   refine s_assign (d := (sc (.int .i64 0))) rfl (AWops.nil (AW.ret ?_))
   obtain rfl := Option.some.inj h
   exact ⟨_, rfl, (Weak.gen (kk := 0) [] [] rfl rfl (by decide) (by decide) rfl rfl rfl (le_upd (le_top _) (DLe.tup (ac (TLe.one .sc) (ac (TLe.one .sc) an)))) an)⟩
  ·refine AWops.guard_yes rfl (nl rfl) rfl c5 ?_
   refine s_move (d := (sc (.int .i64 r4.1))) rfl ?_
   refine AWops.guard_yes rfl (nl rfl) rfl c5 ?_
   refine s_binI (v := (.bool (decide (r4.1 < 1)))) rfl rfl rfl ?_
   refine s_pick_no (d := (sc (.bool (decide (r4.1 < 1))))) rfl c5 rfl (AWops.nil ?_)
   rcases itH h with ⟨c6, h⟩ | ⟨c6, h⟩
   ·refine AW.cond_yes rfl c6 (AW.seq (AW.region ?_))
    refine s_assign (d := (sc (.string (⟨#[]⟩ : ByteArray)))) rfl ?_
    refine s_assign (d := (sc (.int .i64 0))) rfl (AWops.nil (AW.ret ?_))
    obtain rfl := Option.some.inj h
    exact ⟨_, rfl, (Weak.gen (kk := 0) [] [] rfl rfl (by decide) (by decide) rfl rfl rfl (le_upd (le_top _) (DLe.tup (ac (TLe.one .sc) (ac (TLe.one .sc) an)))) an)⟩
   ·refine AW.cond_no rfl c6 (AW.skip (AW.seq (AW.region ?_)))
    refine s_move (d := (sc (.string a0))) rfl ?_
    refine s_move (d := (sc (.int .i64 r1))) rfl ?_
    obtain ⟨c7, h⟩ := gdH h
    have dc7 := of_decide_eq_true c7
    refine s_sliceStr F.u_9 rfl .no (.yes rfl (by omega) rfl) (by omega) (by omega) ?_
    refine s_move (d := (sc (.int .i64 r4.1))) rfl ?_
    refine s_assign (d := (sc (.string (a0.extract 0 r1.toNat)))) rfl ?_
    refine s_assign (d := (sc (.int .i64 r4.1))) rfl (AWops.nil (AW.ret ?_))
    obtain rfl := Option.some.inj h
    exact ⟨_, rfl, (Weak.gen (kk := 0) [] [] rfl rfl (by decide) (by decide) rfl rfl rfl (le_upd (le_top _) (DLe.tup (ac (TLe.one .sc) (ac (TLe.one .sc) an)))) an)⟩
def dossierref18_Last.f (k : Nat) (a0 : ByteArray) : Option (ByteArray × Int) := (dossierref18_last.f k a0 47).bind fun r1 => if (decide (0 ≤ (IntKind.i64.wrap (r1 + 1)) ∧ (IntKind.i64.wrap (r1 + 1)) ≤ (a0.size : Int) ∧ (a0.size : Int) ≤ (a0.size : Int))) = true then ((dossierref18_part.f k (a0.extract (IntKind.i64.wrap (r1 + 1)).toNat a0.size)).bind fun r3 => some (r3.1, r3.2)) else none
theorem dossierref18_Last.meets (k : Nat) (a0 : ByteArray) (r : ByteArray × Int) (h : dossierref18_Last.f k a0 = some r) : Meets Try.prog 32 [(sc (.string a0))] [] (D.tup [(sc (.string r.1)), (sc (.int .i64 r.2))]) [] := by
 unfold dossierref18_Last.f at h
 refine Meets.of_body (n := 12) Try.func32 rfl rfl (nl rfl) fun x hx => ?_
 replace hx : x.k = 0 := hx
 show AW _ x _ _ ⟨12, fr0 [(sc (.string a0))], []⟩
 refine AW.seq (AW.region ?_)
 refine s_assign (d := (sc (.string (⟨#[]⟩ : ByteArray)))) rfl ?_
 refine s_assign (d := (sc (.int .i64 0))) rfl (AWops.nil (AW.seq (AW.region ?_)))
 refine s_move (d := (sc (.string a0))) rfl ?_
 refine s_move (d := (sc (.string a0))) rfl ?_
 obtain ⟨r1, er1, h⟩ := bnd h
 refine s_call2 (ρ := []) (br := false) (H2 := []) (d := (sc (.int .i64 r1))) F.ca_45 rfl rfl (ac (.one .sc) (ac (.one .sc) an)) an (by decide) rfl (dossierref18_last.meets _ a0 47 r1 er1) (.inl rfl) rfl rfl ?_
 refine s_binI (v := (.int .i64 (IntKind.i64.wrap (r1 + 1)))) rfl rfl rfl ?_
 obtain ⟨c2, h⟩ := gdH h
 have dc2 := of_decide_eq_true c2
 refine s_sliceStr F.u_9 rfl (.yes rfl (by omega) rfl) .no (by omega) (by omega) ?_
 obtain ⟨r3, er3, h⟩ := bnd h
 refine s_call2 (ρ := []) (br := false) (H2 := []) (d := (D.tup [(sc (.string r3.1)), (sc (.int .i64 r3.2))])) F.ca_48 rfl rfl (ac (.one .sc) an) an (by decide) rfl (dossierref18_part.meets _ (a0.extract (IntKind.i64.wrap (r1 + 1)).toNat a0.size) r3 er3) (.inl rfl) rfl rfl ?_
 refine s_extract (d := (sc (.string r3.1))) rfl rfl ?_
 refine s_extract (d := (sc (.int .i64 r3.2))) rfl rfl ?_
 refine s_assign (d := (sc (.string r3.1))) rfl ?_
 refine s_assign (d := (sc (.int .i64 r3.2))) rfl (AWops.nil (AW.ret ?_))
 obtain rfl := Option.some.inj h
 exact ⟨_, rfl, (Weak.gen (kk := 0) [] [] rfl rfl (by decide) (by decide) rfl rfl rfl (le_upd (le_top _) (DLe.tup (ac (TLe.one .sc) (ac (TLe.one .sc) an)))) an)⟩
mutual
def dossierref18_Next.l0 : Nat → Int → Int → ByteArray → (List api_Inst) → Option Int
 | 0, _, _, _, _ => none
 | k + 1, x2, x3, a2, r1 => if (decide (x3 < (r1.length : Int))) = true then ((rd r1 x3).bind fun v5 => (dossierref18_Last.f k v5.Path).bind fun r7 => if (decide (r7.2 > 0)) = true then (if (r7.1.toList == a2.toList) = true then (dossierref18_Next.l0 k (if r7.2 > x2 then r7.2 else x2) (IntKind.i64.wrap (x3 + 1)) a2 r1) else (dossierref18_Next.l0 k x2 (IntKind.i64.wrap (x3 + 1)) a2 r1)) else (dossierref18_Next.l0 k x2 (IntKind.i64.wrap (x3 + 1)) a2 r1)) else (some (IntKind.i64.wrap ((if 4611686018427387903 < x2 then 4611686018427387903 else x2) + 1)))
end
def dossierref18_Next.f (k : Nat) (a0 : api_Case) (a1 : ByteArray) (a2 : ByteArray) : Option Int := (dossierref18_Kids.f k a0 a1).bind fun r1 => dossierref18_Next.l0 k 0 0 a2 r1
theorem dossierref18_Next.meets (k : Nat) (a0 : api_Case) (a1 : ByteArray) (a2 : ByteArray) (r : Int) (h : dossierref18_Next.f k a0 a1 a2 = some r) : Meets Try.prog 15 [(D.agg (c_api_Case a0)), (sc (.string a1)), (sc (.string a2))] [] (sc (.int .i64 r)) [] := by
 unfold dossierref18_Next.f at h
 refine Meets.of_body (n := 40) Try.func15 rfl rfl (nl rfl) fun x hx => ?_
 replace hx : x.k = 0 := hx
 show AW _ x _ _ ⟨40, fr0 [(D.agg (c_api_Case a0)), (sc (.string a1)), (sc (.string a2))], []⟩
 refine AW.seq (AW.region ?_)
 refine s_box (cs := (c_api_Case a0)) rfl (List.cons_ne_nil _ _) rfl ?_
 refine s_assign (d := (sc (.int .i64 0))) rfl (AWops.nil (AW.seq (AW.region ?_)))
 refine s_assign (d := (sc (.int .i64 0))) rfl (AWops.nil (AW.seq (AW.seq (AW.region ?_))))
 refine s_loadN (ds := (c_api_Case a0)) F.ag_25 F.sz_25 rfl rfl rfl ?_
 refine s_move (d := (sc (.string a1))) rfl ?_
 obtain ⟨r1, er1, h⟩ := bnd h
 refine s_call2 (ρ := []) (br := false) (H2 := [(some (AObj.cells true (c_api_Case a0))), (some (AObj.cells true (rowC e_api_Inst r1)))]) (d := (D.one (C.own 1 0 r1.length 6))) F.ca_10 rfl rfl (ac (LendT.aggL (ac .sc (ac .sc (ac .imm (ac .imm (ac .sc an)))))) (ac (.one .sc) an)) an (by decide) rfl (dossierref18_Kids.meets _ a0 a1 r1 er1) (.inl rfl) (by first | rfl | (simp only [mergeH2, orF, Bool.false_or, Bool.or_false, Bool.true_or, Bool.or_true, mergeAt, mergeObj, renO, ren_row, List.drop_succ_cons, List.drop_zero, List.map_cons, List.map_nil, Option.map_some, Option.map_none, List.length_cons, List.length_nil, Nat.zero_add, List.append_assoc, List.cons_append, List.nil_append]; done) | (simp only [mergeH2, orF, Bool.false_or, Bool.or_false, Bool.true_or, Bool.or_true, mergeAt, mergeObj, renO, ren_row, List.drop_succ_cons, List.drop_zero, List.map_cons, List.map_nil, Option.map_some, Option.map_none, List.length_cons, List.length_nil, Nat.zero_add, List.append_assoc, List.cons_append, List.nil_append]; rfl)) rfl ?_
 refine s_len (n := r1.length) F.u_22 rfl (.inr ⟨(fun _ _ h => by cases h), ⟨_, rfl⟩⟩) ?_
 refine s_move (d := (sc (.int .i64 0))) rfl (AWops.nil (AW.block ?_))
 refine AW.loopw (st0 := ⟨40, (upd 40 (upd 40 (upd 40 (upd 40 (upd 40 topF 2 (sc (.string a2))) 7 (sc (.int .i64 0))) 14 (D.one (C.own 0 0 r1.length 6))) 15 (sc (.int .i64 (r1.length : Int)))) 16 (sc (.int .i64 0))), [(some (AObj.cells true (rowC e_api_Inst r1)))]⟩) (fun kv st => kv ≤ k ∧ ∃ (x2 : Int) (x3 : Int), dossierref18_Next.l0 kv x2 x3 a2 r1 = some r ∧ st = ⟨40, (upd 40 (upd 40 (upd 40 (upd 40 (upd 40 topF 2 (sc (.string a2))) 7 (sc (.int .i64 x2))) 14 (D.one (C.own 0 0 r1.length 6))) 15 (sc (.int .i64 (r1.length : Int)))) 16 (sc (.int .i64 x3))), [(some (AObj.cells true (rowC e_api_Inst r1)))]⟩) (k := k) (Weak.gen (kk := 0) [1] [] hx rfl (by decide) (by decide) rfl rfl rfl (le_upd (le_upd (le_upd (le_upd (le_upd (le_top _) (.t (.one .sc))) (.t (.one .sc))) (.t (.one (.own rfl)))) (.t (.one .sc))) (.t (.one .sc))) (ac (.cells (fun h => h) (all2_row _)) an)) ⟨Nat.le_refl _, 0, 0, h, rfl⟩ ?_
 rintro ql0 st ⟨hkl0, x2, x3, h, rfl⟩
 cases ql0 with
 | zero => exact absurd h (by simp [dossierref18_Next.l0])
 | succ ql0 =>
  replace h := (dossierref18_Next.l0.eq_2 _ _ _ _ _).symm.trans h
  refine AW.seq (AW.region ?_)
  refine s_binI (v := (.bool (decide (x3 < (r1.length : Int))))) rfl rfl rfl (AWops.nil (AW.seq ?_))
  rcases itH h with ⟨c4, h⟩ | ⟨c4, h⟩
  ·refine AW.cond_yes rfl c4 (AW.skip (AW.seq (AW.block (AW.seq (AW.region ?_)))))
   obtain ⟨v5, ev5, h⟩ := bnd h
   obtain ⟨pv5, qv5, gv5⟩ := rd_some ev5
   refine s_indexOwn (d := (D.one (C.ref 0 (0 + x3.toNat * 6)))) F.u_22 F.sz_30 rfl rfl pv5 qv5 rfl ?_
   obtain ⟨R6, hR6⟩ := row_at (f := e_api_Inst) (sz := 6) (o := 0) e_api_Inst_len gv5 (e_api_Inst_eq v5) (by decide)
   refine s_loadN (ds := (c_api_Inst v5)) F.ag_30 F.sz_30 (congrArg some hR6) rfl rfl ?_
   refine s_alloc (cs := [(C.p true (.v (.string (⟨#[]⟩ : ByteArray)))), (C.p true (.v (.string (⟨#[]⟩ : ByteArray)))), (C.p true (.v (.int .i64 0))), (C.p true (.v (.int .i64 0))), (C.p true (.v (.slice none 0 0))), (C.p true (.v (.int .i64 0)))]) F.z_30 rfl rfl ?_
   refine s_store (cs' := (c_api_Inst v5)) rfl rfl rfl (List.cons_ne_nil _ _) rfl F.sz_30 (nl rfl) rfl (AWops.nil (AW.seq (AW.region ?_)))
   refine s_fieldRef F.fo_30_0 (by decide) rfl ?_
   refine s_load1 (c' := (C.p true (.v (.string v5.Path)))) F.ag_9 rfl rfl ?_
   obtain ⟨r7, er7, h⟩ := bnd h
   refine s_call2 (ρ := []) (br := false) (H2 := [(some (AObj.cells true (rowC e_api_Inst r1))), (some (AObj.cells true (c_api_Inst v5)))]) (d := (D.tup [(sc (.string r7.1)), (sc (.int .i64 r7.2))])) F.ca_32 rfl rfl (ac (.one .sc) an) an (by decide) rfl (dossierref18_Last.meets _ v5.Path r7 er7) (.inl rfl) rfl rfl ?_
   refine s_move (d := (D.tup [(sc (.string r7.1)), (sc (.int .i64 r7.2))])) rfl ?_
   refine s_extract (d := (sc (.string r7.1))) rfl rfl ?_
   refine s_extract (d := (sc (.int .i64 r7.2))) rfl rfl ?_
   refine s_assign (d := (sc (.string r7.1))) rfl ?_
   refine s_assign (d := (sc (.int .i64 r7.2))) rfl (AWops.nil (AW.seq (AW.region ?_)))
   refine s_move (d := (sc (.int .i64 r7.2))) rfl ?_
   refine s_binI (v := (.bool (decide (r7.2 > 0)))) rfl rfl rfl ?_
   refine s_move (d := (sc (.bool (decide (r7.2 > 0))))) rfl ?_
   rcases itH h with ⟨c8, h⟩ | ⟨c8, h⟩
   ·refine AWops.guard_yes rfl (nl rfl) rfl c8 ?_
    refine s_move (d := (sc (.string r7.1))) rfl ?_
    refine AWops.guard_yes rfl (nl rfl) rfl c8 ?_
    refine s_move (d := (sc (.string a2))) rfl ?_
    refine AWops.guard_yes rfl (nl rfl) rfl c8 ?_
    refine s_binS (v := (.bool (r7.1.toList == a2.toList))) rfl rfl rfl ?_
    refine s_pick_yes (d := (sc (.bool (r7.1.toList == a2.toList)))) rfl c8 rfl (AWops.nil ?_)
    rcases itH h with ⟨c9, h⟩ | ⟨c9, h⟩
    ·refine AW.cond_yes rfl c9 (AW.region ?_)
     refine s_move (d := (sc (.int .i64 x2))) rfl ?_
     refine s_move (d := (sc (.int .i64 r7.2))) rfl ?_
     refine s_max2 (r := (if r7.2 > x2 then r7.2 else x2)) rfl rfl rfl ?_
     refine s_assign (d := (sc (.int .i64 (if r7.2 > x2 then r7.2 else x2)))) rfl (AWops.nil (AW.region ?_))
     refine s_binI (v := (.int .i64 (IntKind.i64.wrap (x3 + 1)))) rfl rfl rfl ?_
     refine s_move (d := (sc (.int .i64 (IntKind.i64.wrap (x3 + 1))))) rfl (AWops.nil ?_)
     exact ⟨_, ⟨40, (upd 40 (upd 40 (upd 40 (upd 40 (upd 40 topF 2 (sc (.string a2))) 7 (sc (.int .i64 (if r7.2 > x2 then r7.2 else x2)))) 14 (D.one (C.own 0 0 r1.length 6))) 15 (sc (.int .i64 (r1.length : Int)))) 16 (sc (.int .i64 (IntKind.i64.wrap (x3 + 1))))), [(some (AObj.cells true (rowC e_api_Inst r1)))]⟩, by omega, (Weak.gen (kk := 0) [0] [] hx rfl (by decide) (by decide) rfl rfl rfl (le_upd (le_upd (le_upd (le_upd (le_upd (le_top _) (.t (.one .sc))) (.t (.one .sc))) (.t (.one (.own rfl)))) (.t (.one .sc))) (.t (.one .sc))) (ac (.cells (fun h => h) (all2_row _)) an)), by omega, (if r7.2 > x2 then r7.2 else x2), IntKind.i64.wrap (x3 + 1), h, rfl⟩
    ·refine AW.cond_no rfl c9 (AW.skip (AW.region ?_))
     refine s_binI (v := (.int .i64 (IntKind.i64.wrap (x3 + 1)))) rfl rfl rfl ?_
     refine s_move (d := (sc (.int .i64 (IntKind.i64.wrap (x3 + 1))))) rfl (AWops.nil ?_)
     exact ⟨_, ⟨40, (upd 40 (upd 40 (upd 40 (upd 40 (upd 40 topF 2 (sc (.string a2))) 7 (sc (.int .i64 x2))) 14 (D.one (C.own 0 0 r1.length 6))) 15 (sc (.int .i64 (r1.length : Int)))) 16 (sc (.int .i64 (IntKind.i64.wrap (x3 + 1))))), [(some (AObj.cells true (rowC e_api_Inst r1)))]⟩, by omega, (Weak.gen (kk := 0) [0] [] hx rfl (by decide) (by decide) rfl rfl rfl (le_upd (le_upd (le_upd (le_upd (le_upd (le_top _) (.t (.one .sc))) (.t (.one .sc))) (.t (.one (.own rfl)))) (.t (.one .sc))) (.t (.one .sc))) (ac (.cells (fun h => h) (all2_row _)) an)), by omega, x2, IntKind.i64.wrap (x3 + 1), h, rfl⟩
   ·iterate 3 refine AWops.guard_no rfl (nl rfl) rfl c8 ?_
    refine s_pick_no (d := (sc (.bool false))) rfl c8 rfl (AWops.nil ?_)
    refine AW.cond_no rfl rfl (AW.skip (AW.region ?_))
    refine s_binI (v := (.int .i64 (IntKind.i64.wrap (x3 + 1)))) rfl rfl rfl ?_
    refine s_move (d := (sc (.int .i64 (IntKind.i64.wrap (x3 + 1))))) rfl (AWops.nil ?_)
    exact ⟨_, ⟨40, (upd 40 (upd 40 (upd 40 (upd 40 (upd 40 topF 2 (sc (.string a2))) 7 (sc (.int .i64 x2))) 14 (D.one (C.own 0 0 r1.length 6))) 15 (sc (.int .i64 (r1.length : Int)))) 16 (sc (.int .i64 (IntKind.i64.wrap (x3 + 1))))), [(some (AObj.cells true (rowC e_api_Inst r1)))]⟩, by omega, (Weak.gen (kk := 0) [0] [] hx rfl (by decide) (by decide) rfl rfl rfl (le_upd (le_upd (le_upd (le_upd (le_upd (le_top _) (.t (.one .sc))) (.t (.one .sc))) (.t (.one (.own rfl)))) (.t (.one .sc))) (.t (.one .sc))) (ac (.cells (fun h => h) (all2_row _)) an)), by omega, x2, IntKind.i64.wrap (x3 + 1), h, rfl⟩
  ·refine AW.cond_no rfl c4 (AW.exit (AW.seq (AW.region ?_)))
   refine s_move (d := (sc (.int .i64 x2))) rfl ?_
   refine s_min2 (r := (if 4611686018427387903 < x2 then 4611686018427387903 else x2)) rfl rfl rfl ?_
   refine s_binI (v := (.int .i64 (IntKind.i64.wrap ((if 4611686018427387903 < x2 then 4611686018427387903 else x2) + 1)))) rfl rfl rfl ?_
   refine s_assign (d := (sc (.int .i64 (IntKind.i64.wrap ((if 4611686018427387903 < x2 then 4611686018427387903 else x2) + 1))))) rfl (AWops.nil (AW.ret ?_))
   obtain rfl := Option.some.inj h
   exact ⟨_, rfl, (Weak.gen (kk := 0) [] [] rfl rfl (by decide) (by decide) rfl rfl rfl (le_upd (le_top _) (.t (.one .sc))) an)⟩
mutual
def slices_Equal_int_int.l0 : Nat → Int → (List Int) → (List Int) → Option Bool
 | 0, _, _, _ => none
 | k + 1, x2, a0, a1 => if (decide (x2 < (a0.length : Int))) = true then ((rd a0 x2).bind fun v4 => (rd a1 x2).bind fun v5 => if (v4 != v5) = true then (some false) else (slices_Equal_int_int.l0 k (IntKind.i64.wrap (x2 + 1)) a0 a1)) else (some true)
end
def slices_Equal_int_int.f (k : Nat) (a0 : List Int) (a1 : List Int) : Option Bool := if ((a0.length : Int) != (a1.length : Int)) = true then (some false) else (slices_Equal_int_int.l0 k 0 a0 a1)
theorem slices_Equal_int_int.meets (k : Nat) (a0 : List Int) (a1 : List Int) (r : Bool) (h : slices_Equal_int_int.f k a0 a1 = some r) : Meets Try.prog 34 [(D.one (C.p false (.sl a0.length (a0.flatMap e_i64)))), (D.one (C.p false (.sl a1.length (a1.flatMap e_i64))))] [] (sc (.bool r)) [] := by
 unfold slices_Equal_int_int.f at h
 refine Meets.of_body (n := 26) Try.func34 rfl rfl (nl rfl) fun x hx => ?_
 replace hx : x.k = 0 := hx
 show AW _ x _ _ ⟨26, fr0 [(D.one (C.p false (.sl a0.length (a0.flatMap e_i64)))), (D.one (C.p false (.sl a1.length (a1.flatMap e_i64))))], []⟩
 refine AW.seq (AW.region ?_)
 refine s_assign (d := (sc (.bool false))) rfl (AWops.nil (AW.seq (AW.seq (AW.region ?_))))
 refine s_move (d := (D.one (C.p false (.sl a0.length (a0.flatMap e_i64))))) rfl ?_
 refine s_len (n := a0.length) F.u_28 rfl (.inr ⟨(fun _ _ h => by cases h), ⟨_, rfl⟩⟩) ?_
 refine s_move (d := (D.one (C.p false (.sl a1.length (a1.flatMap e_i64))))) rfl ?_
 refine s_len (n := a1.length) F.u_28 rfl (.inr ⟨(fun _ _ h => by cases h), ⟨_, rfl⟩⟩) ?_
 refine s_binI (v := (.bool ((a0.length : Int) != (a1.length : Int)))) rfl rfl rfl (AWops.nil ?_)
 rcases itH h with ⟨c1, h⟩ | ⟨c1, h⟩
 ·refine AW.cond_yes rfl c1 (AW.seq (AW.region ?_))
  refine s_assign (d := (sc (.bool false))) rfl (AWops.nil (AW.ret ?_))
  obtain rfl := Option.some.inj h
  exact ⟨_, rfl, (Weak.gen (kk := 0) [] [] rfl rfl (by decide) (by decide) rfl rfl rfl (le_upd (le_top _) (.t (.one .sc))) an)⟩
 ·refine AW.cond_no rfl c1 (AW.skip (AW.seq (AW.seq (AW.region ?_))))
  refine s_move (d := (D.one (C.p false (.sl a0.length (a0.flatMap e_i64))))) rfl ?_
  refine s_len (n := a0.length) F.u_28 rfl (.inr ⟨(fun _ _ h => by cases h), ⟨_, rfl⟩⟩) ?_
  refine s_move (d := (sc (.int .i64 0))) rfl (AWops.nil (AW.block ?_))
  refine AW.loopw (st0 := ⟨26, (upd 26 (upd 26 (upd 26 (upd 26 topF 0 (D.one (C.p false (.sl a0.length (a0.flatMap e_i64))))) 1 (D.one (C.p false (.sl a1.length (a1.flatMap e_i64))))) 12 (sc (.int .i64 (a0.length : Int)))) 13 (sc (.int .i64 0))), []⟩) (fun kv st => kv ≤ k ∧ ∃ (x2 : Int), slices_Equal_int_int.l0 kv x2 a0 a1 = some r ∧ st = ⟨26, (upd 26 (upd 26 (upd 26 (upd 26 topF 0 (D.one (C.p false (.sl a0.length (a0.flatMap e_i64))))) 1 (D.one (C.p false (.sl a1.length (a1.flatMap e_i64))))) 12 (sc (.int .i64 (a0.length : Int)))) 13 (sc (.int .i64 x2))), []⟩) (k := k) (Weak.gen (kk := 0) [] [] hx rfl (by decide) (by decide) rfl rfl rfl (le_upd (le_upd (le_upd (le_upd (le_top _) (.t (.one .same))) (.t (.one .same))) (.t (.one .sc))) (.t (.one .sc))) an) ⟨Nat.le_refl _, 0, h, rfl⟩ ?_
  rintro ql0 st ⟨hkl0, x2, h, rfl⟩
  cases ql0 with
  | zero => exact absurd h (by simp [slices_Equal_int_int.l0])
  | succ ql0 =>
   replace h := (slices_Equal_int_int.l0.eq_2 _ _ _ _).symm.trans h
   refine AW.seq (AW.region ?_)
   refine s_binI (v := (.bool (decide (x2 < (a0.length : Int))))) rfl rfl rfl (AWops.nil (AW.seq ?_))
   rcases itH h with ⟨c3, h⟩ | ⟨c3, h⟩
   ·refine AW.cond_yes rfl c3 (AW.skip (AW.seq (AW.block (AW.seq (AW.region ?_)))))
    refine s_move (d := (sc (.int .i64 x2))) rfl ?_
    refine s_assign (d := (sc (.int .i64 x2))) rfl (AWops.nil (AW.seq ?_))
    refine AW.weak (st' := ⟨26, (upd 26 (upd 26 (upd 26 (upd 26 (upd 26 topF 0 (D.one (C.p false (.sl a0.length (a0.flatMap e_i64))))) 1 (D.one (C.p false (.sl a1.length (a1.flatMap e_i64))))) 5 (sc (.int .i64 x2))) 12 (sc (.int .i64 (a0.length : Int)))) 13 (sc (.int .i64 x2))), []⟩) (Weak.gen (kk := 0) [] [] hx rfl (by decide) (by decide) rfl rfl rfl (le_upd (le_upd (le_upd (le_upd (le_upd (le_top _) (.t (.one .same))) (.t (.one .same))) (.t (.one .sc))) (.t (.one .sc))) (.t (.one .sc))) an) ?_
    obtain ⟨v4, ev4, h⟩ := bnd h
    obtain ⟨pv4, qv4, gv4⟩ := rd_some ev4
    obtain ⟨v5, ev5, h⟩ := bnd h
    obtain ⟨pv5, qv5, gv5⟩ := rd_some ev5
    refine AW.draw (n := 26) (L := 0) [(0, ⟨some 16, (D.one (C.p false (.sl a0.length (a0.flatMap e_i64)))), [(0, (D.one (C.p false (.sl a0.length (a0.flatMap e_i64)))))], [], [], none⟩), (1, ⟨some 17, (sc (.int .i64 x2)), [(5, (sc (.int .i64 x2)))], [], [], none⟩), (2, ⟨some 18, (D.one (C.peek false [P.v (.int .i64 v4)])), [(16, (D.one (C.p false (.sl a0.length (a0.flatMap e_i64))))), (17, (sc (.int .i64 x2)))], [], [], none⟩), (3, ⟨some 19, (sc (.int .i64 v4)), [(18, (D.one (C.peek false [P.v (.int .i64 v4)])))], [], [], none⟩), (4, ⟨some 20, (D.one (C.p false (.sl a1.length (a1.flatMap e_i64)))), [(1, (D.one (C.p false (.sl a1.length (a1.flatMap e_i64)))))], [], [], none⟩), (5, ⟨some 21, (sc (.int .i64 x2)), [(5, (sc (.int .i64 x2)))], [], [], none⟩), (6, ⟨some 22, (D.one (C.peek false [P.v (.int .i64 v5)])), [(20, (D.one (C.p false (.sl a1.length (a1.flatMap e_i64))))), (21, (sc (.int .i64 x2)))], [], [], none⟩), (7, ⟨some 23, (sc (.int .i64 v5)), [(22, (D.one (C.peek false [P.v (.int .i64 v5)])))], [], [], none⟩), (8, ⟨some 24, (sc (.bool (v4 != v5))), [(19, (sc (.int .i64 v4))), (23, (sc (.int .i64 v5)))], [], [], none⟩)] [[], [], [0, 1], [0, 1, 2], [], [], [4, 5], [4, 5, 6], [0, 1, 2, 3, 4, 5, 6, 7]] (nl rfl) [0, 0, 1, 2, 0, 0, 1, 2, 3] rfl (TK := []) rfl AllK.nil' (fC ⟨(sC rfl AllS.nil'), AllH.nil'⟩ (fC ⟨(sC rfl AllS.nil'), AllH.nil'⟩ (fC ⟨(sC rfl (sC rfl AllS.nil')), AllH.nil'⟩ (fC ⟨(sC rfl AllS.nil'), AllH.nil'⟩ (fC ⟨(sC rfl AllS.nil'), AllH.nil'⟩ (fC ⟨(sC rfl AllS.nil'), AllH.nil'⟩ (fC ⟨(sC rfl (sC rfl AllS.nil')), AllH.nil'⟩ (fC ⟨(sC rfl AllS.nil'), AllH.nil'⟩ (fC ⟨(sC rfl (sC rfl AllS.nil')), AllH.nil'⟩ AllF.nil'))))))))) ?_ ?_
    ·refine (pC ?_ (pC ?_ (pC ?_ (pC ?_ (pC ?_ (pC ?_ (pC ?_ (pC ?_ (pC ?_ AllStep.nil')))))))))
     ·intro K rest fr hv htk k
      show AWops _ x _ _ K ⟨26, (upd 26 fr 0 (D.one (C.p false (.sl a0.length (a0.flatMap e_i64))))), _⟩
      refine s_move (d := (D.one (C.p false (.sl a0.length (a0.flatMap e_i64))))) rfl k
     ·intro K rest fr hv htk k
      show AWops _ x _ _ K ⟨26, (upd 26 fr 5 (sc (.int .i64 x2))), _⟩
      refine s_move (d := (sc (.int .i64 x2))) rfl k
     ·intro K rest fr hv htk k
      show AWops _ x _ _ K ⟨26, (upd 26 (upd 26 fr 17 (sc (.int .i64 x2))) 16 (D.one (C.p false (.sl a0.length (a0.flatMap e_i64))))), []⟩
      refine s_indexImm (ps := [P.v (.int .i64 v4)]) F.u_28 F.sz_3 rfl rfl pv4 qv4 (flat_at e_i64_len gv4 (e_i64_eq v4)) k
     ·intro K rest fr hv htk k
      show AWops _ x _ _ K ⟨26, (upd 26 fr 18 (D.one (C.peek false [P.v (.int .i64 v4)]))), []⟩
      refine s_load1 (c' := (C.p true (.v (.int .i64 v4)))) F.ag_3 rfl rfl k
     ·intro K rest fr hv htk k
      show AWops _ x _ _ K ⟨26, (upd 26 fr 1 (D.one (C.p false (.sl a1.length (a1.flatMap e_i64))))), _⟩
      refine s_move (d := (D.one (C.p false (.sl a1.length (a1.flatMap e_i64))))) rfl k
     ·intro K rest fr hv htk k
      show AWops _ x _ _ K ⟨26, (upd 26 fr 5 (sc (.int .i64 x2))), _⟩
      refine s_move (d := (sc (.int .i64 x2))) rfl k
     ·intro K rest fr hv htk k
      show AWops _ x _ _ K ⟨26, (upd 26 (upd 26 fr 21 (sc (.int .i64 x2))) 20 (D.one (C.p false (.sl a1.length (a1.flatMap e_i64))))), []⟩
      refine s_indexImm (ps := [P.v (.int .i64 v5)]) F.u_28 F.sz_3 rfl rfl pv5 qv5 (flat_at e_i64_len gv5 (e_i64_eq v5)) k
     ·intro K rest fr hv htk k
      show AWops _ x _ _ K ⟨26, (upd 26 fr 22 (D.one (C.peek false [P.v (.int .i64 v5)]))), []⟩
      refine s_load1 (c' := (C.p true (.v (.int .i64 v5)))) F.ag_3 rfl rfl k
     ·intro K rest fr hv htk k
      show AWops _ x _ _ K ⟨26, (upd 26 (upd 26 fr 23 (sc (.int .i64 v5))) 19 (sc (.int .i64 v4))), _⟩
      refine s_binI (v := (.bool (v4 != v5))) rfl rfl rfl k
    ·refine AWops.weak (st' := ⟨26, (upd 26 (upd 26 (upd 26 (upd 26 (upd 26 topF 0 (D.one (C.p false (.sl a0.length (a0.flatMap e_i64))))) 1 (D.one (C.p false (.sl a1.length (a1.flatMap e_i64))))) 12 (sc (.int .i64 (a0.length : Int)))) 13 (sc (.int .i64 x2))) 24 (sc (.bool (v4 != v5)))), []⟩) (Weak.gen (kk := 0) [] [] hx rfl (by decide) (by decide) rfl rfl rfl (le_upd (le_upd (le_upd (le_upd (le_upd (le_top _) (.t (.one .same))) (.t (.one .same))) (.t (.one .sc))) (.t (.one .sc))) (.t (.one .sc))) an) (AWops.nil ?_)
     rcases itH h with ⟨c6, h⟩ | ⟨c6, h⟩
     ·refine AW.cond_yes rfl c6 (AW.seq (AW.region ?_))
      refine s_assign (d := (sc (.bool false))) rfl (AWops.nil (AW.ret ?_))
      obtain rfl := Option.some.inj h
      exact ⟨_, rfl, (Weak.gen (kk := 0) [] [] rfl rfl (by decide) (by decide) rfl rfl rfl (le_upd (le_top _) (.t (.one .sc))) an)⟩
     ·refine AW.cond_no rfl c6 (AW.skip (AW.region ?_))
      refine s_binI (v := (.int .i64 (IntKind.i64.wrap (x2 + 1)))) rfl rfl rfl ?_
      refine s_move (d := (sc (.int .i64 (IntKind.i64.wrap (x2 + 1))))) rfl (AWops.nil ?_)
      exact ⟨_, ⟨26, (upd 26 (upd 26 (upd 26 (upd 26 topF 0 (D.one (C.p false (.sl a0.length (a0.flatMap e_i64))))) 1 (D.one (C.p false (.sl a1.length (a1.flatMap e_i64))))) 12 (sc (.int .i64 (a0.length : Int)))) 13 (sc (.int .i64 (IntKind.i64.wrap (x2 + 1))))), []⟩, by omega, (Weak.gen (kk := 0) [] [] hx rfl (by decide) (by decide) rfl rfl rfl (le_upd (le_upd (le_upd (le_upd (le_top _) (.t (.one .same))) (.t (.one .same))) (.t (.one .sc))) (.t (.one .sc))) an), by omega, IntKind.i64.wrap (x2 + 1), h, rfl⟩
   ·refine AW.cond_no rfl c3 (AW.exit (AW.seq (AW.region ?_)))
    refine s_assign (d := (sc (.bool true))) rfl (AWops.nil (AW.ret ?_))
    obtain rfl := Option.some.inj h
    exact ⟨_, rfl, (Weak.gen (kk := 0) [] [] rfl rfl (by decide) (by decide) rfl rfl rfl (le_upd (le_top _) (.t (.one .sc))) an)⟩
def tree_Same_1.f (k : Nat) (a0 : api_Inst) (a1 : api_Inst) : Option Bool := if (a0.Path.toList == a1.Path.toList) = true then (if (a0.Item.toList == a1.Item.toList) = true then (if (a0.State == a1.State) = true then (if (a0.Before == a1.Before) = true then (if (a0.Due == a1.Due) = true then ((slices_Equal_int_int.f k a0.Latches a1.Latches).bind fun r6 => some r6) else (some false)) else (some false)) else (some false)) else (some false)) else (some false)
theorem tree_Same_1.meets (k : Nat) (a0 : api_Inst) (a1 : api_Inst) (r : Bool) (h : tree_Same_1.f k a0 a1 = some r) : Meets Try.prog 33 [(D.agg (c_api_Inst a0)), (D.agg (c_api_Inst a1))] [] (sc (.bool r)) [] := by
 unfold tree_Same_1.f at h
 refine Meets.of_body (n := 45) Try.func33 rfl rfl (nl rfl) fun x hx => ?_
 replace hx : x.k = 0 := hx
 show AW _ x _ _ ⟨45, fr0 [(D.agg (c_api_Inst a0)), (D.agg (c_api_Inst a1))], []⟩
 refine AW.seq (AW.region ?_)
 refine s_box (cs := (c_api_Inst a0)) rfl (List.cons_ne_nil _ _) rfl ?_
 refine s_box (cs := (c_api_Inst a1)) rfl (List.cons_ne_nil _ _) rfl ?_
 refine s_assign (d := (sc (.bool false))) rfl (AWops.nil (AW.seq (AW.region ?_)))
 refine s_fieldRef F.fo_30_0 (by decide) rfl ?_
 refine s_load1 (c' := (C.p true (.v (.string a0.Path)))) F.ag_9 rfl rfl ?_
 refine s_fieldRef F.fo_30_0 (by decide) rfl ?_
 refine s_load1 (c' := (C.p true (.v (.string a1.Path)))) F.ag_9 rfl rfl ?_
 refine s_binS (v := (.bool (a0.Path.toList == a1.Path.toList))) rfl rfl rfl ?_
 refine s_move (d := (sc (.bool (a0.Path.toList == a1.Path.toList)))) rfl ?_
 rcases itH h with ⟨c1, h⟩ | ⟨c1, h⟩
 ·refine AWops.guard_yes rfl (nl rfl) rfl c1 ?_
  refine s_fieldRef F.fo_30_1 (by decide) rfl ?_
  refine AWops.guard_yes rfl (nl rfl) rfl c1 ?_
  refine s_load1 (c' := (C.p true (.v (.string a0.Item)))) F.ag_9 rfl rfl ?_
  refine AWops.guard_yes rfl (nl rfl) rfl c1 ?_
  refine s_fieldRef F.fo_30_1 (by decide) rfl ?_
  refine AWops.guard_yes rfl (nl rfl) rfl c1 ?_
  refine s_load1 (c' := (C.p true (.v (.string a1.Item)))) F.ag_9 rfl rfl ?_
  refine AWops.guard_yes rfl (nl rfl) rfl c1 ?_
  refine s_binS (v := (.bool (a0.Item.toList == a1.Item.toList))) rfl rfl rfl ?_
  refine s_pick_yes (d := (sc (.bool (a0.Item.toList == a1.Item.toList)))) rfl c1 rfl ?_
  refine s_move (d := (sc (.bool (a0.Item.toList == a1.Item.toList)))) rfl ?_
  rcases itH h with ⟨c2, h⟩ | ⟨c2, h⟩
  ·refine AWops.guard_yes rfl (nl rfl) rfl c2 ?_
   refine s_fieldRef F.fo_30_2 (by decide) rfl ?_
   refine AWops.guard_yes rfl (nl rfl) rfl c2 ?_
   refine s_load1 (c' := (C.p true (.v (.int .i64 a0.State)))) F.ag_3 rfl rfl ?_
   refine AWops.guard_yes rfl (nl rfl) rfl c2 ?_
   refine s_fieldRef F.fo_30_2 (by decide) rfl ?_
   refine AWops.guard_yes rfl (nl rfl) rfl c2 ?_
   refine s_load1 (c' := (C.p true (.v (.int .i64 a1.State)))) F.ag_3 rfl rfl ?_
   refine AWops.guard_yes rfl (nl rfl) rfl c2 ?_
   refine s_binI (v := (.bool (a0.State == a1.State))) rfl rfl rfl ?_
   refine s_pick_yes (d := (sc (.bool (a0.State == a1.State)))) rfl c2 rfl ?_
   refine s_move (d := (sc (.bool (a0.State == a1.State)))) rfl ?_
   rcases itH h with ⟨c3, h⟩ | ⟨c3, h⟩
   ·refine AWops.guard_yes rfl (nl rfl) rfl c3 ?_
    refine s_fieldRef F.fo_30_3 (by decide) rfl ?_
    refine AWops.guard_yes rfl (nl rfl) rfl c3 ?_
    refine s_load1 (c' := (C.p true (.v (.int .i64 a0.Before)))) F.ag_3 rfl rfl ?_
    refine AWops.guard_yes rfl (nl rfl) rfl c3 ?_
    refine s_fieldRef F.fo_30_3 (by decide) rfl ?_
    refine AWops.guard_yes rfl (nl rfl) rfl c3 ?_
    refine s_load1 (c' := (C.p true (.v (.int .i64 a1.Before)))) F.ag_3 rfl rfl ?_
    refine AWops.guard_yes rfl (nl rfl) rfl c3 ?_
    refine s_binI (v := (.bool (a0.Before == a1.Before))) rfl rfl rfl ?_
    refine s_pick_yes (d := (sc (.bool (a0.Before == a1.Before)))) rfl c3 rfl ?_
    refine s_move (d := (sc (.bool (a0.Before == a1.Before)))) rfl ?_
    rcases itH h with ⟨c4, h⟩ | ⟨c4, h⟩
    ·refine AWops.guard_yes rfl (nl rfl) rfl c4 ?_
     refine s_fieldRef F.fo_30_5 (by decide) rfl ?_
     refine AWops.guard_yes rfl (nl rfl) rfl c4 ?_
     refine s_load1 (c' := (C.p true (.v (.int .i64 a0.Due)))) F.ag_3 rfl rfl ?_
     refine AWops.guard_yes rfl (nl rfl) rfl c4 ?_
     refine s_fieldRef F.fo_30_5 (by decide) rfl ?_
     refine AWops.guard_yes rfl (nl rfl) rfl c4 ?_
     refine s_load1 (c' := (C.p true (.v (.int .i64 a1.Due)))) F.ag_3 rfl rfl ?_
     refine AWops.guard_yes rfl (nl rfl) rfl c4 ?_
     refine s_binI (v := (.bool (a0.Due == a1.Due))) rfl rfl rfl ?_
     refine s_pick_yes (d := (sc (.bool (a0.Due == a1.Due)))) rfl c4 rfl ?_
     refine s_move (d := (sc (.bool (a0.Due == a1.Due)))) rfl ?_
     rcases itH h with ⟨c5, h⟩ | ⟨c5, h⟩
     ·refine AWops.guard_yes rfl (nl rfl) rfl c5 ?_
      refine s_fieldRef F.fo_30_4 (by decide) rfl ?_
      refine AWops.guard_yes rfl (nl rfl) rfl c5 ?_
      refine s_load1 (c' := (C.p false (.sl a0.Latches.length (a0.Latches.flatMap e_i64)))) F.ag_28 rfl rfl ?_
      refine AWops.guard_yes rfl (nl rfl) rfl c5 ?_
      refine s_fieldRef F.fo_30_4 (by decide) rfl ?_
      refine AWops.guard_yes rfl (nl rfl) rfl c5 ?_
      refine s_load1 (c' := (C.p false (.sl a1.Latches.length (a1.Latches.flatMap e_i64)))) F.ag_28 rfl rfl ?_
      refine AWops.guard_yes rfl (nl rfl) rfl c5 ?_
      obtain ⟨r6, er6, h⟩ := bnd h
      refine s_call2 (ρ := []) (br := false) (H2 := [(some (AObj.cells true (c_api_Inst a0))), (some (AObj.cells true (c_api_Inst a1)))]) (d := (sc (.bool r6))) F.ca_34 rfl rfl (ac (.one .imm) (ac (.one .imm) an)) an (by decide) rfl (slices_Equal_int_int.meets _ a0.Latches a1.Latches r6 er6) (.inl rfl) rfl rfl ?_
      refine s_pick_yes (d := (sc (.bool r6))) rfl c5 rfl ?_
      refine s_assign (d := (sc (.bool r6))) rfl (AWops.nil (AW.ret ?_))
      obtain rfl := Option.some.inj h
      exact ⟨_, rfl, (Weak.gen (kk := 0) [] [] rfl rfl (by decide) (by decide) rfl rfl rfl (le_upd (le_top _) (.t (.one .sc))) an)⟩
     ·iterate 5 refine AWops.guard_no rfl (nl rfl) rfl c5 ?_
      refine s_pick_no (d := (sc (.bool false))) rfl c5 rfl ?_
      refine s_assign (d := (sc (.bool false))) rfl (AWops.nil (AW.ret ?_))
      obtain rfl := Option.some.inj h
      exact ⟨_, rfl, (Weak.gen (kk := 0) [] [] rfl rfl (by decide) (by decide) rfl rfl rfl (le_upd (le_top _) (.t (.one .sc))) an)⟩
    ·iterate 5 refine AWops.guard_no rfl (nl rfl) rfl c4 ?_
     refine s_pick_no (d := (sc (.bool false))) rfl c4 rfl ?_
     refine s_move (d := (sc (.bool false))) rfl ?_
     iterate 5 refine AWops.guard_no rfl (nl rfl) rfl rfl ?_
     refine s_pick_no (d := (sc (.bool false))) rfl rfl rfl ?_
     refine s_assign (d := (sc (.bool false))) rfl (AWops.nil (AW.ret ?_))
     obtain rfl := Option.some.inj h
     exact ⟨_, rfl, (Weak.gen (kk := 0) [] [] rfl rfl (by decide) (by decide) rfl rfl rfl (le_upd (le_top _) (.t (.one .sc))) an)⟩
   ·iterate 5 refine AWops.guard_no rfl (nl rfl) rfl c3 ?_
    refine s_pick_no (d := (sc (.bool false))) rfl c3 rfl ?_
    refine s_move (d := (sc (.bool false))) rfl ?_
    iterate 5 refine AWops.guard_no rfl (nl rfl) rfl rfl ?_
    refine s_pick_no (d := (sc (.bool false))) rfl rfl rfl ?_
    refine s_move (d := (sc (.bool false))) rfl ?_
    iterate 5 refine AWops.guard_no rfl (nl rfl) rfl rfl ?_
    refine s_pick_no (d := (sc (.bool false))) rfl rfl rfl ?_
    refine s_assign (d := (sc (.bool false))) rfl (AWops.nil (AW.ret ?_))
    obtain rfl := Option.some.inj h
    exact ⟨_, rfl, (Weak.gen (kk := 0) [] [] rfl rfl (by decide) (by decide) rfl rfl rfl (le_upd (le_top _) (.t (.one .sc))) an)⟩
  ·iterate 5 refine AWops.guard_no rfl (nl rfl) rfl c2 ?_
   refine s_pick_no (d := (sc (.bool false))) rfl c2 rfl ?_
   refine s_move (d := (sc (.bool false))) rfl ?_
   iterate 5 refine AWops.guard_no rfl (nl rfl) rfl rfl ?_
   refine s_pick_no (d := (sc (.bool false))) rfl rfl rfl ?_
   refine s_move (d := (sc (.bool false))) rfl ?_
   iterate 5 refine AWops.guard_no rfl (nl rfl) rfl rfl ?_
   refine s_pick_no (d := (sc (.bool false))) rfl rfl rfl ?_
   refine s_move (d := (sc (.bool false))) rfl ?_
   iterate 5 refine AWops.guard_no rfl (nl rfl) rfl rfl ?_
   refine s_pick_no (d := (sc (.bool false))) rfl rfl rfl ?_
   refine s_assign (d := (sc (.bool false))) rfl (AWops.nil (AW.ret ?_))
   obtain rfl := Option.some.inj h
   exact ⟨_, rfl, (Weak.gen (kk := 0) [] [] rfl rfl (by decide) (by decide) rfl rfl rfl (le_upd (le_top _) (.t (.one .sc))) an)⟩
 ·iterate 5 refine AWops.guard_no rfl (nl rfl) rfl c1 ?_
  refine s_pick_no (d := (sc (.bool false))) rfl c1 rfl ?_
  refine s_move (d := (sc (.bool false))) rfl ?_
  iterate 5 refine AWops.guard_no rfl (nl rfl) rfl rfl ?_
  refine s_pick_no (d := (sc (.bool false))) rfl rfl rfl ?_
  refine s_move (d := (sc (.bool false))) rfl ?_
  iterate 5 refine AWops.guard_no rfl (nl rfl) rfl rfl ?_
  refine s_pick_no (d := (sc (.bool false))) rfl rfl rfl ?_
  refine s_move (d := (sc (.bool false))) rfl ?_
  iterate 5 refine AWops.guard_no rfl (nl rfl) rfl rfl ?_
  refine s_pick_no (d := (sc (.bool false))) rfl rfl rfl ?_
  refine s_move (d := (sc (.bool false))) rfl ?_
  iterate 5 refine AWops.guard_no rfl (nl rfl) rfl rfl ?_
  refine s_pick_no (d := (sc (.bool false))) rfl rfl rfl ?_
  refine s_assign (d := (sc (.bool false))) rfl (AWops.nil (AW.ret ?_))
  obtain rfl := Option.some.inj h
  exact ⟨_, rfl, (Weak.gen (kk := 0) [] [] rfl rfl (by decide) (by decide) rfl rfl rfl (le_upd (le_top _) (.t (.one .sc))) an)⟩
mutual
def slices_EqualFunc_api_Inst_api_Inst_api_Inst_api_Inst_24.l0 : Nat → Int → (List api_Inst) → (List api_Inst) → Option Bool
 | 0, _, _, _ => none
 | k + 1, x2, a0, a1 => if (decide (x2 < (a0.length : Int))) = true then ((rd a0 x2).bind fun v4 => (rd a1 x2).bind fun v5 => (tree_Same_1.f k v4 v5).bind fun r6 => if r6 = true then (slices_EqualFunc_api_Inst_api_Inst_api_Inst_api_Inst_24.l0 k (IntKind.i64.wrap (x2 + 1)) a0 a1) else (some false)) else (some true)
end
def slices_EqualFunc_api_Inst_api_Inst_api_Inst_api_Inst_24.f (k : Nat) (a0 : List api_Inst) (a1 : List api_Inst) : Option Bool := if ((a0.length : Int) != (a1.length : Int)) = true then (some false) else (slices_EqualFunc_api_Inst_api_Inst_api_Inst_api_Inst_24.l0 k 0 a0 a1)
theorem slices_EqualFunc_api_Inst_api_Inst_api_Inst_api_Inst_24.meets (k : Nat) (a0 : List api_Inst) (a1 : List api_Inst) (r : Bool) (h : slices_EqualFunc_api_Inst_api_Inst_api_Inst_api_Inst_24.f k a0 a1 = some r) : Meets Try.prog 24 [(D.one (C.p false (.sl a0.length (a0.flatMap e_api_Inst)))), (D.one (C.p false (.sl a1.length (a1.flatMap e_api_Inst)))), (D.one (C.clo 33 []))] [] (sc (.bool r)) [] := by
 unfold slices_EqualFunc_api_Inst_api_Inst_api_Inst_api_Inst_24.f at h
 refine Meets.of_body (n := 32) Try.func24 rfl rfl (nl rfl) fun x hx => ?_
 replace hx : x.k = 0 := hx
 show AW _ x _ _ ⟨32, fr0 [(D.one (C.p false (.sl a0.length (a0.flatMap e_api_Inst)))), (D.one (C.p false (.sl a1.length (a1.flatMap e_api_Inst)))), (D.one (C.clo 33 []))], []⟩
 refine AW.seq (AW.region ?_)
 refine s_assign (d := (sc (.bool false))) rfl (AWops.nil (AW.seq (AW.seq (AW.region ?_))))
 refine s_move (d := (D.one (C.p false (.sl a0.length (a0.flatMap e_api_Inst))))) rfl ?_
 refine s_len (n := a0.length) F.u_22 rfl (.inr ⟨(fun _ _ h => by cases h), ⟨_, rfl⟩⟩) ?_
 refine s_move (d := (D.one (C.p false (.sl a1.length (a1.flatMap e_api_Inst))))) rfl ?_
 refine s_len (n := a1.length) F.u_22 rfl (.inr ⟨(fun _ _ h => by cases h), ⟨_, rfl⟩⟩) ?_
 refine s_binI (v := (.bool ((a0.length : Int) != (a1.length : Int)))) rfl rfl rfl (AWops.nil ?_)
 rcases itH h with ⟨c1, h⟩ | ⟨c1, h⟩
 ·refine AW.cond_yes rfl c1 (AW.seq (AW.region ?_))
  refine s_assign (d := (sc (.bool false))) rfl (AWops.nil (AW.ret ?_))
  obtain rfl := Option.some.inj h
  exact ⟨_, rfl, (Weak.gen (kk := 0) [] [] rfl rfl (by decide) (by decide) rfl rfl rfl (le_upd (le_top _) (.t (.one .sc))) an)⟩
 ·refine AW.cond_no rfl c1 (AW.skip (AW.seq (AW.seq (AW.region ?_))))
  refine s_move (d := (D.one (C.p false (.sl a0.length (a0.flatMap e_api_Inst))))) rfl ?_
  refine s_len (n := a0.length) F.u_22 rfl (.inr ⟨(fun _ _ h => by cases h), ⟨_, rfl⟩⟩) ?_
  refine s_move (d := (sc (.int .i64 0))) rfl (AWops.nil (AW.block ?_))
  refine AW.loopw (st0 := ⟨32, (upd 32 (upd 32 (upd 32 (upd 32 (upd 32 topF 1 (D.one (C.p false (.sl a1.length (a1.flatMap e_api_Inst))))) 2 (D.one (C.clo 33 []))) 15 (D.one (C.p false (.sl a0.length (a0.flatMap e_api_Inst))))) 16 (sc (.int .i64 (a0.length : Int)))) 17 (sc (.int .i64 0))), []⟩) (fun kv st => kv ≤ k ∧ ∃ (x2 : Int), slices_EqualFunc_api_Inst_api_Inst_api_Inst_api_Inst_24.l0 kv x2 a0 a1 = some r ∧ st = ⟨32, (upd 32 (upd 32 (upd 32 (upd 32 (upd 32 topF 1 (D.one (C.p false (.sl a1.length (a1.flatMap e_api_Inst))))) 2 (D.one (C.clo 33 []))) 15 (D.one (C.p false (.sl a0.length (a0.flatMap e_api_Inst))))) 16 (sc (.int .i64 (a0.length : Int)))) 17 (sc (.int .i64 x2))), []⟩) (k := k) (Weak.gen (kk := 0) [] [] hx rfl (by decide) (by decide) rfl rfl rfl (le_upd (le_upd (le_upd (le_upd (le_upd (le_top _) (.t (.one .same))) (.t (.one (CLe.cloL an)))) (.t (.one .same))) (.t (.one .sc))) (.t (.one .sc))) an) ⟨Nat.le_refl _, 0, h, rfl⟩ ?_
  rintro ql0 st ⟨hkl0, x2, h, rfl⟩
  cases ql0 with
  | zero => exact absurd h (by simp [slices_EqualFunc_api_Inst_api_Inst_api_Inst_api_Inst_24.l0])
  | succ ql0 =>
   replace h := (slices_EqualFunc_api_Inst_api_Inst_api_Inst_api_Inst_24.l0.eq_2 _ _ _ _).symm.trans h
   refine AW.seq (AW.region ?_)
   refine s_binI (v := (.bool (decide (x2 < (a0.length : Int))))) rfl rfl rfl (AWops.nil (AW.seq ?_))
   rcases itH h with ⟨c3, h⟩ | ⟨c3, h⟩
   ·refine AW.cond_yes rfl c3 (AW.skip (AW.seq (AW.block (AW.seq (AW.region ?_)))))
    refine s_move (d := (sc (.int .i64 x2))) rfl ?_
    obtain ⟨v4, ev4, h⟩ := bnd h
    obtain ⟨pv4, qv4, gv4⟩ := rd_some ev4
    refine s_indexImm (ps := (p_api_Inst v4)) F.u_22 F.sz_30 rfl rfl pv4 qv4 (flat_at e_api_Inst_len gv4 (e_api_Inst_eq v4)) ?_
    refine s_loadN (ds := (c_api_Inst v4)) F.ag_30 F.sz_30 rfl rfl rfl ?_
    refine s_alloc (cs := [(C.p true (.v (.string (⟨#[]⟩ : ByteArray)))), (C.p true (.v (.string (⟨#[]⟩ : ByteArray)))), (C.p true (.v (.int .i64 0))), (C.p true (.v (.int .i64 0))), (C.p true (.v (.slice none 0 0))), (C.p true (.v (.int .i64 0)))]) F.z_30 rfl rfl ?_
    refine s_assign (d := (sc (.int .i64 x2))) rfl ?_
    refine s_store (cs' := (c_api_Inst v4)) rfl rfl rfl (List.cons_ne_nil _ _) rfl F.sz_30 (nl rfl) rfl (AWops.nil (AW.seq (AW.region ?_)))
    refine s_move (d := (D.one (C.p false (.sl a1.length (a1.flatMap e_api_Inst))))) rfl ?_
    refine s_move (d := (sc (.int .i64 x2))) rfl ?_
    obtain ⟨v5, ev5, h⟩ := bnd h
    obtain ⟨pv5, qv5, gv5⟩ := rd_some ev5
    refine s_indexImm (ps := (p_api_Inst v5)) F.u_22 F.sz_30 rfl rfl pv5 qv5 (flat_at e_api_Inst_len gv5 (e_api_Inst_eq v5)) ?_
    refine s_loadN (ds := (c_api_Inst v5)) F.ag_30 F.sz_30 rfl rfl rfl ?_
    refine s_alloc (cs := [(C.p true (.v (.string (⟨#[]⟩ : ByteArray)))), (C.p true (.v (.string (⟨#[]⟩ : ByteArray)))), (C.p true (.v (.int .i64 0))), (C.p true (.v (.int .i64 0))), (C.p true (.v (.slice none 0 0))), (C.p true (.v (.int .i64 0)))]) F.z_30 rfl rfl ?_
    refine s_store (cs' := (c_api_Inst v5)) rfl rfl rfl (List.cons_ne_nil _ _) rfl F.sz_30 (nl rfl) rfl (AWops.nil (AW.seq (AW.region ?_)))
    refine s_move (d := (D.one (C.clo 33 []))) rfl ?_
    refine s_loadN (ds := (c_api_Inst v4)) F.ag_30 F.sz_30 rfl rfl rfl ?_
    refine s_loadN (ds := (c_api_Inst v5)) F.ag_30 F.sz_30 rfl rfl rfl ?_
    obtain ⟨r6, er6, h⟩ := bnd h
    refine s_call2 (ρ := []) (br := false) (H2 := [(some (AObj.cells true (c_api_Inst v4))), (some (AObj.cells true (c_api_Inst v5)))]) (d := (sc (.bool r6))) F.ca_33 rfl rfl (ac (LendT.aggL (ac .sc (ac .sc (ac .sc (ac .sc (ac .imm (ac .sc an))))))) (ac (LendT.aggL (ac .sc (ac .sc (ac .sc (ac .sc (ac .imm (ac .sc an))))))) an)) an (by decide) rfl (tree_Same_1.meets _ v4 v5 r6 er6) (.inl rfl) rfl rfl ?_
    refine s_not rfl (AWops.nil ?_)
    rcases itH h with ⟨c7, h⟩ | ⟨c7, h⟩
    ·refine AW.cond_no rfl (by rw [c7] <;> rfl) (AW.skip (AW.region ?_))
     refine s_binI (v := (.int .i64 (IntKind.i64.wrap (x2 + 1)))) rfl rfl rfl ?_
     refine s_move (d := (sc (.int .i64 (IntKind.i64.wrap (x2 + 1))))) rfl (AWops.nil ?_)
     exact ⟨_, ⟨32, (upd 32 (upd 32 (upd 32 (upd 32 (upd 32 topF 1 (D.one (C.p false (.sl a1.length (a1.flatMap e_api_Inst))))) 2 (D.one (C.clo 33 []))) 15 (D.one (C.p false (.sl a0.length (a0.flatMap e_api_Inst))))) 16 (sc (.int .i64 (a0.length : Int)))) 17 (sc (.int .i64 (IntKind.i64.wrap (x2 + 1))))), []⟩, by omega, (Weak.gen (kk := 0) [] [] hx rfl (by decide) (by decide) rfl rfl rfl (le_upd (le_upd (le_upd (le_upd (le_upd (le_top _) (.t (.one .same))) (.t (.one (CLe.cloL an)))) (.t (.one .same))) (.t (.one .sc))) (.t (.one .sc))) an), by omega, IntKind.i64.wrap (x2 + 1), h, rfl⟩
    ·refine AW.cond_yes rfl (by rw [c7] <;> rfl) (AW.seq (AW.region ?_))
     refine s_assign (d := (sc (.bool false))) rfl (AWops.nil (AW.ret ?_))
     obtain rfl := Option.some.inj h
     exact ⟨_, rfl, (Weak.gen (kk := 0) [] [] rfl rfl (by decide) (by decide) rfl rfl rfl (le_upd (le_top _) (.t (.one .sc))) an)⟩
   ·refine AW.cond_no rfl c3 (AW.exit (AW.seq (AW.region ?_)))
    refine s_assign (d := (sc (.bool true))) rfl (AWops.nil (AW.ret ?_))
    obtain rfl := Option.some.inj h
    exact ⟨_, rfl, (Weak.gen (kk := 0) [] [] rfl rfl (by decide) (by decide) rfl rfl rfl (le_upd (le_top _) (.t (.one .sc))) an)⟩
mutual
def slices_Equal_string_string.l0 : Nat → Int → (List ByteArray) → (List ByteArray) → Option Bool
 | 0, _, _, _ => none
 | k + 1, x2, a0, a1 => if (decide (x2 < (a0.length : Int))) = true then ((rd a0 x2).bind fun v4 => (rd a1 x2).bind fun v5 => if (v4.toList == v5.toList) = true then (slices_Equal_string_string.l0 k (IntKind.i64.wrap (x2 + 1)) a0 a1) else (some false)) else (some true)
end
def slices_Equal_string_string.f (k : Nat) (a0 : List ByteArray) (a1 : List ByteArray) : Option Bool := if ((a0.length : Int) != (a1.length : Int)) = true then (some false) else (slices_Equal_string_string.l0 k 0 a0 a1)
theorem slices_Equal_string_string.meets (k : Nat) (a0 : List ByteArray) (a1 : List ByteArray) (r : Bool) (h : slices_Equal_string_string.f k a0 a1 = some r) : Meets Try.prog 37 [(D.one (C.p false (.sl a0.length (a0.flatMap e_str)))), (D.one (C.p false (.sl a1.length (a1.flatMap e_str))))] [] (sc (.bool r)) [] := by
 unfold slices_Equal_string_string.f at h
 refine Meets.of_body (n := 26) Try.func37 rfl rfl (nl rfl) fun x hx => ?_
 replace hx : x.k = 0 := hx
 show AW _ x _ _ ⟨26, fr0 [(D.one (C.p false (.sl a0.length (a0.flatMap e_str)))), (D.one (C.p false (.sl a1.length (a1.flatMap e_str))))], []⟩
 refine AW.seq (AW.region ?_)
 refine s_assign (d := (sc (.bool false))) rfl (AWops.nil (AW.seq (AW.seq (AW.region ?_))))
 refine s_move (d := (D.one (C.p false (.sl a0.length (a0.flatMap e_str))))) rfl ?_
 refine s_len (n := a0.length) F.u_42 rfl (.inr ⟨(fun _ _ h => by cases h), ⟨_, rfl⟩⟩) ?_
 refine s_move (d := (D.one (C.p false (.sl a1.length (a1.flatMap e_str))))) rfl ?_
 refine s_len (n := a1.length) F.u_42 rfl (.inr ⟨(fun _ _ h => by cases h), ⟨_, rfl⟩⟩) ?_
 refine s_binI (v := (.bool ((a0.length : Int) != (a1.length : Int)))) rfl rfl rfl (AWops.nil ?_)
 rcases itH h with ⟨c1, h⟩ | ⟨c1, h⟩
 ·refine AW.cond_yes rfl c1 (AW.seq (AW.region ?_))
  refine s_assign (d := (sc (.bool false))) rfl (AWops.nil (AW.ret ?_))
  obtain rfl := Option.some.inj h
  exact ⟨_, rfl, (Weak.gen (kk := 0) [] [] rfl rfl (by decide) (by decide) rfl rfl rfl (le_upd (le_top _) (.t (.one .sc))) an)⟩
 ·refine AW.cond_no rfl c1 (AW.skip (AW.seq (AW.seq (AW.region ?_))))
  refine s_move (d := (D.one (C.p false (.sl a0.length (a0.flatMap e_str))))) rfl ?_
  refine s_len (n := a0.length) F.u_42 rfl (.inr ⟨(fun _ _ h => by cases h), ⟨_, rfl⟩⟩) ?_
  refine s_move (d := (sc (.int .i64 0))) rfl (AWops.nil (AW.block ?_))
  refine AW.loopw (st0 := ⟨26, (upd 26 (upd 26 (upd 26 (upd 26 topF 0 (D.one (C.p false (.sl a0.length (a0.flatMap e_str))))) 1 (D.one (C.p false (.sl a1.length (a1.flatMap e_str))))) 12 (sc (.int .i64 (a0.length : Int)))) 13 (sc (.int .i64 0))), []⟩) (fun kv st => kv ≤ k ∧ ∃ (x2 : Int), slices_Equal_string_string.l0 kv x2 a0 a1 = some r ∧ st = ⟨26, (upd 26 (upd 26 (upd 26 (upd 26 topF 0 (D.one (C.p false (.sl a0.length (a0.flatMap e_str))))) 1 (D.one (C.p false (.sl a1.length (a1.flatMap e_str))))) 12 (sc (.int .i64 (a0.length : Int)))) 13 (sc (.int .i64 x2))), []⟩) (k := k) (Weak.gen (kk := 0) [] [] hx rfl (by decide) (by decide) rfl rfl rfl (le_upd (le_upd (le_upd (le_upd (le_top _) (.t (.one .same))) (.t (.one .same))) (.t (.one .sc))) (.t (.one .sc))) an) ⟨Nat.le_refl _, 0, h, rfl⟩ ?_
  rintro ql0 st ⟨hkl0, x2, h, rfl⟩
  cases ql0 with
  | zero => exact absurd h (by simp [slices_Equal_string_string.l0])
  | succ ql0 =>
   replace h := (slices_Equal_string_string.l0.eq_2 _ _ _ _).symm.trans h
   refine AW.seq (AW.region ?_)
   refine s_binI (v := (.bool (decide (x2 < (a0.length : Int))))) rfl rfl rfl (AWops.nil (AW.seq ?_))
   rcases itH h with ⟨c3, h⟩ | ⟨c3, h⟩
   ·refine AW.cond_yes rfl c3 (AW.skip (AW.seq (AW.block (AW.seq (AW.region ?_)))))
    refine s_move (d := (sc (.int .i64 x2))) rfl ?_
    refine s_assign (d := (sc (.int .i64 x2))) rfl (AWops.nil (AW.seq ?_))
    refine AW.weak (st' := ⟨26, (upd 26 (upd 26 (upd 26 (upd 26 (upd 26 topF 0 (D.one (C.p false (.sl a0.length (a0.flatMap e_str))))) 1 (D.one (C.p false (.sl a1.length (a1.flatMap e_str))))) 5 (sc (.int .i64 x2))) 12 (sc (.int .i64 (a0.length : Int)))) 13 (sc (.int .i64 x2))), []⟩) (Weak.gen (kk := 0) [] [] hx rfl (by decide) (by decide) rfl rfl rfl (le_upd (le_upd (le_upd (le_upd (le_upd (le_top _) (.t (.one .same))) (.t (.one .same))) (.t (.one .sc))) (.t (.one .sc))) (.t (.one .sc))) an) ?_
    obtain ⟨v4, ev4, h⟩ := bnd h
    obtain ⟨pv4, qv4, gv4⟩ := rd_some ev4
    obtain ⟨v5, ev5, h⟩ := bnd h
    obtain ⟨pv5, qv5, gv5⟩ := rd_some ev5
    refine AW.draw (n := 26) (L := 0) [(0, ⟨some 16, (D.one (C.p false (.sl a0.length (a0.flatMap e_str)))), [(0, (D.one (C.p false (.sl a0.length (a0.flatMap e_str)))))], [], [], none⟩), (1, ⟨some 17, (sc (.int .i64 x2)), [(5, (sc (.int .i64 x2)))], [], [], none⟩), (2, ⟨some 18, (D.one (C.peek false [P.v (.string v4)])), [(16, (D.one (C.p false (.sl a0.length (a0.flatMap e_str))))), (17, (sc (.int .i64 x2)))], [], [], none⟩), (3, ⟨some 19, (sc (.string v4)), [(18, (D.one (C.peek false [P.v (.string v4)])))], [], [], none⟩), (4, ⟨some 20, (D.one (C.p false (.sl a1.length (a1.flatMap e_str)))), [(1, (D.one (C.p false (.sl a1.length (a1.flatMap e_str)))))], [], [], none⟩), (5, ⟨some 21, (sc (.int .i64 x2)), [(5, (sc (.int .i64 x2)))], [], [], none⟩), (6, ⟨some 22, (D.one (C.peek false [P.v (.string v5)])), [(20, (D.one (C.p false (.sl a1.length (a1.flatMap e_str))))), (21, (sc (.int .i64 x2)))], [], [], none⟩), (7, ⟨some 23, (sc (.string v5)), [(22, (D.one (C.peek false [P.v (.string v5)])))], [], [], none⟩), (8, ⟨some 24, (sc (.bool (!(v4.toList == v5.toList)))), [(19, (sc (.string v4))), (23, (sc (.string v5)))], [], [], none⟩)] [[], [], [0, 1], [0, 1, 2], [], [], [4, 5], [4, 5, 6], [0, 1, 2, 3, 4, 5, 6, 7]] (nl rfl) [0, 0, 1, 2, 0, 0, 1, 2, 3] rfl (TK := []) rfl AllK.nil' (fC ⟨(sC rfl AllS.nil'), AllH.nil'⟩ (fC ⟨(sC rfl AllS.nil'), AllH.nil'⟩ (fC ⟨(sC rfl (sC rfl AllS.nil')), AllH.nil'⟩ (fC ⟨(sC rfl AllS.nil'), AllH.nil'⟩ (fC ⟨(sC rfl AllS.nil'), AllH.nil'⟩ (fC ⟨(sC rfl AllS.nil'), AllH.nil'⟩ (fC ⟨(sC rfl (sC rfl AllS.nil')), AllH.nil'⟩ (fC ⟨(sC rfl AllS.nil'), AllH.nil'⟩ (fC ⟨(sC rfl (sC rfl AllS.nil')), AllH.nil'⟩ AllF.nil'))))))))) ?_ ?_
    ·refine (pC ?_ (pC ?_ (pC ?_ (pC ?_ (pC ?_ (pC ?_ (pC ?_ (pC ?_ (pC ?_ AllStep.nil')))))))))
     ·intro K rest fr hv htk k
      show AWops _ x _ _ K ⟨26, (upd 26 fr 0 (D.one (C.p false (.sl a0.length (a0.flatMap e_str))))), _⟩
      refine s_move (d := (D.one (C.p false (.sl a0.length (a0.flatMap e_str))))) rfl k
     ·intro K rest fr hv htk k
      show AWops _ x _ _ K ⟨26, (upd 26 fr 5 (sc (.int .i64 x2))), _⟩
      refine s_move (d := (sc (.int .i64 x2))) rfl k
     ·intro K rest fr hv htk k
      show AWops _ x _ _ K ⟨26, (upd 26 (upd 26 fr 17 (sc (.int .i64 x2))) 16 (D.one (C.p false (.sl a0.length (a0.flatMap e_str))))), []⟩
      refine s_indexImm (ps := [P.v (.string v4)]) F.u_42 F.sz_9 rfl rfl pv4 qv4 (flat_at e_str_len gv4 (e_str_eq v4)) k
     ·intro K rest fr hv htk k
      show AWops _ x _ _ K ⟨26, (upd 26 fr 18 (D.one (C.peek false [P.v (.string v4)]))), []⟩
      refine s_load1 (c' := (C.p true (.v (.string v4)))) F.ag_9 rfl rfl k
     ·intro K rest fr hv htk k
      show AWops _ x _ _ K ⟨26, (upd 26 fr 1 (D.one (C.p false (.sl a1.length (a1.flatMap e_str))))), _⟩
      refine s_move (d := (D.one (C.p false (.sl a1.length (a1.flatMap e_str))))) rfl k
     ·intro K rest fr hv htk k
      show AWops _ x _ _ K ⟨26, (upd 26 fr 5 (sc (.int .i64 x2))), _⟩
      refine s_move (d := (sc (.int .i64 x2))) rfl k
     ·intro K rest fr hv htk k
      show AWops _ x _ _ K ⟨26, (upd 26 (upd 26 fr 21 (sc (.int .i64 x2))) 20 (D.one (C.p false (.sl a1.length (a1.flatMap e_str))))), []⟩
      refine s_indexImm (ps := [P.v (.string v5)]) F.u_42 F.sz_9 rfl rfl pv5 qv5 (flat_at e_str_len gv5 (e_str_eq v5)) k
     ·intro K rest fr hv htk k
      show AWops _ x _ _ K ⟨26, (upd 26 fr 22 (D.one (C.peek false [P.v (.string v5)]))), []⟩
      refine s_load1 (c' := (C.p true (.v (.string v5)))) F.ag_9 rfl rfl k
     ·intro K rest fr hv htk k
      show AWops _ x _ _ K ⟨26, (upd 26 (upd 26 fr 23 (sc (.string v5))) 19 (sc (.string v4))), []⟩
      refine s_binS (v := (.bool (!(v4.toList == v5.toList)))) rfl rfl rfl k
    ·refine AWops.weak (st' := ⟨26, (upd 26 (upd 26 (upd 26 (upd 26 (upd 26 topF 0 (D.one (C.p false (.sl a0.length (a0.flatMap e_str))))) 1 (D.one (C.p false (.sl a1.length (a1.flatMap e_str))))) 12 (sc (.int .i64 (a0.length : Int)))) 13 (sc (.int .i64 x2))) 24 (sc (.bool (!(v4.toList == v5.toList))))), []⟩) (Weak.gen (kk := 0) [] [] hx rfl (by decide) (by decide) rfl rfl rfl (le_upd (le_upd (le_upd (le_upd (le_upd (le_top _) (.t (.one .same))) (.t (.one .same))) (.t (.one .sc))) (.t (.one .sc))) (.t (.one .sc))) an) (AWops.nil ?_)
     rcases itH h with ⟨c6, h⟩ | ⟨c6, h⟩
     ·refine AW.cond_no rfl (by rw [c6] <;> rfl) (AW.skip (AW.region ?_))
      refine s_binI (v := (.int .i64 (IntKind.i64.wrap (x2 + 1)))) rfl rfl rfl ?_
      refine s_move (d := (sc (.int .i64 (IntKind.i64.wrap (x2 + 1))))) rfl (AWops.nil ?_)
      exact ⟨_, ⟨26, (upd 26 (upd 26 (upd 26 (upd 26 topF 0 (D.one (C.p false (.sl a0.length (a0.flatMap e_str))))) 1 (D.one (C.p false (.sl a1.length (a1.flatMap e_str))))) 12 (sc (.int .i64 (a0.length : Int)))) 13 (sc (.int .i64 (IntKind.i64.wrap (x2 + 1))))), []⟩, by omega, (Weak.gen (kk := 0) [] [] hx rfl (by decide) (by decide) rfl rfl rfl (le_upd (le_upd (le_upd (le_upd (le_top _) (.t (.one .same))) (.t (.one .same))) (.t (.one .sc))) (.t (.one .sc))) an), by omega, IntKind.i64.wrap (x2 + 1), h, rfl⟩
     ·refine AW.cond_yes rfl (by rw [c6] <;> rfl) (AW.seq (AW.region ?_))
      refine s_assign (d := (sc (.bool false))) rfl (AWops.nil (AW.ret ?_))
      obtain rfl := Option.some.inj h
      exact ⟨_, rfl, (Weak.gen (kk := 0) [] [] rfl rfl (by decide) (by decide) rfl rfl rfl (le_upd (le_top _) (.t (.one .sc))) an)⟩
   ·refine AW.cond_no rfl c3 (AW.exit (AW.seq (AW.region ?_)))
    refine s_assign (d := (sc (.bool true))) rfl (AWops.nil (AW.ret ?_))
    obtain rfl := Option.some.inj h
    exact ⟨_, rfl, (Weak.gen (kk := 0) [] [] rfl rfl (by decide) (by decide) rfl rfl rfl (le_upd (le_top _) (.t (.one .sc))) an)⟩
end Go.Abs.GenG
