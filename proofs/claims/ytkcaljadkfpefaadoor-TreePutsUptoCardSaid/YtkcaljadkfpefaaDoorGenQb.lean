import Derived.Test.YtkcaljadkfpefaaDoorGenQa
set_option linter.unusedVariables false
set_option linter.unusedSimpArgs false
set_option maxRecDepth 100000
set_option maxHeartbeats 4000000
namespace Go.Abs.GenQ
open Go.Abs Go.Proofs
mutual
def chars_Number.j2 : Nat → Int → Int → ByteArray → Int → Option (Int × Int)
 | 0, _, _, _, _ => none
 | k + 1, x18, v2, x5, x10 => if (decide ((x5.size : Int) > 19)) = true then (some (0, 4)) else (if (decide (x10 > x18)) = true then (some (0, 4)) else (if (v2 == 45) = true then (some (IntKind.i64.wrap (0 - (IntKind.i64.wrap x10)), 0)) else (some (IntKind.i64.wrap x10, 0))))
def chars_Number.l1 : Nat → Int → Int → Int → ByteArray → Option (Int × Int)
 | 0, _, _, _, _ => none
 | k + 1, x10, x11, v2, x5 => if (decide (x11 < ((bytesI x5).length : Int))) = true then ((rd (bytesI x5) x11).bind fun v13 => if (decide (v13 < 48)) = true then (some (0, 5)) else (if (decide (v13 > 57)) = true then (some (0, 5)) else (if (decide ((x5.size : Int) > 19)) = true then (chars_Number.l1 k x10 (IntKind.i64.wrap (x11 + 1)) v2 x5) else (chars_Number.l1 k (IntKind.u64.wrap ((IntKind.u64.wrap (10 * x10)) + (IntKind.u64.wrap (IntKind.u8.wrap (v13 - 48))))) (IntKind.i64.wrap (x11 + 1)) v2 x5)))) else (if (v2 == 45) = true then (chars_Number.j2 k 9223372036854775808 v2 x5 x10) else (chars_Number.j2 k 9223372036854775807 v2 x5 x10))
def chars_Number.j4 : Nat → Int → Int → ByteArray → Int → Option (Int × Int)
 | 0, _, _, _, _ => none
 | k + 1, x30, v2, x5, x22 => if (decide ((x5.size : Int) > 19)) = true then (some (0, 4)) else (if (decide (x22 > x30)) = true then (some (0, 4)) else (if (v2 == 45) = true then (some (IntKind.i64.wrap (0 - (IntKind.i64.wrap x22)), 0)) else (some (IntKind.i64.wrap x22, 0))))
def chars_Number.l3 : Nat → Int → Int → Int → ByteArray → Option (Int × Int)
 | 0, _, _, _, _ => none
 | k + 1, x22, x23, v2, x5 => if (decide (x23 < ((bytesI x5).length : Int))) = true then ((rd (bytesI x5) x23).bind fun v25 => if (decide (v25 < 48)) = true then (some (0, 5)) else (if (decide (v25 > 57)) = true then (some (0, 5)) else (if (decide ((x5.size : Int) > 19)) = true then (chars_Number.l3 k x22 (IntKind.i64.wrap (x23 + 1)) v2 x5) else (chars_Number.l3 k (IntKind.u64.wrap ((IntKind.u64.wrap (10 * x22)) + (IntKind.u64.wrap (IntKind.u8.wrap (v25 - 48))))) (IntKind.i64.wrap (x23 + 1)) v2 x5)))) else (if (v2 == 45) = true then (chars_Number.j4 k 9223372036854775808 v2 x5 x22) else (chars_Number.j4 k 9223372036854775807 v2 x5 x22))
def chars_Number.j0 : Nat → ByteArray → ByteArray → Int → Option (Int × Int)
 | 0, _, _, _ => none
 | k + 1, x5, a0, v2 => if (x5.toList == (⟨#[]⟩ : ByteArray).toList) = true then (some (0, 5)) else ((bt x5 0).bind fun v7 => if (v7 == 48) = true then (if (decide ((a0.size : Int) > 1)) = true then (some (0, 5)) else (chars_Number.l1 k 0 0 v2 x5)) else (chars_Number.l3 k 0 0 v2 x5))
def chars_Number.l5 : Nat → Int → Int → ByteArray → Option (Int × Int)
 | 0, _, _, _ => none
 | k + 1, x38, x39, a0 => if (decide (x39 < ((bytesI a0).length : Int))) = true then ((rd (bytesI a0) x39).bind fun v41 => if (decide (v41 < 48)) = true then (some (0, 5)) else (if (decide (v41 > 57)) = true then (some (0, 5)) else (if (decide ((a0.size : Int) > 19)) = true then (chars_Number.l5 k x38 (IntKind.i64.wrap (x39 + 1)) a0) else (chars_Number.l5 k (IntKind.u64.wrap ((IntKind.u64.wrap (10 * x38)) + (IntKind.u64.wrap (IntKind.u8.wrap (v41 - 48))))) (IntKind.i64.wrap (x39 + 1)) a0)))) else (if (decide ((a0.size : Int) > 19)) = true then (some (0, 4)) else (if (decide (x38 > 9223372036854775807)) = true then (some (0, 4)) else (some (IntKind.i64.wrap x38, 0))))
def chars_Number.l6 : Nat → Int → Int → ByteArray → Option (Int × Int)
 | 0, _, _, _ => none
 | k + 1, x47, x48, a0 => if (decide (x48 < ((bytesI a0).length : Int))) = true then ((rd (bytesI a0) x48).bind fun v50 => if (decide (v50 < 48)) = true then (some (0, 5)) else (if (decide (v50 > 57)) = true then (some (0, 5)) else (if (decide ((a0.size : Int) > 19)) = true then (chars_Number.l6 k x47 (IntKind.i64.wrap (x48 + 1)) a0) else (chars_Number.l6 k (IntKind.u64.wrap ((IntKind.u64.wrap (10 * x47)) + (IntKind.u64.wrap (IntKind.u8.wrap (v50 - 48))))) (IntKind.i64.wrap (x48 + 1)) a0)))) else (if (decide ((a0.size : Int) > 19)) = true then (some (0, 4)) else (if (decide (x47 > 9223372036854775807)) = true then (some (0, 4)) else (some (IntKind.i64.wrap x47, 0))))
end
def chars_Number.f (k : Nat) (a0 : ByteArray) : Option (Int × Int) := if (decide ((a0.size : Int) > 0)) = true then ((bt a0 0).bind fun v2 => if (v2 == 45) = true then (if (decide (0 ≤ 1 ∧ 1 ≤ (a0.size : Int) ∧ (a0.size : Int) ≤ (a0.size : Int))) = true then (chars_Number.j0 k (a0.extract 1 a0.size) a0 v2) else none) else (chars_Number.j0 k a0 a0 v2)) else (if (a0.toList == (⟨#[]⟩ : ByteArray).toList) = true then (some (0, 5)) else ((bt a0 0).bind fun v35 => if (v35 == 48) = true then (if (decide ((a0.size : Int) > 1)) = true then (some (0, 5)) else (chars_Number.l5 k 0 0 a0)) else (chars_Number.l6 k 0 0 a0)))
theorem chars_Number.meets (k : Nat) (a0 : ByteArray) (r : Int × Int) (h : chars_Number.f k a0 = some r) : Meets Tryd.prog 44 [(st_ a0)] [] (D.tup [(si r.1), (si r.2)]) [] := by
 unfold chars_Number.f at h
 refine Meets.of_body (n := 78) Tryd.func44 rfl rfl (nl rfl) fun x hx => ?_
 replace hx : x.k = 0 := hx
 show AW _ x _ _ ⟨78, fr0 [(st_ a0)], []⟩
 refine AW.seq (AW.region ?_)
 refine s_assign (d := (si 0)) rfl (s_assign (d := (si 0)) rfl (AWops.nil (AW.seq (AW.region (s_move (d := (st_ a0)) rfl (s_len (n := a0.size) F.u_9 rfl (.inl ⟨⟨_, _, rfl⟩, rfl⟩) (s_binI (v := (.bool (decide ((a0.size : Int) > 0)))) rfl rfl rfl (s_move (d := (sb (decide ((a0.size : Int) > 0)))) rfl ?_))))))))
 rcases itH h with ⟨c1, h⟩ | ⟨c1, h⟩
 ·refine AWops.guard_yes rfl (nl rfl) rfl c1 ?_
  refine s_move (d := (st_ a0)) rfl ?_
  refine AWops.guard_yes rfl (nl rfl) rfl c1 ?_
  obtain ⟨v2, ev2, h⟩ := bnd h
  obtain ⟨pv2, bv2, gv2, rfl⟩ := bt_some ev2
  refine s_indexStr F.u_9 rfl rfl pv2 gv2 ?_
  generalize hzv2 : ((bv2.toNat : Nat) : Int) = v2 at *
  refine AWops.guard_yes rfl (nl rfl) rfl c1 ?_
  refine s_binI (v := (.bool (v2 == 45))) rfl rfl rfl (s_pick_yes (d := (sb (v2 == 45))) rfl c1 rfl (s_assign (d := (sb (v2 == 45))) rfl (AWops.nil (AW.seq (AW.region (s_move (d := (st_ a0)) rfl (s_assign (d := (st_ a0)) rfl (AWops.nil ?_))))))))
  refine AW.seqJ (fun st => ∃ (x5 : ByteArray), chars_Number.j0 k x5 a0 v2 = some r ∧ st = ⟨78, (upd 78 (upd 78 (upd 78 topF 0 (st_ a0)) 4 (sb (v2 == 45))) 5 (st_ x5)), []⟩) ?_ ?_
  ·refine AW.seq (AW.region ?_)
   refine s_move (d := (sb (v2 == 45))) rfl (AWops.nil ?_)
   rcases itH h with ⟨c3, h⟩ | ⟨c3, h⟩
   ·refine AW.cond_yes rfl c3 (AW.region ?_)
    refine s_move (d := (st_ a0)) rfl ?_
    obtain ⟨c4, h⟩ := gdH h
    have dc4 := of_decide_eq_true c4
    refine s_sliceStr F.u_9 rfl (.yes rfl (by omega) rfl) .no (by omega) (by omega) (s_assign (d := (st_ (a0.extract 1 a0.size))) rfl (AWops.nil ?_))
    exact ⟨⟨78, (upd 78 (upd 78 (upd 78 topF 0 (st_ a0)) 4 (sb (v2 == 45))) 5 (st_ (a0.extract 1 a0.size))), []⟩, (wg 0 [] [] hx (le_upd (le_upd (le_upd (le_top _) (o1 .sc)) (o1 .sc)) (o1 .sc)) an), a0.extract 1 a0.size, h, rfl⟩
   ·refine AW.cond_no rfl c3 (AW.skip ?_)
    exact ⟨⟨78, (upd 78 (upd 78 (upd 78 topF 0 (st_ a0)) 4 (sb (v2 == 45))) 5 (st_ a0)), []⟩, (wg 0 [] [] hx (le_upd (le_upd (le_upd (le_top _) (o1 .sc)) (o1 .sc)) (o1 .sc)) an), a0, h, rfl⟩
  ·rintro st ⟨x5, h, rfl⟩
   cases k with
   | zero => exact absurd h (by simp [chars_Number.j0])
   | succ qj0 =>
    replace h := (chars_Number.j0.eq_2 _ _ _ _).symm.trans h
    refine AW.seq (AW.seq (AW.region ?_))
    refine s_move (d := (st_ x5)) rfl (s_binS (v := (.bool (x5.toList == (⟨#[]⟩ : ByteArray).toList))) rfl rfl rfl (s_move (d := (sb (x5.toList == (⟨#[]⟩ : ByteArray).toList))) rfl ?_))
    rcases itH h with ⟨c6, h⟩ | ⟨c6, h⟩
    ·iterate 4 refine AWops.guard_no rfl (nl rfl) rfl c6 ?_
     iterate 3 refine AWops.guard_undef rfl rfl ?_
     refine AWops.guard_no rfl (nl rfl) rfl c6 ?_
     refine s_pick_yes (d := (sb true)) rfl c6 rfl (AWops.nil ?_)
     refine AW.cond_yes rfl rfl (AW.seq (AW.region ?_))
     refine s_assign (d := (si 0)) rfl (s_assign (d := (si 5)) rfl (AWops.nil (AW.ret ?_)))
     obtain rfl := Option.some.inj h
     exact ⟨_, rfl, (wg 0 [] [] rfl (le_upd (le_top _) (DLe.tup (ac (TLe.one .sc) (ac (TLe.one .sc) an)))) an)⟩
    ·refine AWops.guard_yes rfl (nl rfl) rfl c6 ?_
     refine s_move (d := (st_ x5)) rfl ?_
     refine AWops.guard_yes rfl (nl rfl) rfl c6 ?_
     obtain ⟨v7, ev7, h⟩ := bnd h
     obtain ⟨pv7, bv7, gv7, rfl⟩ := bt_some ev7
     refine s_indexStr F.u_9 rfl rfl pv7 gv7 ?_
     generalize hzv7 : ((bv7.toNat : Nat) : Int) = v7 at *
     refine AWops.guard_yes rfl (nl rfl) rfl c6 ?_
     refine s_binI (v := (.bool (v7 == 48))) rfl rfl rfl ?_
     refine AWops.guard_yes rfl (nl rfl) rfl c6 ?_
     refine s_move (d := (sb (v7 == 48))) rfl ?_
     rcases itH h with ⟨c8, h⟩ | ⟨c8, h⟩
     ·refine AWops.guard_yes rfl (nl rfl) rfl c8 ?_
      refine s_move (d := (st_ a0)) rfl ?_
      refine AWops.guard_yes rfl (nl rfl) rfl c8 ?_
      refine s_len (n := a0.size) F.u_9 rfl (.inl ⟨⟨_, _, rfl⟩, rfl⟩) ?_
      refine AWops.guard_yes rfl (nl rfl) rfl c8 ?_
      refine s_binI (v := (.bool (decide ((a0.size : Int) > 1)))) rfl rfl rfl ?_
      refine AWops.guard_yes rfl (nl rfl) rfl c6 ?_
      refine s_pick_yes (d := (sb (decide ((a0.size : Int) > 1)))) rfl c8 rfl (s_pick_no (d := (sb (decide ((a0.size : Int) > 1)))) rfl c6 rfl (AWops.nil ?_))
      rcases itH h with ⟨c9, h⟩ | ⟨c9, h⟩
      ·refine AW.cond_yes rfl c9 (AW.seq (AW.region ?_))
       refine s_assign (d := (si 0)) rfl (s_assign (d := (si 5)) rfl (AWops.nil (AW.ret ?_)))
       obtain rfl := Option.some.inj h
       exact ⟨_, rfl, (wg 0 [] [] rfl (le_upd (le_top _) (DLe.tup (ac (TLe.one .sc) (ac (TLe.one .sc) an)))) an)⟩
      ·refine AW.cond_no rfl c9 (AW.skip (AW.seq (AW.region ?_)))
       refine s_assign (d := (sc (.int .u64 0))) rfl (AWops.nil (AW.seq (AW.region ?_)))
       refine s_move (d := (st_ x5)) rfl (s_len (n := x5.size) F.u_9 rfl (.inl ⟨⟨_, _, rfl⟩, rfl⟩) (s_binI (v := (.bool (decide ((x5.size : Int) > 19)))) rfl rfl rfl (s_assign (d := (sb (decide ((x5.size : Int) > 19)))) rfl (AWops.nil (AW.seq (AW.seq (AW.region (s_move (d := (st_ x5)) rfl (t_ofStr F.u_9 F.u_66 F.u_5 rfl ?_)))))))))
       refine s_len (n := (bytesI x5).length) F.u_66 rfl (.inr ⟨(fun _ _ h => by cases h), ⟨_, rfl⟩⟩) (s_move (d := (si 0)) rfl (AWops.nil (AW.block ?_)))
       refine AW.loopw (st0 := ⟨78, (upd 78 (upd 78 (upd 78 (upd 78 (upd 78 (upd 78 topF 4 (sb (v2 == 45))) 6 (sc (.int .u64 0))) 7 (sb (decide ((x5.size : Int) > 19)))) 39 (D.one (C.p false (.sl (bytesI x5).length ((bytesI x5).flatMap e_u8))))) 40 (si ((bytesI x5).length : Int))) 41 (si 0)), []⟩) (fun kv st => kv ≤ qj0 ∧ ∃ (x10 : Int) (x11 : Int), chars_Number.l1 kv x10 x11 v2 x5 = some r ∧ st = ⟨78, (upd 78 (upd 78 (upd 78 (upd 78 (upd 78 (upd 78 topF 4 (sb (v2 == 45))) 6 (sc (.int .u64 x10))) 7 (sb (decide ((x5.size : Int) > 19)))) 39 (D.one (C.p false (.sl (bytesI x5).length ((bytesI x5).flatMap e_u8))))) 40 (si ((bytesI x5).length : Int))) 41 (si x11)), []⟩) (k := qj0) (wg 0 [] [] hx (le_upd (le_upd (le_upd (le_upd (le_upd (le_upd (le_top _) (o1 .sc)) (o1 .sc)) (o1 .sc)) (o1 .same)) (o1 .sc)) (o1 .sc)) an) ⟨Nat.le_refl _, 0, 0, h, rfl⟩ ?_
       rintro ql1 st ⟨hkl1, x10, x11, h, rfl⟩
       cases ql1 with
       | zero => exact absurd h (by simp [chars_Number.l1])
       | succ ql1 =>
        replace h := (chars_Number.l1.eq_2 _ _ _ _ _).symm.trans h
        refine AW.seq (AW.region ?_)
        refine s_binI (v := (.bool (decide (x11 < ((bytesI x5).length : Int))))) rfl rfl rfl (AWops.nil (AW.seq ?_))
        rcases itH h with ⟨c12, h⟩ | ⟨c12, h⟩
        ·refine AW.cond_yes rfl c12 (AW.skip (AW.seq (AW.block (AW.seq (AW.region ?_)))))
         obtain ⟨v13, ev13, h⟩ := bnd h
         obtain ⟨pv13, qv13, gv13⟩ := rd_some ev13
         refine s_indexImm (ps := [P.v (.int .u8 v13)]) F.u_66 F.sz_5 rfl rfl pv13 qv13 (flat_at e_u8_len gv13 (e_u8_eq v13)) (s_load1 (c' := (C.p true (.v (.int .u8 v13)))) F.ag_5 rfl rfl (s_assign (d := (sc (.int .u8 v13))) rfl (AWops.nil (AW.seq (AW.seq (AW.region (s_move (d := (sc (.int .u8 v13))) rfl (s_binI (v := (.bool (decide (v13 < 48)))) rfl rfl rfl (s_move (d := (sb (decide (v13 < 48)))) rfl ?_)))))))))
         rcases itH h with ⟨c14, h⟩ | ⟨c14, h⟩
         ·refine AWops.guard_no rfl (nl rfl) rfl c14 ?_
          refine AWops.guard_no rfl (nl rfl) rfl c14 ?_
          refine s_pick_yes (d := (sb true)) rfl c14 rfl (AWops.nil ?_)
          refine AW.cond_yes rfl rfl (AW.seq (AW.region ?_))
          refine s_assign (d := (si 0)) rfl (s_assign (d := (si 5)) rfl (AWops.nil (AW.ret ?_)))
          obtain rfl := Option.some.inj h
          exact ⟨_, rfl, (wg 0 [] [] rfl (le_upd (le_top _) (DLe.tup (ac (TLe.one .sc) (ac (TLe.one .sc) an)))) an)⟩
         ·refine AWops.guard_yes rfl (nl rfl) rfl c14 ?_
          refine s_move (d := (sc (.int .u8 v13))) rfl ?_
          refine AWops.guard_yes rfl (nl rfl) rfl c14 ?_
          refine s_binI (v := (.bool (decide (v13 > 57)))) rfl rfl rfl (s_pick_no (d := (sb (decide (v13 > 57)))) rfl c14 rfl (AWops.nil ?_))
          rcases itH h with ⟨c15, h⟩ | ⟨c15, h⟩
          ·refine AW.cond_yes rfl c15 (AW.seq (AW.region ?_))
           refine s_assign (d := (si 0)) rfl (s_assign (d := (si 5)) rfl (AWops.nil (AW.ret ?_)))
           obtain rfl := Option.some.inj h
           exact ⟨_, rfl, (wg 0 [] [] rfl (le_upd (le_top _) (DLe.tup (ac (TLe.one .sc) (ac (TLe.one .sc) an)))) an)⟩
          ·refine AW.cond_no rfl c15 (AW.skip (AW.seq (AW.region ?_)))
           refine s_move (d := (sb (decide ((x5.size : Int) > 19)))) rfl (s_not rfl (AWops.nil ?_))
           rcases itH h with ⟨c16, h⟩ | ⟨c16, h⟩
           ·refine AW.cond_no rfl (by rw [c16] <;> rfl) (AW.skip (AW.region ?_))
            refine s_binI (v := (.int .i64 (IntKind.i64.wrap (x11 + 1)))) rfl rfl rfl (s_move (d := (si (IntKind.i64.wrap (x11 + 1)))) rfl (AWops.nil ?_))
            exact ⟨_, ⟨78, (upd 78 (upd 78 (upd 78 (upd 78 (upd 78 (upd 78 topF 4 (sb (v2 == 45))) 6 (sc (.int .u64 x10))) 7 (sb (decide ((x5.size : Int) > 19)))) 39 (D.one (C.p false (.sl (bytesI x5).length ((bytesI x5).flatMap e_u8))))) 40 (si ((bytesI x5).length : Int))) 41 (si (IntKind.i64.wrap (x11 + 1)))), []⟩, by omega, (wg 0 [] [] hx (le_upd (le_upd (le_upd (le_upd (le_upd (le_upd (le_top _) (o1 .sc)) (o1 .sc)) (o1 .sc)) (o1 .same)) (o1 .sc)) (o1 .sc)) an), by omega, x10, IntKind.i64.wrap (x11 + 1), h, rfl⟩
           ·refine AW.cond_yes rfl (by rw [c16] <;> rfl) (AW.region ?_)
            refine s_move (d := (sc (.int .u64 x10))) rfl (s_binI (v := (.int .u64 (IntKind.u64.wrap (10 * x10)))) rfl rfl rfl (s_move (d := (sc (.int .u8 v13))) rfl (s_binI (v := (.int .u8 (IntKind.u8.wrap (v13 - 48)))) rfl rfl rfl (s_convI F.u_5 F.u_73 rfl (s_binI (v := (.int .u64 (IntKind.u64.wrap ((IntKind.u64.wrap (10 * x10)) + (IntKind.u64.wrap (IntKind.u8.wrap (v13 - 48))))))) rfl rfl rfl ?_)))))
            refine s_assign (d := (sc (.int .u64 (IntKind.u64.wrap ((IntKind.u64.wrap (10 * x10)) + (IntKind.u64.wrap (IntKind.u8.wrap (v13 - 48)))))))) rfl (AWops.nil (AW.region ?_))
            refine s_binI (v := (.int .i64 (IntKind.i64.wrap (x11 + 1)))) rfl rfl rfl (s_move (d := (si (IntKind.i64.wrap (x11 + 1)))) rfl (AWops.nil ?_))
            exact ⟨_, ⟨78, (upd 78 (upd 78 (upd 78 (upd 78 (upd 78 (upd 78 topF 4 (sb (v2 == 45))) 6 (sc (.int .u64 (IntKind.u64.wrap ((IntKind.u64.wrap (10 * x10)) + (IntKind.u64.wrap (IntKind.u8.wrap (v13 - 48)))))))) 7 (sb (decide ((x5.size : Int) > 19)))) 39 (D.one (C.p false (.sl (bytesI x5).length ((bytesI x5).flatMap e_u8))))) 40 (si ((bytesI x5).length : Int))) 41 (si (IntKind.i64.wrap (x11 + 1)))), []⟩, by omega, (wg 0 [] [] hx (le_upd (le_upd (le_upd (le_upd (le_upd (le_upd (le_top _) (o1 .sc)) (o1 .sc)) (o1 .sc)) (o1 .same)) (o1 .sc)) (o1 .sc)) an), by omega, IntKind.u64.wrap ((IntKind.u64.wrap (10 * x10)) + (IntKind.u64.wrap (IntKind.u8.wrap (v13 - 48)))), IntKind.i64.wrap (x11 + 1), h, rfl⟩
        ·refine AW.cond_no rfl c12 (AW.exit (AW.seq (AW.region ?_)))
         refine s_assign (d := (sc (.int .u64 9223372036854775808))) rfl (AWops.nil ?_)
         refine AW.seqJ (fun st => ∃ (x18 : Int), chars_Number.j2 ql1 x18 v2 x5 x10 = some r ∧ st = ⟨78, (upd 78 (upd 78 (upd 78 (upd 78 topF 4 (sb (v2 == 45))) 6 (sc (.int .u64 x10))) 7 (sb (decide ((x5.size : Int) > 19)))) 10 (sc (.int .u64 x18))), []⟩) ?_ ?_
         ·refine AW.seq (AW.region ?_)
          refine s_move (d := (sb (v2 == 45))) rfl (s_not rfl (AWops.nil ?_))
          rcases itH h with ⟨c17, h⟩ | ⟨c17, h⟩
          ·refine AW.cond_no rfl (by rw [c17] <;> rfl) (AW.skip ?_)
           exact ⟨⟨78, (upd 78 (upd 78 (upd 78 (upd 78 topF 4 (sb (v2 == 45))) 6 (sc (.int .u64 x10))) 7 (sb (decide ((x5.size : Int) > 19)))) 10 (sc (.int .u64 9223372036854775808))), []⟩, (wg 0 [] [] hx (le_upd (le_upd (le_upd (le_upd (le_top _) (o1 .sc)) (o1 .sc)) (o1 .sc)) (o1 .sc)) an), 9223372036854775808, h, rfl⟩
          ·refine AW.cond_yes rfl (by rw [c17] <;> rfl) (AW.region ?_)
           refine s_move (d := (sc (.int .u64 9223372036854775808))) rfl (s_binI (v := (.int .u64 9223372036854775807)) rfl rfl (by rfl) (s_assign (d := (sc (.int .u64 9223372036854775807))) rfl (AWops.nil ?_)))
           exact ⟨⟨78, (upd 78 (upd 78 (upd 78 (upd 78 topF 4 (sb (v2 == 45))) 6 (sc (.int .u64 x10))) 7 (sb (decide ((x5.size : Int) > 19)))) 10 (sc (.int .u64 9223372036854775807))), []⟩, (wg 0 [] [] hx (le_upd (le_upd (le_upd (le_upd (le_top _) (o1 .sc)) (o1 .sc)) (o1 .sc)) (o1 .sc)) an), 9223372036854775807, h, rfl⟩
         ·rintro st ⟨x18, h, rfl⟩
          cases ql1 with
          | zero => exact absurd h (by simp [chars_Number.j2])
          | succ qj2 =>
           replace h := (chars_Number.j2.eq_2 _ _ _ _ _).symm.trans h
           refine AW.seq (AW.block (AW.seq (AW.region ?_)))
           refine s_move (d := (sb (decide ((x5.size : Int) > 19)))) rfl (s_move (d := (sb (decide ((x5.size : Int) > 19)))) rfl ?_)
           rcases itH h with ⟨c19, h⟩ | ⟨c19, h⟩
           ·iterate 3 refine AWops.guard_no rfl (nl rfl) rfl c19 ?_
            refine s_pick_yes (d := (sb true)) rfl c19 rfl (s_assign (d := (sb true)) rfl (AWops.nil ?_))
            refine AW.cond_yes rfl rfl (AW.seq (AW.region ?_))
            refine s_assign (d := (si 0)) rfl (s_assign (d := (si 4)) rfl (AWops.nil (AW.ret ?_)))
            obtain rfl := Option.some.inj h
            exact ⟨_, rfl, (wg 0 [] [] rfl (le_upd (le_top _) (DLe.tup (ac (TLe.one .sc) (ac (TLe.one .sc) an)))) an)⟩
           ·refine AWops.guard_yes rfl (nl rfl) rfl c19 ?_
            refine s_move (d := (sc (.int .u64 x10))) rfl ?_
            refine AWops.guard_yes rfl (nl rfl) rfl c19 ?_
            refine s_move (d := (sc (.int .u64 x18))) rfl ?_
            refine AWops.guard_yes rfl (nl rfl) rfl c19 ?_
            refine s_binI (v := (.bool (decide (x10 > x18)))) rfl rfl rfl (s_pick_no (d := (sb (decide (x10 > x18)))) rfl c19 rfl (s_assign (d := (sb (decide (x10 > x18)))) rfl (AWops.nil ?_)))
            rcases itH h with ⟨c20, h⟩ | ⟨c20, h⟩
            ·refine AW.cond_yes rfl c20 (AW.seq (AW.region ?_))
             refine s_assign (d := (si 0)) rfl (s_assign (d := (si 4)) rfl (AWops.nil (AW.ret ?_)))
             obtain rfl := Option.some.inj h
             exact ⟨_, rfl, (wg 0 [] [] rfl (le_upd (le_top _) (DLe.tup (ac (TLe.one .sc) (ac (TLe.one .sc) an)))) an)⟩
            ·refine AW.cond_no rfl c20 (AW.seq (AW.region ?_))
             refine s_move (d := (sb (v2 == 45))) rfl (s_assign (d := (sb (v2 == 45))) rfl (AWops.nil ?_))
             rcases itH h with ⟨c21, h⟩ | ⟨c21, h⟩
             ·refine AW.cond_yes rfl c21 (AW.seq (AW.region ?_))
              refine s_move (d := (sc (.int .u64 x10))) rfl (s_convI F.u_73 F.u_3 rfl (s_unI (v := (.int .i64 (IntKind.i64.wrap (0 - (IntKind.i64.wrap x10))))) rfl rfl (s_assign (d := (si (IntKind.i64.wrap (0 - (IntKind.i64.wrap x10))))) rfl (s_assign (d := (si 0)) rfl (AWops.nil (AW.ret ?_))))))
              obtain rfl := Option.some.inj h
              exact ⟨_, rfl, (wg 0 [] [] rfl (le_upd (le_top _) (DLe.tup (ac (TLe.one .sc) (ac (TLe.one .sc) an)))) an)⟩
             ·refine AW.cond_no rfl c21 (AW.skip (AW.seq (AW.region ?_)))
              refine s_move (d := (sc (.int .u64 x10))) rfl (s_convI F.u_73 F.u_3 rfl (s_assign (d := (si (IntKind.i64.wrap x10))) rfl (s_assign (d := (si 0)) rfl (AWops.nil (AW.ret ?_)))))
              obtain rfl := Option.some.inj h
              exact ⟨_, rfl, (wg 0 [] [] rfl (le_upd (le_top _) (DLe.tup (ac (TLe.one .sc) (ac (TLe.one .sc) an)))) an)⟩
     ·iterate 3 refine AWops.guard_no rfl (nl rfl) rfl c8 ?_
      refine AWops.guard_yes rfl (nl rfl) rfl c6 ?_
      refine s_pick_no (d := (sb false)) rfl c8 rfl (s_pick_no (d := (sb false)) rfl c6 rfl (AWops.nil ?_))
      refine AW.cond_no rfl rfl (AW.skip (AW.seq (AW.region ?_)))
      refine s_assign (d := (sc (.int .u64 0))) rfl (AWops.nil (AW.seq (AW.region ?_)))
      refine s_move (d := (st_ x5)) rfl (s_len (n := x5.size) F.u_9 rfl (.inl ⟨⟨_, _, rfl⟩, rfl⟩) (s_binI (v := (.bool (decide ((x5.size : Int) > 19)))) rfl rfl rfl (s_assign (d := (sb (decide ((x5.size : Int) > 19)))) rfl (AWops.nil (AW.seq (AW.seq (AW.region (s_move (d := (st_ x5)) rfl (t_ofStr F.u_9 F.u_66 F.u_5 rfl ?_)))))))))
      refine s_len (n := (bytesI x5).length) F.u_66 rfl (.inr ⟨(fun _ _ h => by cases h), ⟨_, rfl⟩⟩) (s_move (d := (si 0)) rfl (AWops.nil (AW.block ?_)))
      refine AW.loopw (st0 := ⟨78, (upd 78 (upd 78 (upd 78 (upd 78 (upd 78 (upd 78 topF 4 (sb (v2 == 45))) 6 (sc (.int .u64 0))) 7 (sb (decide ((x5.size : Int) > 19)))) 39 (D.one (C.p false (.sl (bytesI x5).length ((bytesI x5).flatMap e_u8))))) 40 (si ((bytesI x5).length : Int))) 41 (si 0)), []⟩) (fun kv st => kv ≤ qj0 ∧ ∃ (x22 : Int) (x23 : Int), chars_Number.l3 kv x22 x23 v2 x5 = some r ∧ st = ⟨78, (upd 78 (upd 78 (upd 78 (upd 78 (upd 78 (upd 78 topF 4 (sb (v2 == 45))) 6 (sc (.int .u64 x22))) 7 (sb (decide ((x5.size : Int) > 19)))) 39 (D.one (C.p false (.sl (bytesI x5).length ((bytesI x5).flatMap e_u8))))) 40 (si ((bytesI x5).length : Int))) 41 (si x23)), []⟩) (k := qj0) (wg 0 [] [] hx (le_upd (le_upd (le_upd (le_upd (le_upd (le_upd (le_top _) (o1 .sc)) (o1 .sc)) (o1 .sc)) (o1 .same)) (o1 .sc)) (o1 .sc)) an) ⟨Nat.le_refl _, 0, 0, h, rfl⟩ ?_
      rintro ql3 st ⟨hkl3, x22, x23, h, rfl⟩
      cases ql3 with
      | zero => exact absurd h (by simp [chars_Number.l3])
      | succ ql3 =>
       replace h := (chars_Number.l3.eq_2 _ _ _ _ _).symm.trans h
       refine AW.seq (AW.region ?_)
       refine s_binI (v := (.bool (decide (x23 < ((bytesI x5).length : Int))))) rfl rfl rfl (AWops.nil (AW.seq ?_))
       rcases itH h with ⟨c24, h⟩ | ⟨c24, h⟩
       ·refine AW.cond_yes rfl c24 (AW.skip (AW.seq (AW.block (AW.seq (AW.region ?_)))))
        obtain ⟨v25, ev25, h⟩ := bnd h
        obtain ⟨pv25, qv25, gv25⟩ := rd_some ev25
        refine s_indexImm (ps := [P.v (.int .u8 v25)]) F.u_66 F.sz_5 rfl rfl pv25 qv25 (flat_at e_u8_len gv25 (e_u8_eq v25)) (s_load1 (c' := (C.p true (.v (.int .u8 v25)))) F.ag_5 rfl rfl (s_assign (d := (sc (.int .u8 v25))) rfl (AWops.nil (AW.seq (AW.seq (AW.region (s_move (d := (sc (.int .u8 v25))) rfl (s_binI (v := (.bool (decide (v25 < 48)))) rfl rfl rfl (s_move (d := (sb (decide (v25 < 48)))) rfl ?_)))))))))
        rcases itH h with ⟨c26, h⟩ | ⟨c26, h⟩
        ·refine AWops.guard_no rfl (nl rfl) rfl c26 ?_
         refine AWops.guard_no rfl (nl rfl) rfl c26 ?_
         refine s_pick_yes (d := (sb true)) rfl c26 rfl (AWops.nil ?_)
         refine AW.cond_yes rfl rfl (AW.seq (AW.region ?_))
         refine s_assign (d := (si 0)) rfl (s_assign (d := (si 5)) rfl (AWops.nil (AW.ret ?_)))
         obtain rfl := Option.some.inj h
         exact ⟨_, rfl, (wg 0 [] [] rfl (le_upd (le_top _) (DLe.tup (ac (TLe.one .sc) (ac (TLe.one .sc) an)))) an)⟩
        ·refine AWops.guard_yes rfl (nl rfl) rfl c26 ?_
         refine s_move (d := (sc (.int .u8 v25))) rfl ?_
         refine AWops.guard_yes rfl (nl rfl) rfl c26 ?_
         refine s_binI (v := (.bool (decide (v25 > 57)))) rfl rfl rfl (s_pick_no (d := (sb (decide (v25 > 57)))) rfl c26 rfl (AWops.nil ?_))
         rcases itH h with ⟨c27, h⟩ | ⟨c27, h⟩
         ·refine AW.cond_yes rfl c27 (AW.seq (AW.region ?_))
          refine s_assign (d := (si 0)) rfl (s_assign (d := (si 5)) rfl (AWops.nil (AW.ret ?_)))
          obtain rfl := Option.some.inj h
          exact ⟨_, rfl, (wg 0 [] [] rfl (le_upd (le_top _) (DLe.tup (ac (TLe.one .sc) (ac (TLe.one .sc) an)))) an)⟩
         ·refine AW.cond_no rfl c27 (AW.skip (AW.seq (AW.region ?_)))
          refine s_move (d := (sb (decide ((x5.size : Int) > 19)))) rfl (s_not rfl (AWops.nil ?_))
          rcases itH h with ⟨c28, h⟩ | ⟨c28, h⟩
          ·refine AW.cond_no rfl (by rw [c28] <;> rfl) (AW.skip (AW.region ?_))
           refine s_binI (v := (.int .i64 (IntKind.i64.wrap (x23 + 1)))) rfl rfl rfl (s_move (d := (si (IntKind.i64.wrap (x23 + 1)))) rfl (AWops.nil ?_))
           exact ⟨_, ⟨78, (upd 78 (upd 78 (upd 78 (upd 78 (upd 78 (upd 78 topF 4 (sb (v2 == 45))) 6 (sc (.int .u64 x22))) 7 (sb (decide ((x5.size : Int) > 19)))) 39 (D.one (C.p false (.sl (bytesI x5).length ((bytesI x5).flatMap e_u8))))) 40 (si ((bytesI x5).length : Int))) 41 (si (IntKind.i64.wrap (x23 + 1)))), []⟩, by omega, (wg 0 [] [] hx (le_upd (le_upd (le_upd (le_upd (le_upd (le_upd (le_top _) (o1 .sc)) (o1 .sc)) (o1 .sc)) (o1 .same)) (o1 .sc)) (o1 .sc)) an), by omega, x22, IntKind.i64.wrap (x23 + 1), h, rfl⟩
          ·refine AW.cond_yes rfl (by rw [c28] <;> rfl) (AW.region ?_)
           refine s_move (d := (sc (.int .u64 x22))) rfl (s_binI (v := (.int .u64 (IntKind.u64.wrap (10 * x22)))) rfl rfl rfl (s_move (d := (sc (.int .u8 v25))) rfl (s_binI (v := (.int .u8 (IntKind.u8.wrap (v25 - 48)))) rfl rfl rfl (s_convI F.u_5 F.u_73 rfl (s_binI (v := (.int .u64 (IntKind.u64.wrap ((IntKind.u64.wrap (10 * x22)) + (IntKind.u64.wrap (IntKind.u8.wrap (v25 - 48))))))) rfl rfl rfl ?_)))))
           refine s_assign (d := (sc (.int .u64 (IntKind.u64.wrap ((IntKind.u64.wrap (10 * x22)) + (IntKind.u64.wrap (IntKind.u8.wrap (v25 - 48)))))))) rfl (AWops.nil (AW.region ?_))
           refine s_binI (v := (.int .i64 (IntKind.i64.wrap (x23 + 1)))) rfl rfl rfl (s_move (d := (si (IntKind.i64.wrap (x23 + 1)))) rfl (AWops.nil ?_))
           exact ⟨_, ⟨78, (upd 78 (upd 78 (upd 78 (upd 78 (upd 78 (upd 78 topF 4 (sb (v2 == 45))) 6 (sc (.int .u64 (IntKind.u64.wrap ((IntKind.u64.wrap (10 * x22)) + (IntKind.u64.wrap (IntKind.u8.wrap (v25 - 48)))))))) 7 (sb (decide ((x5.size : Int) > 19)))) 39 (D.one (C.p false (.sl (bytesI x5).length ((bytesI x5).flatMap e_u8))))) 40 (si ((bytesI x5).length : Int))) 41 (si (IntKind.i64.wrap (x23 + 1)))), []⟩, by omega, (wg 0 [] [] hx (le_upd (le_upd (le_upd (le_upd (le_upd (le_upd (le_top _) (o1 .sc)) (o1 .sc)) (o1 .sc)) (o1 .same)) (o1 .sc)) (o1 .sc)) an), by omega, IntKind.u64.wrap ((IntKind.u64.wrap (10 * x22)) + (IntKind.u64.wrap (IntKind.u8.wrap (v25 - 48)))), IntKind.i64.wrap (x23 + 1), h, rfl⟩
       ·refine AW.cond_no rfl c24 (AW.exit (AW.seq (AW.region ?_)))
        refine s_assign (d := (sc (.int .u64 9223372036854775808))) rfl (AWops.nil ?_)
        refine AW.seqJ (fun st => ∃ (x30 : Int), chars_Number.j4 ql3 x30 v2 x5 x22 = some r ∧ st = ⟨78, (upd 78 (upd 78 (upd 78 (upd 78 topF 4 (sb (v2 == 45))) 6 (sc (.int .u64 x22))) 7 (sb (decide ((x5.size : Int) > 19)))) 10 (sc (.int .u64 x30))), []⟩) ?_ ?_
        ·refine AW.seq (AW.region ?_)
         refine s_move (d := (sb (v2 == 45))) rfl (s_not rfl (AWops.nil ?_))
         rcases itH h with ⟨c29, h⟩ | ⟨c29, h⟩
         ·refine AW.cond_no rfl (by rw [c29] <;> rfl) (AW.skip ?_)
          exact ⟨⟨78, (upd 78 (upd 78 (upd 78 (upd 78 topF 4 (sb (v2 == 45))) 6 (sc (.int .u64 x22))) 7 (sb (decide ((x5.size : Int) > 19)))) 10 (sc (.int .u64 9223372036854775808))), []⟩, (wg 0 [] [] hx (le_upd (le_upd (le_upd (le_upd (le_top _) (o1 .sc)) (o1 .sc)) (o1 .sc)) (o1 .sc)) an), 9223372036854775808, h, rfl⟩
         ·refine AW.cond_yes rfl (by rw [c29] <;> rfl) (AW.region ?_)
          refine s_move (d := (sc (.int .u64 9223372036854775808))) rfl (s_binI (v := (.int .u64 9223372036854775807)) rfl rfl (by rfl) (s_assign (d := (sc (.int .u64 9223372036854775807))) rfl (AWops.nil ?_)))
          exact ⟨⟨78, (upd 78 (upd 78 (upd 78 (upd 78 topF 4 (sb (v2 == 45))) 6 (sc (.int .u64 x22))) 7 (sb (decide ((x5.size : Int) > 19)))) 10 (sc (.int .u64 9223372036854775807))), []⟩, (wg 0 [] [] hx (le_upd (le_upd (le_upd (le_upd (le_top _) (o1 .sc)) (o1 .sc)) (o1 .sc)) (o1 .sc)) an), 9223372036854775807, h, rfl⟩
        ·rintro st ⟨x30, h, rfl⟩
         cases ql3 with
         | zero => exact absurd h (by simp [chars_Number.j4])
         | succ qj4 =>
          replace h := (chars_Number.j4.eq_2 _ _ _ _ _).symm.trans h
          refine AW.seq (AW.block (AW.seq (AW.region ?_)))
          refine s_move (d := (sb (decide ((x5.size : Int) > 19)))) rfl (s_move (d := (sb (decide ((x5.size : Int) > 19)))) rfl ?_)
          rcases itH h with ⟨c31, h⟩ | ⟨c31, h⟩
          ·iterate 3 refine AWops.guard_no rfl (nl rfl) rfl c31 ?_
           refine s_pick_yes (d := (sb true)) rfl c31 rfl (s_assign (d := (sb true)) rfl (AWops.nil ?_))
           refine AW.cond_yes rfl rfl (AW.seq (AW.region ?_))
           refine s_assign (d := (si 0)) rfl (s_assign (d := (si 4)) rfl (AWops.nil (AW.ret ?_)))
           obtain rfl := Option.some.inj h
           exact ⟨_, rfl, (wg 0 [] [] rfl (le_upd (le_top _) (DLe.tup (ac (TLe.one .sc) (ac (TLe.one .sc) an)))) an)⟩
          ·refine AWops.guard_yes rfl (nl rfl) rfl c31 ?_
           refine s_move (d := (sc (.int .u64 x22))) rfl ?_
           refine AWops.guard_yes rfl (nl rfl) rfl c31 ?_
           refine s_move (d := (sc (.int .u64 x30))) rfl ?_
           refine AWops.guard_yes rfl (nl rfl) rfl c31 ?_
           refine s_binI (v := (.bool (decide (x22 > x30)))) rfl rfl rfl (s_pick_no (d := (sb (decide (x22 > x30)))) rfl c31 rfl (s_assign (d := (sb (decide (x22 > x30)))) rfl (AWops.nil ?_)))
           rcases itH h with ⟨c32, h⟩ | ⟨c32, h⟩
           ·refine AW.cond_yes rfl c32 (AW.seq (AW.region ?_))
            refine s_assign (d := (si 0)) rfl (s_assign (d := (si 4)) rfl (AWops.nil (AW.ret ?_)))
            obtain rfl := Option.some.inj h
            exact ⟨_, rfl, (wg 0 [] [] rfl (le_upd (le_top _) (DLe.tup (ac (TLe.one .sc) (ac (TLe.one .sc) an)))) an)⟩
           ·refine AW.cond_no rfl c32 (AW.seq (AW.region ?_))
            refine s_move (d := (sb (v2 == 45))) rfl (s_assign (d := (sb (v2 == 45))) rfl (AWops.nil ?_))
            rcases itH h with ⟨c33, h⟩ | ⟨c33, h⟩
            ·refine AW.cond_yes rfl c33 (AW.seq (AW.region ?_))
             refine s_move (d := (sc (.int .u64 x22))) rfl (s_convI F.u_73 F.u_3 rfl (s_unI (v := (.int .i64 (IntKind.i64.wrap (0 - (IntKind.i64.wrap x22))))) rfl rfl (s_assign (d := (si (IntKind.i64.wrap (0 - (IntKind.i64.wrap x22))))) rfl (s_assign (d := (si 0)) rfl (AWops.nil (AW.ret ?_))))))
             obtain rfl := Option.some.inj h
             exact ⟨_, rfl, (wg 0 [] [] rfl (le_upd (le_top _) (DLe.tup (ac (TLe.one .sc) (ac (TLe.one .sc) an)))) an)⟩
            ·refine AW.cond_no rfl c33 (AW.skip (AW.seq (AW.region ?_)))
             refine s_move (d := (sc (.int .u64 x22))) rfl (s_convI F.u_73 F.u_3 rfl (s_assign (d := (si (IntKind.i64.wrap x22))) rfl (s_assign (d := (si 0)) rfl (AWops.nil (AW.ret ?_)))))
             obtain rfl := Option.some.inj h
             exact ⟨_, rfl, (wg 0 [] [] rfl (le_upd (le_top _) (DLe.tup (ac (TLe.one .sc) (ac (TLe.one .sc) an)))) an)⟩
 ·iterate 3 refine AWops.guard_no rfl (nl rfl) rfl c1 ?_
  refine s_pick_no (d := (sb false)) rfl c1 rfl (s_assign (d := (sb false)) rfl (AWops.nil (AW.seq (AW.region (s_move (d := (st_ a0)) rfl (s_assign (d := (st_ a0)) rfl (AWops.nil (AW.seq (AW.seq (AW.region (s_move (d := (sb false)) rfl (AWops.nil ?_))))))))))))
  refine AW.cond_no rfl rfl (AW.skip (AW.seq (AW.seq (AW.region ?_))))
  refine s_move (d := (st_ a0)) rfl (s_binS (v := (.bool (a0.toList == (⟨#[]⟩ : ByteArray).toList))) rfl rfl rfl (s_move (d := (sb (a0.toList == (⟨#[]⟩ : ByteArray).toList))) rfl ?_))
  rcases itH h with ⟨c34, h⟩ | ⟨c34, h⟩
  ·iterate 4 refine AWops.guard_no rfl (nl rfl) rfl c34 ?_
   iterate 3 refine AWops.guard_undef rfl rfl ?_
   refine AWops.guard_no rfl (nl rfl) rfl c34 ?_
   refine s_pick_yes (d := (sb true)) rfl c34 rfl (AWops.nil ?_)
   refine AW.cond_yes rfl rfl (AW.seq (AW.region ?_))
   refine s_assign (d := (si 0)) rfl (s_assign (d := (si 5)) rfl (AWops.nil (AW.ret ?_)))
   obtain rfl := Option.some.inj h
   exact ⟨_, rfl, (wg 0 [] [] rfl (le_upd (le_top _) (DLe.tup (ac (TLe.one .sc) (ac (TLe.one .sc) an)))) an)⟩
  ·refine AWops.guard_yes rfl (nl rfl) rfl c34 ?_
   refine s_move (d := (st_ a0)) rfl ?_
   refine AWops.guard_yes rfl (nl rfl) rfl c34 ?_
   obtain ⟨v35, ev35, h⟩ := bnd h
   obtain ⟨pv35, bv35, gv35, rfl⟩ := bt_some ev35
   refine s_indexStr F.u_9 rfl rfl pv35 gv35 ?_
   generalize hzv35 : ((bv35.toNat : Nat) : Int) = v35 at *
   refine AWops.guard_yes rfl (nl rfl) rfl c34 ?_
   refine s_binI (v := (.bool (v35 == 48))) rfl rfl rfl ?_
   refine AWops.guard_yes rfl (nl rfl) rfl c34 ?_
   refine s_move (d := (sb (v35 == 48))) rfl ?_
   rcases itH h with ⟨c36, h⟩ | ⟨c36, h⟩
   ·refine AWops.guard_yes rfl (nl rfl) rfl c36 ?_
    refine s_move (d := (st_ a0)) rfl ?_
    refine AWops.guard_yes rfl (nl rfl) rfl c36 ?_
    refine s_len (n := a0.size) F.u_9 rfl (.inl ⟨⟨_, _, rfl⟩, rfl⟩) ?_
    refine AWops.guard_yes rfl (nl rfl) rfl c36 ?_
    refine s_binI (v := (.bool (decide ((a0.size : Int) > 1)))) rfl rfl rfl ?_
    refine AWops.guard_yes rfl (nl rfl) rfl c34 ?_
    refine s_pick_yes (d := (sb (decide ((a0.size : Int) > 1)))) rfl c36 rfl (s_pick_no (d := (sb (decide ((a0.size : Int) > 1)))) rfl c34 rfl (AWops.nil ?_))
    rcases itH h with ⟨c37, h⟩ | ⟨c37, h⟩
    ·refine AW.cond_yes rfl c37 (AW.seq (AW.region ?_))
     refine s_assign (d := (si 0)) rfl (s_assign (d := (si 5)) rfl (AWops.nil (AW.ret ?_)))
     obtain rfl := Option.some.inj h
     exact ⟨_, rfl, (wg 0 [] [] rfl (le_upd (le_top _) (DLe.tup (ac (TLe.one .sc) (ac (TLe.one .sc) an)))) an)⟩
    ·refine AW.cond_no rfl c37 (AW.skip (AW.seq (AW.region ?_)))
     refine s_assign (d := (sc (.int .u64 0))) rfl (AWops.nil (AW.seq (AW.region ?_)))
     refine s_move (d := (st_ a0)) rfl (s_len (n := a0.size) F.u_9 rfl (.inl ⟨⟨_, _, rfl⟩, rfl⟩) (s_binI (v := (.bool (decide ((a0.size : Int) > 19)))) rfl rfl rfl (s_assign (d := (sb (decide ((a0.size : Int) > 19)))) rfl (AWops.nil (AW.seq (AW.seq (AW.region (s_move (d := (st_ a0)) rfl (t_ofStr F.u_9 F.u_66 F.u_5 rfl ?_)))))))))
     refine s_len (n := (bytesI a0).length) F.u_66 rfl (.inr ⟨(fun _ _ h => by cases h), ⟨_, rfl⟩⟩) (s_move (d := (si 0)) rfl (AWops.nil (AW.block ?_)))
     refine AW.loopw (st0 := ⟨78, (upd 78 (upd 78 (upd 78 (upd 78 (upd 78 (upd 78 topF 4 (sb false)) 6 (sc (.int .u64 0))) 7 (sb (decide ((a0.size : Int) > 19)))) 39 (D.one (C.p false (.sl (bytesI a0).length ((bytesI a0).flatMap e_u8))))) 40 (si ((bytesI a0).length : Int))) 41 (si 0)), []⟩) (fun kv st => kv ≤ k ∧ ∃ (x38 : Int) (x39 : Int), chars_Number.l5 kv x38 x39 a0 = some r ∧ st = ⟨78, (upd 78 (upd 78 (upd 78 (upd 78 (upd 78 (upd 78 topF 4 (sb false)) 6 (sc (.int .u64 x38))) 7 (sb (decide ((a0.size : Int) > 19)))) 39 (D.one (C.p false (.sl (bytesI a0).length ((bytesI a0).flatMap e_u8))))) 40 (si ((bytesI a0).length : Int))) 41 (si x39)), []⟩) (k := k) (wg 0 [] [] hx (le_upd (le_upd (le_upd (le_upd (le_upd (le_upd (le_top _) (o1 .sc)) (o1 .sc)) (o1 .sc)) (o1 .same)) (o1 .sc)) (o1 .sc)) an) ⟨Nat.le_refl _, 0, 0, h, rfl⟩ ?_
     rintro ql5 st ⟨hkl5, x38, x39, h, rfl⟩
     cases ql5 with
     | zero => exact absurd h (by simp [chars_Number.l5])
     | succ ql5 =>
      replace h := (chars_Number.l5.eq_2 _ _ _ _).symm.trans h
      refine AW.seq (AW.region ?_)
      refine s_binI (v := (.bool (decide (x39 < ((bytesI a0).length : Int))))) rfl rfl rfl (AWops.nil (AW.seq ?_))
      rcases itH h with ⟨c40, h⟩ | ⟨c40, h⟩
      ·refine AW.cond_yes rfl c40 (AW.skip (AW.seq (AW.block (AW.seq (AW.region ?_)))))
       obtain ⟨v41, ev41, h⟩ := bnd h
       obtain ⟨pv41, qv41, gv41⟩ := rd_some ev41
       refine s_indexImm (ps := [P.v (.int .u8 v41)]) F.u_66 F.sz_5 rfl rfl pv41 qv41 (flat_at e_u8_len gv41 (e_u8_eq v41)) (s_load1 (c' := (C.p true (.v (.int .u8 v41)))) F.ag_5 rfl rfl (s_assign (d := (sc (.int .u8 v41))) rfl (AWops.nil (AW.seq (AW.seq (AW.region (s_move (d := (sc (.int .u8 v41))) rfl (s_binI (v := (.bool (decide (v41 < 48)))) rfl rfl rfl (s_move (d := (sb (decide (v41 < 48)))) rfl ?_)))))))))
       rcases itH h with ⟨c42, h⟩ | ⟨c42, h⟩
       ·refine AWops.guard_no rfl (nl rfl) rfl c42 ?_
        refine AWops.guard_no rfl (nl rfl) rfl c42 ?_
        refine s_pick_yes (d := (sb true)) rfl c42 rfl (AWops.nil ?_)
        refine AW.cond_yes rfl rfl (AW.seq (AW.region ?_))
        refine s_assign (d := (si 0)) rfl (s_assign (d := (si 5)) rfl (AWops.nil (AW.ret ?_)))
        obtain rfl := Option.some.inj h
        exact ⟨_, rfl, (wg 0 [] [] rfl (le_upd (le_top _) (DLe.tup (ac (TLe.one .sc) (ac (TLe.one .sc) an)))) an)⟩
       ·refine AWops.guard_yes rfl (nl rfl) rfl c42 ?_
        refine s_move (d := (sc (.int .u8 v41))) rfl ?_
        refine AWops.guard_yes rfl (nl rfl) rfl c42 ?_
        refine s_binI (v := (.bool (decide (v41 > 57)))) rfl rfl rfl (s_pick_no (d := (sb (decide (v41 > 57)))) rfl c42 rfl (AWops.nil ?_))
        rcases itH h with ⟨c43, h⟩ | ⟨c43, h⟩
        ·refine AW.cond_yes rfl c43 (AW.seq (AW.region ?_))
         refine s_assign (d := (si 0)) rfl (s_assign (d := (si 5)) rfl (AWops.nil (AW.ret ?_)))
         obtain rfl := Option.some.inj h
         exact ⟨_, rfl, (wg 0 [] [] rfl (le_upd (le_top _) (DLe.tup (ac (TLe.one .sc) (ac (TLe.one .sc) an)))) an)⟩
        ·refine AW.cond_no rfl c43 (AW.skip (AW.seq (AW.region ?_)))
         refine s_move (d := (sb (decide ((a0.size : Int) > 19)))) rfl (s_not rfl (AWops.nil ?_))
         rcases itH h with ⟨c44, h⟩ | ⟨c44, h⟩
         ·refine AW.cond_no rfl (by rw [c44] <;> rfl) (AW.skip (AW.region ?_))
          refine s_binI (v := (.int .i64 (IntKind.i64.wrap (x39 + 1)))) rfl rfl rfl (s_move (d := (si (IntKind.i64.wrap (x39 + 1)))) rfl (AWops.nil ?_))
          exact ⟨_, ⟨78, (upd 78 (upd 78 (upd 78 (upd 78 (upd 78 (upd 78 topF 4 (sb false)) 6 (sc (.int .u64 x38))) 7 (sb (decide ((a0.size : Int) > 19)))) 39 (D.one (C.p false (.sl (bytesI a0).length ((bytesI a0).flatMap e_u8))))) 40 (si ((bytesI a0).length : Int))) 41 (si (IntKind.i64.wrap (x39 + 1)))), []⟩, by omega, (wg 0 [] [] hx (le_upd (le_upd (le_upd (le_upd (le_upd (le_upd (le_top _) (o1 .sc)) (o1 .sc)) (o1 .sc)) (o1 .same)) (o1 .sc)) (o1 .sc)) an), by omega, x38, IntKind.i64.wrap (x39 + 1), h, rfl⟩
         ·refine AW.cond_yes rfl (by rw [c44] <;> rfl) (AW.region ?_)
          refine s_move (d := (sc (.int .u64 x38))) rfl (s_binI (v := (.int .u64 (IntKind.u64.wrap (10 * x38)))) rfl rfl rfl (s_move (d := (sc (.int .u8 v41))) rfl (s_binI (v := (.int .u8 (IntKind.u8.wrap (v41 - 48)))) rfl rfl rfl (s_convI F.u_5 F.u_73 rfl (s_binI (v := (.int .u64 (IntKind.u64.wrap ((IntKind.u64.wrap (10 * x38)) + (IntKind.u64.wrap (IntKind.u8.wrap (v41 - 48))))))) rfl rfl rfl ?_)))))
          refine s_assign (d := (sc (.int .u64 (IntKind.u64.wrap ((IntKind.u64.wrap (10 * x38)) + (IntKind.u64.wrap (IntKind.u8.wrap (v41 - 48)))))))) rfl (AWops.nil (AW.region ?_))
          refine s_binI (v := (.int .i64 (IntKind.i64.wrap (x39 + 1)))) rfl rfl rfl (s_move (d := (si (IntKind.i64.wrap (x39 + 1)))) rfl (AWops.nil ?_))
          exact ⟨_, ⟨78, (upd 78 (upd 78 (upd 78 (upd 78 (upd 78 (upd 78 topF 4 (sb false)) 6 (sc (.int .u64 (IntKind.u64.wrap ((IntKind.u64.wrap (10 * x38)) + (IntKind.u64.wrap (IntKind.u8.wrap (v41 - 48)))))))) 7 (sb (decide ((a0.size : Int) > 19)))) 39 (D.one (C.p false (.sl (bytesI a0).length ((bytesI a0).flatMap e_u8))))) 40 (si ((bytesI a0).length : Int))) 41 (si (IntKind.i64.wrap (x39 + 1)))), []⟩, by omega, (wg 0 [] [] hx (le_upd (le_upd (le_upd (le_upd (le_upd (le_upd (le_top _) (o1 .sc)) (o1 .sc)) (o1 .sc)) (o1 .same)) (o1 .sc)) (o1 .sc)) an), by omega, IntKind.u64.wrap ((IntKind.u64.wrap (10 * x38)) + (IntKind.u64.wrap (IntKind.u8.wrap (v41 - 48)))), IntKind.i64.wrap (x39 + 1), h, rfl⟩
      ·refine AW.cond_no rfl c40 (AW.exit (AW.seq (AW.region ?_)))
       refine s_assign (d := (sc (.int .u64 9223372036854775808))) rfl (AWops.nil (AW.seq (AW.seq (AW.region ?_))))
       refine s_move (d := (sb false)) rfl (s_not rfl (AWops.nil ?_))
       refine AW.cond_yes rfl rfl (AW.region ?_)
       refine s_move (d := (sc (.int .u64 9223372036854775808))) rfl (s_binI (v := (.int .u64 9223372036854775807)) rfl rfl (by rfl) (s_assign (d := (sc (.int .u64 9223372036854775807))) rfl (AWops.nil (AW.seq (AW.block (AW.seq (AW.region (s_move (d := (sb (decide ((a0.size : Int) > 19)))) rfl (s_move (d := (sb (decide ((a0.size : Int) > 19)))) rfl ?_)))))))))
       rcases itH h with ⟨c45, h⟩ | ⟨c45, h⟩
       ·iterate 3 refine AWops.guard_no rfl (nl rfl) rfl c45 ?_
        refine s_pick_yes (d := (sb true)) rfl c45 rfl (s_assign (d := (sb true)) rfl (AWops.nil ?_))
        refine AW.cond_yes rfl rfl (AW.seq (AW.region ?_))
        refine s_assign (d := (si 0)) rfl (s_assign (d := (si 4)) rfl (AWops.nil (AW.ret ?_)))
        obtain rfl := Option.some.inj h
        exact ⟨_, rfl, (wg 0 [] [] rfl (le_upd (le_top _) (DLe.tup (ac (TLe.one .sc) (ac (TLe.one .sc) an)))) an)⟩
       ·refine AWops.guard_yes rfl (nl rfl) rfl c45 ?_
        refine s_move (d := (sc (.int .u64 x38))) rfl ?_
        refine AWops.guard_yes rfl (nl rfl) rfl c45 ?_
        refine s_move (d := (sc (.int .u64 9223372036854775807))) rfl ?_
        refine AWops.guard_yes rfl (nl rfl) rfl c45 ?_
        refine s_binI (v := (.bool (decide (x38 > 9223372036854775807)))) rfl rfl rfl (s_pick_no (d := (sb (decide (x38 > 9223372036854775807)))) rfl c45 rfl (s_assign (d := (sb (decide (x38 > 9223372036854775807)))) rfl (AWops.nil ?_)))
        rcases itH h with ⟨c46, h⟩ | ⟨c46, h⟩
        ·refine AW.cond_yes rfl c46 (AW.seq (AW.region ?_))
         refine s_assign (d := (si 0)) rfl (s_assign (d := (si 4)) rfl (AWops.nil (AW.ret ?_)))
         obtain rfl := Option.some.inj h
         exact ⟨_, rfl, (wg 0 [] [] rfl (le_upd (le_top _) (DLe.tup (ac (TLe.one .sc) (ac (TLe.one .sc) an)))) an)⟩
        ·refine AW.cond_no rfl c46 (AW.seq (AW.region ?_))
         refine s_move (d := (sb false)) rfl (s_assign (d := (sb false)) rfl (AWops.nil ?_))
         refine AW.cond_no rfl rfl (AW.skip (AW.seq (AW.region ?_)))
         refine s_move (d := (sc (.int .u64 x38))) rfl (s_convI F.u_73 F.u_3 rfl (s_assign (d := (si (IntKind.i64.wrap x38))) rfl (s_assign (d := (si 0)) rfl (AWops.nil (AW.ret ?_)))))
         obtain rfl := Option.some.inj h
         exact ⟨_, rfl, (wg 0 [] [] rfl (le_upd (le_top _) (DLe.tup (ac (TLe.one .sc) (ac (TLe.one .sc) an)))) an)⟩
   ·iterate 3 refine AWops.guard_no rfl (nl rfl) rfl c36 ?_
    refine AWops.guard_yes rfl (nl rfl) rfl c34 ?_
    refine s_pick_no (d := (sb false)) rfl c36 rfl (s_pick_no (d := (sb false)) rfl c34 rfl (AWops.nil ?_))
    refine AW.cond_no rfl rfl (AW.skip (AW.seq (AW.region ?_)))
    refine s_assign (d := (sc (.int .u64 0))) rfl (AWops.nil (AW.seq (AW.region ?_)))
    refine s_move (d := (st_ a0)) rfl (s_len (n := a0.size) F.u_9 rfl (.inl ⟨⟨_, _, rfl⟩, rfl⟩) (s_binI (v := (.bool (decide ((a0.size : Int) > 19)))) rfl rfl rfl (s_assign (d := (sb (decide ((a0.size : Int) > 19)))) rfl (AWops.nil (AW.seq (AW.seq (AW.region (s_move (d := (st_ a0)) rfl (t_ofStr F.u_9 F.u_66 F.u_5 rfl ?_)))))))))
    refine s_len (n := (bytesI a0).length) F.u_66 rfl (.inr ⟨(fun _ _ h => by cases h), ⟨_, rfl⟩⟩) (s_move (d := (si 0)) rfl (AWops.nil (AW.block ?_)))
    refine AW.loopw (st0 := ⟨78, (upd 78 (upd 78 (upd 78 (upd 78 (upd 78 (upd 78 topF 4 (sb false)) 6 (sc (.int .u64 0))) 7 (sb (decide ((a0.size : Int) > 19)))) 39 (D.one (C.p false (.sl (bytesI a0).length ((bytesI a0).flatMap e_u8))))) 40 (si ((bytesI a0).length : Int))) 41 (si 0)), []⟩) (fun kv st => kv ≤ k ∧ ∃ (x47 : Int) (x48 : Int), chars_Number.l6 kv x47 x48 a0 = some r ∧ st = ⟨78, (upd 78 (upd 78 (upd 78 (upd 78 (upd 78 (upd 78 topF 4 (sb false)) 6 (sc (.int .u64 x47))) 7 (sb (decide ((a0.size : Int) > 19)))) 39 (D.one (C.p false (.sl (bytesI a0).length ((bytesI a0).flatMap e_u8))))) 40 (si ((bytesI a0).length : Int))) 41 (si x48)), []⟩) (k := k) (wg 0 [] [] hx (le_upd (le_upd (le_upd (le_upd (le_upd (le_upd (le_top _) (o1 .sc)) (o1 .sc)) (o1 .sc)) (o1 .same)) (o1 .sc)) (o1 .sc)) an) ⟨Nat.le_refl _, 0, 0, h, rfl⟩ ?_
    rintro ql6 st ⟨hkl6, x47, x48, h, rfl⟩
    cases ql6 with
    | zero => exact absurd h (by simp [chars_Number.l6])
    | succ ql6 =>
     replace h := (chars_Number.l6.eq_2 _ _ _ _).symm.trans h
     refine AW.seq (AW.region ?_)
     refine s_binI (v := (.bool (decide (x48 < ((bytesI a0).length : Int))))) rfl rfl rfl (AWops.nil (AW.seq ?_))
     rcases itH h with ⟨c49, h⟩ | ⟨c49, h⟩
     ·refine AW.cond_yes rfl c49 (AW.skip (AW.seq (AW.block (AW.seq (AW.region ?_)))))
      obtain ⟨v50, ev50, h⟩ := bnd h
      obtain ⟨pv50, qv50, gv50⟩ := rd_some ev50
      refine s_indexImm (ps := [P.v (.int .u8 v50)]) F.u_66 F.sz_5 rfl rfl pv50 qv50 (flat_at e_u8_len gv50 (e_u8_eq v50)) (s_load1 (c' := (C.p true (.v (.int .u8 v50)))) F.ag_5 rfl rfl (s_assign (d := (sc (.int .u8 v50))) rfl (AWops.nil (AW.seq (AW.seq (AW.region (s_move (d := (sc (.int .u8 v50))) rfl (s_binI (v := (.bool (decide (v50 < 48)))) rfl rfl rfl (s_move (d := (sb (decide (v50 < 48)))) rfl ?_)))))))))
      rcases itH h with ⟨c51, h⟩ | ⟨c51, h⟩
      ·refine AWops.guard_no rfl (nl rfl) rfl c51 ?_
       refine AWops.guard_no rfl (nl rfl) rfl c51 ?_
       refine s_pick_yes (d := (sb true)) rfl c51 rfl (AWops.nil ?_)
       refine AW.cond_yes rfl rfl (AW.seq (AW.region ?_))
       refine s_assign (d := (si 0)) rfl (s_assign (d := (si 5)) rfl (AWops.nil (AW.ret ?_)))
       obtain rfl := Option.some.inj h
       exact ⟨_, rfl, (wg 0 [] [] rfl (le_upd (le_top _) (DLe.tup (ac (TLe.one .sc) (ac (TLe.one .sc) an)))) an)⟩
      ·refine AWops.guard_yes rfl (nl rfl) rfl c51 ?_
       refine s_move (d := (sc (.int .u8 v50))) rfl ?_
       refine AWops.guard_yes rfl (nl rfl) rfl c51 ?_
       refine s_binI (v := (.bool (decide (v50 > 57)))) rfl rfl rfl (s_pick_no (d := (sb (decide (v50 > 57)))) rfl c51 rfl (AWops.nil ?_))
       rcases itH h with ⟨c52, h⟩ | ⟨c52, h⟩
       ·refine AW.cond_yes rfl c52 (AW.seq (AW.region ?_))
        refine s_assign (d := (si 0)) rfl (s_assign (d := (si 5)) rfl (AWops.nil (AW.ret ?_)))
        obtain rfl := Option.some.inj h
        exact ⟨_, rfl, (wg 0 [] [] rfl (le_upd (le_top _) (DLe.tup (ac (TLe.one .sc) (ac (TLe.one .sc) an)))) an)⟩
       ·refine AW.cond_no rfl c52 (AW.skip (AW.seq (AW.region ?_)))
        refine s_move (d := (sb (decide ((a0.size : Int) > 19)))) rfl (s_not rfl (AWops.nil ?_))
        rcases itH h with ⟨c53, h⟩ | ⟨c53, h⟩
        ·refine AW.cond_no rfl (by rw [c53] <;> rfl) (AW.skip (AW.region ?_))
         refine s_binI (v := (.int .i64 (IntKind.i64.wrap (x48 + 1)))) rfl rfl rfl (s_move (d := (si (IntKind.i64.wrap (x48 + 1)))) rfl (AWops.nil ?_))
         exact ⟨_, ⟨78, (upd 78 (upd 78 (upd 78 (upd 78 (upd 78 (upd 78 topF 4 (sb false)) 6 (sc (.int .u64 x47))) 7 (sb (decide ((a0.size : Int) > 19)))) 39 (D.one (C.p false (.sl (bytesI a0).length ((bytesI a0).flatMap e_u8))))) 40 (si ((bytesI a0).length : Int))) 41 (si (IntKind.i64.wrap (x48 + 1)))), []⟩, by omega, (wg 0 [] [] hx (le_upd (le_upd (le_upd (le_upd (le_upd (le_upd (le_top _) (o1 .sc)) (o1 .sc)) (o1 .sc)) (o1 .same)) (o1 .sc)) (o1 .sc)) an), by omega, x47, IntKind.i64.wrap (x48 + 1), h, rfl⟩
        ·refine AW.cond_yes rfl (by rw [c53] <;> rfl) (AW.region ?_)
         refine s_move (d := (sc (.int .u64 x47))) rfl (s_binI (v := (.int .u64 (IntKind.u64.wrap (10 * x47)))) rfl rfl rfl (s_move (d := (sc (.int .u8 v50))) rfl (s_binI (v := (.int .u8 (IntKind.u8.wrap (v50 - 48)))) rfl rfl rfl (s_convI F.u_5 F.u_73 rfl (s_binI (v := (.int .u64 (IntKind.u64.wrap ((IntKind.u64.wrap (10 * x47)) + (IntKind.u64.wrap (IntKind.u8.wrap (v50 - 48))))))) rfl rfl rfl ?_)))))
         refine s_assign (d := (sc (.int .u64 (IntKind.u64.wrap ((IntKind.u64.wrap (10 * x47)) + (IntKind.u64.wrap (IntKind.u8.wrap (v50 - 48)))))))) rfl (AWops.nil (AW.region ?_))
         refine s_binI (v := (.int .i64 (IntKind.i64.wrap (x48 + 1)))) rfl rfl rfl (s_move (d := (si (IntKind.i64.wrap (x48 + 1)))) rfl (AWops.nil ?_))
         exact ⟨_, ⟨78, (upd 78 (upd 78 (upd 78 (upd 78 (upd 78 (upd 78 topF 4 (sb false)) 6 (sc (.int .u64 (IntKind.u64.wrap ((IntKind.u64.wrap (10 * x47)) + (IntKind.u64.wrap (IntKind.u8.wrap (v50 - 48)))))))) 7 (sb (decide ((a0.size : Int) > 19)))) 39 (D.one (C.p false (.sl (bytesI a0).length ((bytesI a0).flatMap e_u8))))) 40 (si ((bytesI a0).length : Int))) 41 (si (IntKind.i64.wrap (x48 + 1)))), []⟩, by omega, (wg 0 [] [] hx (le_upd (le_upd (le_upd (le_upd (le_upd (le_upd (le_top _) (o1 .sc)) (o1 .sc)) (o1 .sc)) (o1 .same)) (o1 .sc)) (o1 .sc)) an), by omega, IntKind.u64.wrap ((IntKind.u64.wrap (10 * x47)) + (IntKind.u64.wrap (IntKind.u8.wrap (v50 - 48)))), IntKind.i64.wrap (x48 + 1), h, rfl⟩
     ·refine AW.cond_no rfl c49 (AW.exit (AW.seq (AW.region ?_)))
      refine s_assign (d := (sc (.int .u64 9223372036854775808))) rfl (AWops.nil (AW.seq (AW.seq (AW.region ?_))))
      refine s_move (d := (sb false)) rfl (s_not rfl (AWops.nil ?_))
      refine AW.cond_yes rfl rfl (AW.region ?_)
      refine s_move (d := (sc (.int .u64 9223372036854775808))) rfl (s_binI (v := (.int .u64 9223372036854775807)) rfl rfl (by rfl) (s_assign (d := (sc (.int .u64 9223372036854775807))) rfl (AWops.nil (AW.seq (AW.block (AW.seq (AW.region (s_move (d := (sb (decide ((a0.size : Int) > 19)))) rfl (s_move (d := (sb (decide ((a0.size : Int) > 19)))) rfl ?_)))))))))
      rcases itH h with ⟨c54, h⟩ | ⟨c54, h⟩
      ·iterate 3 refine AWops.guard_no rfl (nl rfl) rfl c54 ?_
       refine s_pick_yes (d := (sb true)) rfl c54 rfl (s_assign (d := (sb true)) rfl (AWops.nil ?_))
       refine AW.cond_yes rfl rfl (AW.seq (AW.region ?_))
       refine s_assign (d := (si 0)) rfl (s_assign (d := (si 4)) rfl (AWops.nil (AW.ret ?_)))
       obtain rfl := Option.some.inj h
       exact ⟨_, rfl, (wg 0 [] [] rfl (le_upd (le_top _) (DLe.tup (ac (TLe.one .sc) (ac (TLe.one .sc) an)))) an)⟩
      ·refine AWops.guard_yes rfl (nl rfl) rfl c54 ?_
       refine s_move (d := (sc (.int .u64 x47))) rfl ?_
       refine AWops.guard_yes rfl (nl rfl) rfl c54 ?_
       refine s_move (d := (sc (.int .u64 9223372036854775807))) rfl ?_
       refine AWops.guard_yes rfl (nl rfl) rfl c54 ?_
       refine s_binI (v := (.bool (decide (x47 > 9223372036854775807)))) rfl rfl rfl (s_pick_no (d := (sb (decide (x47 > 9223372036854775807)))) rfl c54 rfl (s_assign (d := (sb (decide (x47 > 9223372036854775807)))) rfl (AWops.nil ?_)))
       rcases itH h with ⟨c55, h⟩ | ⟨c55, h⟩
       ·refine AW.cond_yes rfl c55 (AW.seq (AW.region ?_))
        refine s_assign (d := (si 0)) rfl (s_assign (d := (si 4)) rfl (AWops.nil (AW.ret ?_)))
        obtain rfl := Option.some.inj h
        exact ⟨_, rfl, (wg 0 [] [] rfl (le_upd (le_top _) (DLe.tup (ac (TLe.one .sc) (ac (TLe.one .sc) an)))) an)⟩
       ·refine AW.cond_no rfl c55 (AW.seq (AW.region ?_))
        refine s_move (d := (sb false)) rfl (s_assign (d := (sb false)) rfl (AWops.nil ?_))
        refine AW.cond_no rfl rfl (AW.skip (AW.seq (AW.region ?_)))
        refine s_move (d := (sc (.int .u64 x47))) rfl (s_convI F.u_73 F.u_3 rfl (s_assign (d := (si (IntKind.i64.wrap x47))) rfl (s_assign (d := (si 0)) rfl (AWops.nil (AW.ret ?_)))))
        obtain rfl := Option.some.inj h
        exact ⟨_, rfl, (wg 0 [] [] rfl (le_upd (le_top _) (DLe.tup (ac (TLe.one .sc) (ac (TLe.one .sc) an)))) an)⟩
def tree_part.f (k : Nat) (a0 : ByteArray) : Option (ByteArray × Int) := (strings_LastIndexByte.f k a0 46).bind fun r1 => if (decide (r1 < 1)) = true then (some ((⟨#[]⟩ : ByteArray), 0)) else (if (decide (0 ≤ (IntKind.i64.wrap (r1 + 1)) ∧ (IntKind.i64.wrap (r1 + 1)) ≤ (a0.size : Int) ∧ (a0.size : Int) ≤ (a0.size : Int))) = true then ((chars_Number.f k (a0.extract (IntKind.i64.wrap (r1 + 1)).toNat a0.size)).bind fun r4 => if (r4.2 != 0) = true then (some ((⟨#[]⟩ : ByteArray), 0)) else (if (decide (r4.1 < 1)) = true then (some ((⟨#[]⟩ : ByteArray), 0)) else (if (decide (0 ≤ 0 ∧ 0 ≤ r1 ∧ r1 ≤ (a0.size : Int))) = true then (some (a0.extract 0 r1.toNat, r4.1)) else none))) else none)
theorem tree_part.meets (k : Nat) (a0 : ByteArray) (r : ByteArray × Int) (h : tree_part.f k a0 = some r) : Meets Tryd.prog 32 [(st_ a0)] [] (D.tup [(st_ r.1), (si r.2)]) [] := by
 unfold tree_part.f at h
 refine Meets.of_body (n := 29) Tryd.func32 rfl rfl (nl rfl) fun x hx => ?_
 replace hx : x.k = 0 := hx
 show AW _ x _ _ ⟨29, fr0 [(st_ a0)], []⟩
 refine AW.seq (AW.region ?_)
 refine s_assign (d := (st_ (⟨#[]⟩ : ByteArray))) rfl (s_assign (d := (si 0)) rfl (AWops.nil (AW.seq (AW.region (s_move (d := (st_ a0)) rfl ?_)))))
 obtain ⟨r1, er1, h⟩ := bnd h
 refine cc [] [] (si r1) F.ca_25 rfl rfl (ac (.one .sc) (ac (.one .sc) an)) an (strings_LastIndexByte.meets _ a0 46 r1 er1) (s_assign (d := (si r1)) rfl (AWops.nil (AW.seq (AW.seq (AW.region (s_move (d := (si r1)) rfl (s_binI (v := (.bool (decide (r1 < 1)))) rfl rfl rfl (AWops.nil ?_))))))))
 rcases itH h with ⟨c2, h⟩ | ⟨c2, h⟩
 ·refine AW.cond_yes rfl c2 (AW.seq (AW.region ?_))
  refine s_assign (d := (st_ (⟨#[]⟩ : ByteArray))) rfl (s_assign (d := (si 0)) rfl (AWops.nil (AW.ret ?_)))
  obtain rfl := Option.some.inj h
  exact ⟨_, rfl, (wg 0 [] [] rfl (le_upd (le_top _) (DLe.tup (ac (TLe.one .sc) (ac (TLe.one .sc) an)))) an)⟩
 ·refine AW.cond_no rfl c2 (AW.skip (AW.seq (AW.region ?_)))
  refine s_move (d := (st_ a0)) rfl (s_move (d := (si r1)) rfl (s_binI (v := (.int .i64 (IntKind.i64.wrap (r1 + 1)))) rfl rfl rfl ?_))
  obtain ⟨c3, h⟩ := gdH h
  have dc3 := of_decide_eq_true c3
  refine s_sliceStr F.u_9 rfl (.yes rfl (by omega) rfl) .no (by omega) (by omega) ?_
  obtain ⟨r4, er4, h⟩ := bnd h
  refine cc [] [] (D.tup [(si r4.1), (si r4.2)]) F.ca_44 rfl rfl (ac (.one .sc) an) an (chars_Number.meets _ (a0.extract (IntKind.i64.wrap (r1 + 1)).toNat a0.size) r4 er4) (s_move (d := (D.tup [(si r4.1), (si r4.2)])) rfl (s_extract (d := (si r4.1)) rfl rfl (s_extract (d := (si r4.2)) rfl rfl (s_assign (d := (si r4.1)) rfl (s_assign (d := (si r4.2)) rfl (AWops.nil (AW.seq (AW.seq (AW.region ?_)))))))))
  refine s_move (d := (si r4.2)) rfl (s_binI (v := (.bool (r4.2 != 0))) rfl rfl rfl (s_move (d := (sb (r4.2 != 0))) rfl ?_))
  rcases itH h with ⟨c5, h⟩ | ⟨c5, h⟩
  ·refine AWops.guard_no rfl (nl rfl) rfl c5 ?_
   refine AWops.guard_no rfl (nl rfl) rfl c5 ?_
   refine s_pick_yes (d := (sb true)) rfl c5 rfl (AWops.nil ?_)
   refine AW.cond_yes rfl rfl (AW.seq (AW.region ?_))
   refine s_assign (d := (st_ (⟨#[]⟩ : ByteArray))) rfl (s_assign (d := (si 0)) rfl (AWops.nil (AW.ret ?_)))
   obtain rfl := Option.some.inj h
   exact ⟨_, rfl, (wg 0 [] [] rfl (le_upd (le_top _) (DLe.tup (ac (TLe.one .sc) (ac (TLe.one .sc) an)))) an)⟩
  ·refine AWops.guard_yes rfl (nl rfl) rfl c5 ?_
   refine s_move (d := (si r4.1)) rfl ?_
   refine AWops.guard_yes rfl (nl rfl) rfl c5 ?_
   refine s_binI (v := (.bool (decide (r4.1 < 1)))) rfl rfl rfl (s_pick_no (d := (sb (decide (r4.1 < 1)))) rfl c5 rfl (AWops.nil ?_))
   rcases itH h with ⟨c6, h⟩ | ⟨c6, h⟩
   ·refine AW.cond_yes rfl c6 (AW.seq (AW.region ?_))
    refine s_assign (d := (st_ (⟨#[]⟩ : ByteArray))) rfl (s_assign (d := (si 0)) rfl (AWops.nil (AW.ret ?_)))
    obtain rfl := Option.some.inj h
    exact ⟨_, rfl, (wg 0 [] [] rfl (le_upd (le_top _) (DLe.tup (ac (TLe.one .sc) (ac (TLe.one .sc) an)))) an)⟩
   ·refine AW.cond_no rfl c6 (AW.skip (AW.seq (AW.region ?_)))
    refine s_move (d := (st_ a0)) rfl (s_move (d := (si r1)) rfl ?_)
    obtain ⟨c7, h⟩ := gdH h
    have dc7 := of_decide_eq_true c7
    refine s_sliceStr F.u_9 rfl .no (.yes rfl (by omega) rfl) (by omega) (by omega) (s_move (d := (si r4.1)) rfl (s_assign (d := (st_ (a0.extract 0 r1.toNat))) rfl (s_assign (d := (si r4.1)) rfl (AWops.nil (AW.ret ?_)))))
    obtain rfl := Option.some.inj h
    exact ⟨_, rfl, (wg 0 [] [] rfl (le_upd (le_top _) (DLe.tup (ac (TLe.one .sc) (ac (TLe.one .sc) an)))) an)⟩
def bytealg_CompareString.f (k : Nat) (a0 : ByteArray) (a1 : ByteArray) : Option Int := some (cmpS a0 a1)
theorem bytealg_CompareString.meets (k : Nat) (a0 : ByteArray) (a1 : ByteArray) (r : Int) (h : bytealg_CompareString.f k a0 a1 = some r) : Meets Tryd.prog 45 [(st_ a0), (st_ a1)] [] (si r) [] := by
 unfold bytealg_CompareString.f at h
 refine Meets.of_body (n := 8) Tryd.func45 rfl rfl (nl rfl) fun x hx => ?_
 replace hx : x.k = 0 := hx
 show AW _ x _ _ ⟨8, fr0 [(st_ a0), (st_ a1)], []⟩
 refine AW.seq (AW.region ?_)
 refine s_assign (d := (si 0)) rfl (AWops.nil (AW.seq (AW.region ?_)))
 refine s_move (d := (st_ a0)) rfl (s_move (d := (st_ a1)) rfl (s_ext2 F.ex_53 rfl rfl rfl (run_cmp _ _) (s_assign (d := (si (cmpS a0 a1))) rfl (AWops.nil (AW.ret ?_)))))
 obtain rfl := Option.some.inj h
 exact ⟨_, rfl, (wg 0 [] [] rfl (le_upd (le_top _) (o1 .sc)) an)⟩
def strings_Compare.f (k : Nat) (a0 : ByteArray) (a1 : ByteArray) : Option Int := (bytealg_CompareString.f k a0 a1).bind fun r1 => some r1
theorem strings_Compare.meets (k : Nat) (a0 : ByteArray) (a1 : ByteArray) (r : Int) (h : strings_Compare.f k a0 a1 = some r) : Meets Tryd.prog 34 [(st_ a0), (st_ a1)] [] (si r) [] := by
 unfold strings_Compare.f at h
 refine Meets.of_body (n := 8) Tryd.func34 rfl rfl (nl rfl) fun x hx => ?_
 replace hx : x.k = 0 := hx
 show AW _ x _ _ ⟨8, fr0 [(st_ a0), (st_ a1)], []⟩
 refine AW.seq (AW.region ?_)
 refine s_assign (d := (si 0)) rfl (AWops.nil (AW.seq (AW.region ?_)))
 refine s_move (d := (st_ a0)) rfl (s_move (d := (st_ a1)) rfl ?_)
 obtain ⟨r1, er1, h⟩ := bnd h
 refine cc [] [] (si r1) F.ca_45 rfl rfl (ac (.one .sc) (ac (.one .sc) an)) an (bytealg_CompareString.meets _ a0 a1 r1 er1) (s_assign (d := (si r1)) rfl (AWops.nil (AW.ret ?_)))
 obtain rfl := Option.some.inj h
 exact ⟨_, rfl, (wg 0 [] [] rfl (le_upd (le_top _) (o1 .sc)) an)⟩
def cmp_isNaN_int.f (k : Nat) (a0 : Int) : Option Bool := some (a0 != a0)
theorem cmp_isNaN_int.meets (k : Nat) (a0 : Int) (r : Bool) (h : cmp_isNaN_int.f k a0 = some r) : Meets Tryd.prog 46 [(si a0)] [] (sb r) [] := by
 unfold cmp_isNaN_int.f at h
 refine Meets.of_body (n := 6) Tryd.func46 rfl rfl (nl rfl) fun x hx => ?_
 replace hx : x.k = 0 := hx
 show AW _ x _ _ ⟨6, fr0 [(si a0)], []⟩
 refine AW.seq (AW.region ?_)
 refine s_assign (d := (sb false)) rfl (AWops.nil (AW.seq (AW.region ?_)))
 refine s_move (d := (si a0)) rfl (s_move (d := (si a0)) rfl (s_binI (v := (.bool (a0 != a0))) rfl rfl rfl (s_assign (d := (sb (a0 != a0))) rfl (AWops.nil (AW.ret ?_)))))
 obtain rfl := Option.some.inj h
 exact ⟨_, rfl, (wg 0 [] [] rfl (le_upd (le_top _) (o1 .sc)) an)⟩
def cmp_Compare_int.f (k : Nat) (a0 : Int) (a1 : Int) : Option Int := (cmp_isNaN_int.f k a0).bind fun r1 => (cmp_isNaN_int.f k a1).bind fun r2 => if r1 = true then (if r2 = true then (some 0) else (some (-1))) else (if r2 = true then (some 1) else (if (decide (a0 < a1)) = true then (some (-1)) else (if (decide (a0 > a1)) = true then (some 1) else (some 0))))
theorem cmp_Compare_int.meets (k : Nat) (a0 : Int) (a1 : Int) (r : Int) (h : cmp_Compare_int.f k a0 a1 = some r) : Meets Tryd.prog 35 [(si a0), (si a1)] [] (si r) [] := by
 unfold cmp_Compare_int.f at h
 refine Meets.of_body (n := 20) Tryd.func35 rfl rfl (nl rfl) fun x hx => ?_
 replace hx : x.k = 0 := hx
 show AW _ x _ _ ⟨20, fr0 [(si a0), (si a1)], []⟩
 refine AW.seq (AW.region ?_)
 refine s_assign (d := (si 0)) rfl (AWops.nil (AW.seq (AW.region ?_)))
 refine s_move (d := (si a0)) rfl ?_
 obtain ⟨r1, er1, h⟩ := bnd h
 refine cc [] [] (sb r1) F.ca_46 rfl rfl (ac (.one .sc) an) an (cmp_isNaN_int.meets _ a0 r1 er1) (s_assign (d := (sb r1)) rfl (AWops.nil (AW.seq (AW.region (s_move (d := (si a1)) rfl ?_)))))
 obtain ⟨r2, er2, h⟩ := bnd h
 refine cc [] [] (sb r2) F.ca_46 rfl rfl (ac (.one .sc) an) an (cmp_isNaN_int.meets _ a1 r2 er2) (s_assign (d := (sb r2)) rfl (AWops.nil (AW.seq (AW.seq (AW.region (s_move (d := (sb r1)) rfl (AWops.nil ?_)))))))
 rcases itH h with ⟨c3, h⟩ | ⟨c3, h⟩
 ·refine AW.cond_yes rfl c3 (AW.seq (AW.seq (AW.region ?_)))
  refine s_move (d := (sb r2)) rfl (AWops.nil ?_)
  rcases itH h with ⟨c4, h⟩ | ⟨c4, h⟩
  ·refine AW.cond_yes rfl c4 (AW.seq (AW.region ?_))
   refine s_assign (d := (si 0)) rfl (AWops.nil (AW.ret ?_))
   obtain rfl := Option.some.inj h
   exact ⟨_, rfl, (wg 0 [] [] rfl (le_upd (le_top _) (o1 .sc)) an)⟩
  ·refine AW.cond_no rfl c4 (AW.skip (AW.seq (AW.region ?_)))
   refine s_assign (d := (si (-1))) rfl (AWops.nil (AW.ret ?_))
   obtain rfl := Option.some.inj h
   exact ⟨_, rfl, (wg 0 [] [] rfl (le_upd (le_top _) (o1 .sc)) an)⟩
 ·refine AW.cond_no rfl c3 (AW.skip (AW.seq (AW.seq (AW.region ?_))))
  refine s_move (d := (sb r2)) rfl (AWops.nil ?_)
  rcases itH h with ⟨c5, h⟩ | ⟨c5, h⟩
  ·refine AW.cond_yes rfl c5 (AW.seq (AW.region ?_))
   refine s_assign (d := (si 1)) rfl (AWops.nil (AW.ret ?_))
   obtain rfl := Option.some.inj h
   exact ⟨_, rfl, (wg 0 [] [] rfl (le_upd (le_top _) (o1 .sc)) an)⟩
  ·refine AW.cond_no rfl c5 (AW.skip (AW.seq (AW.seq (AW.region ?_))))
   refine s_move (d := (si a0)) rfl (s_move (d := (si a1)) rfl (s_binI (v := (.bool (decide (a0 < a1)))) rfl rfl rfl (AWops.nil ?_)))
   rcases itH h with ⟨c6, h⟩ | ⟨c6, h⟩
   ·refine AW.cond_yes rfl c6 (AW.seq (AW.region ?_))
    refine s_assign (d := (si (-1))) rfl (AWops.nil (AW.ret ?_))
    obtain rfl := Option.some.inj h
    exact ⟨_, rfl, (wg 0 [] [] rfl (le_upd (le_top _) (o1 .sc)) an)⟩
   ·refine AW.cond_no rfl c6 (AW.skip (AW.seq (AW.seq (AW.region ?_))))
    refine s_move (d := (si a0)) rfl (s_move (d := (si a1)) rfl (s_binI (v := (.bool (decide (a0 > a1)))) rfl rfl rfl (AWops.nil ?_)))
    rcases itH h with ⟨c7, h⟩ | ⟨c7, h⟩
    ·refine AW.cond_yes rfl c7 (AW.seq (AW.region ?_))
     refine s_assign (d := (si 1)) rfl (AWops.nil (AW.ret ?_))
     obtain rfl := Option.some.inj h
     exact ⟨_, rfl, (wg 0 [] [] rfl (le_upd (le_top _) (o1 .sc)) an)⟩
    ·refine AW.cond_no rfl c7 (AW.skip (AW.seq (AW.region ?_)))
     refine s_assign (d := (si 0)) rfl (AWops.nil (AW.ret ?_))
     obtain rfl := Option.some.inj h
     exact ⟨_, rfl, (wg 0 [] [] rfl (le_upd (le_top _) (o1 .sc)) an)⟩
mutual
def cmp_Or_int.l0 : Nat → Int → (List Int) → Option Int
 | 0, _, _ => none
 | k + 1, x1, a0 => if (decide (x1 < (a0.length : Int))) = true then ((rd a0 x1).bind fun v3 => if (v3 != 0) = true then (some v3) else (cmp_Or_int.l0 k (IntKind.i64.wrap (x1 + 1)) a0)) else (some 0)
end
def cmp_Or_int.f (k : Nat) (a0 : List Int) : Option Int := cmp_Or_int.l0 k 0 a0
theorem cmp_Or_int.meets (k : Nat) (a0 : List Int) (r : Int) (h : cmp_Or_int.f k a0 = some r) : Meets Tryd.prog 33 [(D.one (C.p false (.sl a0.length (a0.flatMap e_i64))))] [] (si r) [] := by
 unfold cmp_Or_int.f at h
 refine Meets.of_body (n := 18) Tryd.func33 rfl rfl (nl rfl) fun x hx => ?_
 replace hx : x.k = 0 := hx
 show AW _ x _ _ ⟨18, fr0 [(D.one (C.p false (.sl a0.length (a0.flatMap e_i64))))], []⟩
 refine AW.seq (AW.region ?_)
 refine s_assign (d := (si 0)) rfl (AWops.nil (AW.seq (AW.region ?_)))
 refine s_assign (d := (si 0)) rfl (AWops.nil (AW.seq (AW.seq (AW.region ?_))))
 refine s_move (d := (D.one (C.p false (.sl a0.length (a0.flatMap e_i64))))) rfl (s_len (n := a0.length) F.u_26 rfl (.inr ⟨(fun _ _ h => by cases h), ⟨_, rfl⟩⟩) (s_move (d := (si 0)) rfl (AWops.nil (AW.block ?_))))
 refine AW.loopw (st0 := ⟨18, (upd 18 (upd 18 (upd 18 (upd 18 topF 3 (si 0)) 6 (D.one (C.p false (.sl a0.length (a0.flatMap e_i64))))) 7 (si (a0.length : Int))) 8 (si 0)), []⟩) (fun kv st => kv ≤ k ∧ ∃ (x1 : Int), cmp_Or_int.l0 kv x1 a0 = some r ∧ st = ⟨18, (upd 18 (upd 18 (upd 18 (upd 18 topF 3 (si 0)) 6 (D.one (C.p false (.sl a0.length (a0.flatMap e_i64))))) 7 (si (a0.length : Int))) 8 (si x1)), []⟩) (k := k) (wg 0 [] [] hx (le_upd (le_upd (le_upd (le_upd (le_top _) (o1 .sc)) (o1 .same)) (o1 .sc)) (o1 .sc)) an) ⟨Nat.le_refl _, 0, h, rfl⟩ ?_
 rintro ql0 st ⟨hkl0, x1, h, rfl⟩
 cases ql0 with
 | zero => exact absurd h (by simp [cmp_Or_int.l0])
 | succ ql0 =>
  replace h := (cmp_Or_int.l0.eq_2 _ _ _).symm.trans h
  refine AW.seq (AW.region ?_)
  refine s_binI (v := (.bool (decide (x1 < (a0.length : Int))))) rfl rfl rfl (AWops.nil (AW.seq ?_))
  rcases itH h with ⟨c2, h⟩ | ⟨c2, h⟩
  ·refine AW.cond_yes rfl c2 (AW.skip (AW.seq (AW.block (AW.seq (AW.region ?_)))))
   obtain ⟨v3, ev3, h⟩ := bnd h
   obtain ⟨pv3, qv3, gv3⟩ := rd_some ev3
   refine s_indexImm (ps := [P.v (.int .i64 v3)]) F.u_26 F.sz_3 rfl rfl pv3 qv3 (flat_at e_i64_len gv3 (e_i64_eq v3)) (s_load1 (c' := (ci v3)) F.ag_3 rfl rfl (s_assign (d := (si v3)) rfl (AWops.nil (AW.seq (AW.region (s_move (d := (si v3)) rfl (s_move (d := (si 0)) rfl (s_binI (v := (.bool (v3 != 0))) rfl rfl rfl (AWops.nil ?_)))))))))
   rcases itH h with ⟨c4, h⟩ | ⟨c4, h⟩
   ·refine AW.cond_yes rfl c4 (AW.seq (AW.region ?_))
    refine s_move (d := (si v3)) rfl (s_assign (d := (si v3)) rfl (AWops.nil (AW.ret ?_)))
    obtain rfl := Option.some.inj h
    exact ⟨_, rfl, (wg 0 [] [] rfl (le_upd (le_top _) (o1 .sc)) an)⟩
   ·refine AW.cond_no rfl c4 (AW.skip (AW.region ?_))
    refine s_binI (v := (.int .i64 (IntKind.i64.wrap (x1 + 1)))) rfl rfl rfl (s_move (d := (si (IntKind.i64.wrap (x1 + 1)))) rfl (AWops.nil ?_))
    exact ⟨_, ⟨18, (upd 18 (upd 18 (upd 18 (upd 18 topF 3 (si 0)) 6 (D.one (C.p false (.sl a0.length (a0.flatMap e_i64))))) 7 (si (a0.length : Int))) 8 (si (IntKind.i64.wrap (x1 + 1)))), []⟩, by omega, (wg 0 [] [] hx (le_upd (le_upd (le_upd (le_upd (le_top _) (o1 .sc)) (o1 .same)) (o1 .sc)) (o1 .sc)) an), by omega, IntKind.i64.wrap (x1 + 1), h, rfl⟩
  ·refine AW.cond_no rfl c2 (AW.exit (AW.seq (AW.region ?_)))
   refine s_move (d := (si 0)) rfl (s_assign (d := (si 0)) rfl (AWops.nil (AW.ret ?_)))
   obtain rfl := Option.some.inj h
   exact ⟨_, rfl, (wg 0 [] [] rfl (le_upd (le_top _) (o1 .sc)) an)⟩
def tree_Order_1.f (k : Nat) (a0 : ByteArray) (a1 : ByteArray) : Option Int := (tree_part.f k a0).bind fun r1 => (tree_part.f k a1).bind fun r2 => (strings_Compare.f k r1.1 r2.1).bind fun r3 => (cmp_Compare_int.f k r1.2 r2.2).bind fun r4 => (strings_Compare.f k a0 a1).bind fun r5 => (cmp_Or_int.f k ([r3, r4, r5] : List Int)).bind fun r6 => some r6
theorem tree_Order_1.meets (k : Nat) (a0 : ByteArray) (a1 : ByteArray) (r : Int) (h : tree_Order_1.f k a0 a1 = some r) : Meets Tryd.prog 31 [(st_ a0), (st_ a1)] [] (si r) [] := by
 unfold tree_Order_1.f at h
 refine Meets.of_body (n := 30) Tryd.func31 rfl rfl (nl rfl) fun x hx => ?_
 replace hx : x.k = 0 := hx
 show AW _ x _ _ ⟨30, fr0 [(st_ a0), (st_ a1)], []⟩
 refine AW.seq (AW.region ?_)
 refine s_assign (d := (si 0)) rfl (AWops.nil (AW.seq (AW.region ?_)))
 refine s_move (d := (st_ a0)) rfl ?_
 obtain ⟨r1, er1, h⟩ := bnd h
 refine cc [] [] (D.tup [(st_ r1.1), (si r1.2)]) F.ca_32 rfl rfl (ac (.one .sc) an) an (tree_part.meets _ a0 r1 er1) (s_move (d := (D.tup [(st_ r1.1), (si r1.2)])) rfl (s_extract (d := (st_ r1.1)) rfl rfl (s_extract (d := (si r1.2)) rfl rfl (s_assign (d := (st_ r1.1)) rfl (s_assign (d := (si r1.2)) rfl (AWops.nil (AW.seq (AW.region ?_))))))))
 refine s_move (d := (st_ a1)) rfl ?_
 obtain ⟨r2, er2, h⟩ := bnd h
 refine cc [] [] (D.tup [(st_ r2.1), (si r2.2)]) F.ca_32 rfl rfl (ac (.one .sc) an) an (tree_part.meets _ a1 r2 er2) (s_move (d := (D.tup [(st_ r2.1), (si r2.2)])) rfl (s_extract (d := (st_ r2.1)) rfl rfl (s_extract (d := (si r2.2)) rfl rfl (s_assign (d := (st_ r2.1)) rfl (s_assign (d := (si r2.2)) rfl (AWops.nil (AW.seq (AW.region ?_))))))))
 refine s_move (d := (st_ r1.1)) rfl (s_move (d := (st_ r2.1)) rfl ?_)
 obtain ⟨r3, er3, h⟩ := bnd h
 refine cc [] [] (si r3) F.ca_34 rfl rfl (ac (.one .sc) (ac (.one .sc) an)) an (strings_Compare.meets _ r1.1 r2.1 r3 er3) (s_move (d := (si r1.2)) rfl (s_move (d := (si r2.2)) rfl ?_))
 obtain ⟨r4, er4, h⟩ := bnd h
 refine cc [] [] (si r4) F.ca_35 rfl rfl (ac (.one .sc) (ac (.one .sc) an)) an (cmp_Compare_int.meets _ r1.2 r2.2 r4 er4) (s_move (d := (st_ a0)) rfl (s_move (d := (st_ a1)) rfl ?_))
 obtain ⟨r5, er5, h⟩ := bnd h
 refine cc [] [] (si r5) F.ca_34 rfl rfl (ac (.one .sc) (ac (.one .sc) an)) an (strings_Compare.meets _ a0 a1 r5 er5) (s_buildSlice (n := 3) (ps := [(0, (si r3)), (1, (si r4)), (2, (si r5))]) (cs := rowC e_i64 ([r3, r4, r5] : List Int)) F.u_26 F.sz_3 F.z_3 rfl rfl (by decide) (by decide) rfl rfl ?_)
 obtain ⟨r6, er6, h⟩ := bnd h
 refine s_call2 (ρ := []) (br := true) (H2 := [(some (AObj.cells true (rowC e_i64 ([r3, r4, r5] : List Int))))]) (d := (si r6)) F.ca_33 rfl rfl (ac (.one (LendC.bor e_i64_len rfl rfl rfl)) an) an (by decide) rfl (cmp_Or_int.meets _ ([r3, r4, r5] : List Int) r6 er6) (.inr ⟨rfl, rfl⟩) rfl rfl (s_assign (d := (si r6)) rfl (AWops.nil (AW.ret ?_)))
 obtain rfl := Option.some.inj h
 exact ⟨_, rfl, (wg 0 [] [] rfl (le_upd (le_top _) (o1 .sc)) an)⟩
mutual
def slices_CompareFunc_string__string_string_string.l0 : Nat → Int → (List ByteArray) → (List ByteArray) → Option Int
 | 0, _, _, _ => none
 | k + 1, x1, a0, a1 => if (decide (x1 < (a0.length : Int))) = true then ((rd a0 x1).bind fun v3 => if (decide (x1 ≥ (a1.length : Int))) = true then (some 1) else ((rd a1 x1).bind fun v5 => (tree_Order_1.f k v3 v5).bind fun r6 => if (r6 != 0) = true then (some r6) else (slices_CompareFunc_string__string_string_string.l0 k (IntKind.i64.wrap (x1 + 1)) a0 a1))) else (if (decide ((a0.length : Int) < (a1.length : Int))) = true then (some (-1)) else (some 0))
end
def slices_CompareFunc_string__string_string_string.f (k : Nat) (a0 : List ByteArray) (a1 : List ByteArray) : Option Int := slices_CompareFunc_string__string_string_string.l0 k 0 a0 a1
theorem slices_CompareFunc_string__string_string_string.meets (k : Nat) (a0 : List ByteArray) (a1 : List ByteArray) (r : Int) (h : slices_CompareFunc_string__string_string_string.f k a0 a1 = some r) : Meets Tryd.prog 29 [(D.one (C.p false (.sl a0.length (a0.flatMap e_str)))), (D.one (C.p false (.sl a1.length (a1.flatMap e_str)))), (D.one (C.clo 31 []))] [] (si r) [] := by
 unfold slices_CompareFunc_string__string_string_string.f at h
 refine Meets.of_body (n := 39) Tryd.func29 rfl rfl (nl rfl) fun x hx => ?_
 replace hx : x.k = 0 := hx
 show AW _ x _ _ ⟨39, fr0 [(D.one (C.p false (.sl a0.length (a0.flatMap e_str)))), (D.one (C.p false (.sl a1.length (a1.flatMap e_str)))), (D.one (C.clo 31 []))], []⟩
 refine AW.seq (AW.region ?_)
 refine s_assign (d := (si 0)) rfl (AWops.nil (AW.seq (AW.seq (AW.region ?_))))
 refine s_move (d := (D.one (C.p false (.sl a0.length (a0.flatMap e_str))))) rfl (s_len (n := a0.length) F.u_37 rfl (.inr ⟨(fun _ _ h => by cases h), ⟨_, rfl⟩⟩) (s_move (d := (si 0)) rfl (AWops.nil (AW.block ?_))))
 refine AW.loopw (st0 := ⟨39, (upd 39 (upd 39 (upd 39 (upd 39 (upd 39 (upd 39 topF 0 (D.one (C.p false (.sl a0.length (a0.flatMap e_str))))) 1 (D.one (C.p false (.sl a1.length (a1.flatMap e_str))))) 2 (D.one (C.clo 31 []))) 11 (D.one (C.p false (.sl a0.length (a0.flatMap e_str))))) 12 (si (a0.length : Int))) 13 (si 0)), []⟩) (fun kv st => kv ≤ k ∧ ∃ (x1 : Int), slices_CompareFunc_string__string_string_string.l0 kv x1 a0 a1 = some r ∧ st = ⟨39, (upd 39 (upd 39 (upd 39 (upd 39 (upd 39 (upd 39 topF 0 (D.one (C.p false (.sl a0.length (a0.flatMap e_str))))) 1 (D.one (C.p false (.sl a1.length (a1.flatMap e_str))))) 2 (D.one (C.clo 31 []))) 11 (D.one (C.p false (.sl a0.length (a0.flatMap e_str))))) 12 (si (a0.length : Int))) 13 (si x1)), []⟩) (k := k) (wg 0 [] [] hx (le_upd (le_upd (le_upd (le_upd (le_upd (le_upd (le_top _) (o1 .same)) (o1 .same)) (o1 (CLe.cloL an))) (o1 .same)) (o1 .sc)) (o1 .sc)) an) ⟨Nat.le_refl _, 0, h, rfl⟩ ?_
 rintro ql0 st ⟨hkl0, x1, h, rfl⟩
 cases ql0 with
 | zero => exact absurd h (by simp [slices_CompareFunc_string__string_string_string.l0])
 | succ ql0 =>
  replace h := (slices_CompareFunc_string__string_string_string.l0.eq_2 _ _ _ _).symm.trans h
  refine AW.seq (AW.region ?_)
  refine s_binI (v := (.bool (decide (x1 < (a0.length : Int))))) rfl rfl rfl (AWops.nil (AW.seq ?_))
  rcases itH h with ⟨c2, h⟩ | ⟨c2, h⟩
  ·refine AW.cond_yes rfl c2 (AW.skip (AW.seq (AW.block (AW.seq (AW.region ?_)))))
   refine s_move (d := (si x1)) rfl ?_
   obtain ⟨v3, ev3, h⟩ := bnd h
   obtain ⟨pv3, qv3, gv3⟩ := rd_some ev3
   refine s_indexImm (ps := [P.v (.string v3)]) F.u_37 F.sz_9 rfl rfl pv3 qv3 (flat_at e_str_len gv3 (e_str_eq v3)) (s_load1 (c' := (ct v3)) F.ag_9 rfl rfl (s_assign (d := (si x1)) rfl (s_assign (d := (st_ v3)) rfl (AWops.nil (AW.seq (AW.seq (AW.region (s_move (d := (si x1)) rfl (s_move (d := (D.one (C.p false (.sl a1.length (a1.flatMap e_str))))) rfl ?_)))))))))
   refine s_len (n := a1.length) F.u_37 rfl (.inr ⟨(fun _ _ h => by cases h), ⟨_, rfl⟩⟩) (s_binI (v := (.bool (decide (x1 ≥ (a1.length : Int))))) rfl rfl rfl (AWops.nil ?_))
   rcases itH h with ⟨c4, h⟩ | ⟨c4, h⟩
   ·refine AW.cond_yes rfl c4 (AW.seq (AW.region ?_))
    refine s_assign (d := (si 1)) rfl (AWops.nil (AW.ret ?_))
    obtain rfl := Option.some.inj h
    exact ⟨_, rfl, (wg 0 [] [] rfl (le_upd (le_top _) (o1 .sc)) an)⟩
   ·refine AW.cond_no rfl c4 (AW.skip (AW.seq (AW.region ?_)))
    refine s_move (d := (D.one (C.p false (.sl a1.length (a1.flatMap e_str))))) rfl (s_move (d := (si x1)) rfl ?_)
    obtain ⟨v5, ev5, h⟩ := bnd h
    obtain ⟨pv5, qv5, gv5⟩ := rd_some ev5
    refine s_indexImm (ps := [P.v (.string v5)]) F.u_37 F.sz_9 rfl rfl pv5 qv5 (flat_at e_str_len gv5 (e_str_eq v5)) (s_load1 (c' := (ct v5)) F.ag_9 rfl rfl (s_assign (d := (st_ v5)) rfl (AWops.nil (AW.seq (AW.region (s_move (d := (D.one (C.clo 31 []))) rfl (s_move (d := (st_ v3)) rfl (s_move (d := (st_ v5)) rfl ?_))))))))
    obtain ⟨r6, er6, h⟩ := bnd h
    refine cc [] [] (si r6) F.ca_31 rfl rfl (ac (.one .sc) (ac (.one .sc) an)) an (tree_Order_1.meets _ v3 v5 r6 er6) (s_assign (d := (si r6)) rfl (AWops.nil (AW.seq (AW.region (s_move (d := (si r6)) rfl (s_binI (v := (.bool (r6 != 0))) rfl rfl rfl (AWops.nil ?_)))))))
    rcases itH h with ⟨c7, h⟩ | ⟨c7, h⟩
    ·refine AW.cond_yes rfl c7 (AW.seq (AW.region ?_))
     refine s_move (d := (si r6)) rfl (s_assign (d := (si r6)) rfl (AWops.nil (AW.ret ?_)))
     obtain rfl := Option.some.inj h
     exact ⟨_, rfl, (wg 0 [] [] rfl (le_upd (le_top _) (o1 .sc)) an)⟩
    ·refine AW.cond_no rfl c7 (AW.skip (AW.region ?_))
     refine s_binI (v := (.int .i64 (IntKind.i64.wrap (x1 + 1)))) rfl rfl rfl (s_move (d := (si (IntKind.i64.wrap (x1 + 1)))) rfl (AWops.nil ?_))
     exact ⟨_, ⟨39, (upd 39 (upd 39 (upd 39 (upd 39 (upd 39 (upd 39 topF 0 (D.one (C.p false (.sl a0.length (a0.flatMap e_str))))) 1 (D.one (C.p false (.sl a1.length (a1.flatMap e_str))))) 2 (D.one (C.clo 31 []))) 11 (D.one (C.p false (.sl a0.length (a0.flatMap e_str))))) 12 (si (a0.length : Int))) 13 (si (IntKind.i64.wrap (x1 + 1)))), []⟩, by omega, (wg 0 [] [] hx (le_upd (le_upd (le_upd (le_upd (le_upd (le_upd (le_top _) (o1 .same)) (o1 .same)) (o1 (CLe.cloL an))) (o1 .same)) (o1 .sc)) (o1 .sc)) an), by omega, IntKind.i64.wrap (x1 + 1), h, rfl⟩
  ·refine AW.cond_no rfl c2 (AW.exit (AW.seq (AW.seq (AW.region ?_))))
   refine s_move (d := (D.one (C.p false (.sl a0.length (a0.flatMap e_str))))) rfl (s_len (n := a0.length) F.u_37 rfl (.inr ⟨(fun _ _ h => by cases h), ⟨_, rfl⟩⟩) (s_move (d := (D.one (C.p false (.sl a1.length (a1.flatMap e_str))))) rfl (s_len (n := a1.length) F.u_37 rfl (.inr ⟨(fun _ _ h => by cases h), ⟨_, rfl⟩⟩) (s_binI (v := (.bool (decide ((a0.length : Int) < (a1.length : Int))))) rfl rfl rfl (AWops.nil ?_)))))
   rcases itH h with ⟨c8, h⟩ | ⟨c8, h⟩
   ·refine AW.cond_yes rfl c8 (AW.seq (AW.region ?_))
    refine s_assign (d := (si (-1))) rfl (AWops.nil (AW.ret ?_))
    obtain rfl := Option.some.inj h
    exact ⟨_, rfl, (wg 0 [] [] rfl (le_upd (le_top _) (o1 .sc)) an)⟩
   ·refine AW.cond_no rfl c8 (AW.skip (AW.seq (AW.region ?_)))
    refine s_assign (d := (si 0)) rfl (AWops.nil (AW.ret ?_))
    obtain rfl := Option.some.inj h
    exact ⟨_, rfl, (wg 0 [] [] rfl (le_upd (le_top _) (o1 .sc)) an)⟩
def tree_Order.f (k : Nat) (a0 : ByteArray) (a1 : ByteArray) : Option Int := (strings_Split_30.f k a0).bind fun r1 => (strings_Split_30.f k a1).bind fun r2 => (slices_CompareFunc_string__string_string_string.f k r1 r2).bind fun r3 => some r3
theorem tree_Order.meets (k : Nat) (a0 : ByteArray) (a1 : ByteArray) (r : Int) (h : tree_Order.f k a0 a1 = some r) : Meets Tryd.prog 19 [(st_ a0), (st_ a1)] [] (si r) [] := by
 unfold tree_Order.f at h
 refine Meets.of_body (n := 10) Tryd.func19 rfl rfl (nl rfl) fun x hx => ?_
 replace hx : x.k = 0 := hx
 show AW _ x _ _ ⟨10, fr0 [(st_ a0), (st_ a1)], []⟩
 refine AW.seq (AW.region ?_)
 refine s_assign (d := (si 0)) rfl (AWops.nil (AW.seq (AW.region ?_)))
 refine s_move (d := (st_ a0)) rfl ?_
 obtain ⟨r1, er1, h⟩ := bnd h
 refine cc [] [] (D.one (C.p false (.sl r1.length (r1.flatMap e_str)))) F.ca_30 rfl rfl (ac (.one .sc) (ac (.one .sc) an)) an (strings_Split_30.meets _ a0 r1 er1) (s_move (d := (st_ a1)) rfl ?_)
 obtain ⟨r2, er2, h⟩ := bnd h
 refine cc [] [] (D.one (C.p false (.sl r2.length (r2.flatMap e_str)))) F.ca_30 rfl rfl (ac (.one .sc) (ac (.one .sc) an)) an (strings_Split_30.meets _ a1 r2 er2) ?_
 obtain ⟨r3, er3, h⟩ := bnd h
 refine cc [] [] (si r3) F.ca_29 rfl rfl (ac (.one .imm) (ac (.one .imm) (ac (.one (LendC.cloL an)) an))) an (slices_CompareFunc_string__string_string_string.meets _ r1 r2 r3 er3) (s_assign (d := (si r3)) rfl (AWops.nil (AW.ret ?_)))
 obtain rfl := Option.some.inj h
 exact ⟨_, rfl, (wg 0 [] [] rfl (le_upd (le_top _) (o1 .sc)) an)⟩
def tree_Put_1.f (k : Nat) (a0 : api_Inst) (p0 : api_Inst) : Option Bool := (tree_Order.f k a0.Path p0.Path).bind fun r1 => some (decide (r1 > 0))
theorem tree_Put_1.meets (k : Nat) (a0 : api_Inst) (p0 : api_Inst) (r : Bool) (h : tree_Put_1.f k a0 p0 = some r) : Meets Tryd.prog 18 [(D.agg (c_api_Inst a0)), (rf 0 0)] [(some (AObj.cells false (c_api_Inst p0)))] (sb r) [(some (AObj.cells false (c_api_Inst p0)))] := by
 unfold tree_Put_1.f at h
 refine Meets.of_body (n := 10) Tryd.func18 rfl rfl (nl rfl) fun x hx => ?_
 replace hx : x.k = 1 := hx
 show AW _ x _ _ ⟨10, fr0 [(D.agg (c_api_Inst a0)), (rf 0 0)], [(some (AObj.cells false (c_api_Inst p0)))]⟩
 refine AW.seq (AW.region ?_)
 refine s_box (cs := (c_api_Inst a0)) rfl (List.cons_ne_nil _ _) rfl (s_assign (d := (sb false)) rfl (AWops.nil (AW.seq (AW.region (s_fieldRef F.fo_28_0 (by decide) rfl (s_load1 (c' := (ct a0.Path)) F.ag_9 rfl rfl (s_fieldRef F.fo_28_0 (by decide) rfl (s_load1 (c' := (ct p0.Path)) F.ag_9 rfl rfl ?_))))))))
 obtain ⟨r1, er1, h⟩ := bnd h
 refine cc [] [(some (AObj.cells false (c_api_Inst p0))), (some (AObj.cells true (c_api_Inst a0)))] (si r1) F.ca_19 rfl rfl (ac (.one .sc) (ac (.one .sc) an)) an (tree_Order.meets _ a0.Path p0.Path r1 er1) (s_binI (v := (.bool (decide (r1 > 0)))) rfl rfl rfl (s_assign (d := (sb (decide (r1 > 0)))) rfl (AWops.nil (AW.ret ?_))))
 obtain rfl := Option.some.inj h
 exact ⟨_, rfl, (wg 1 [0] [] rfl (le_upd (le_top _) (o1 .sc)) (ac (.cells id (ac .sc (ac .sc (ac .sc (ac .sc (ac .same (ac .sc an))))))) an))⟩
mutual
def slices_IndexFunc_api_Inst_api_Inst_17.l0 : Nat → Int → (List api_Inst) → api_Inst → Option Int
 | 0, _, _, _ => none
 | k + 1, x1, p0, p1 => if (decide (x1 < (p0.length : Int))) = true then ((rd p0 x1).bind fun v3 => (tree_Put_1.f k v3 p1).bind fun r5 => if r5 = true then (some x1) else (slices_IndexFunc_api_Inst_api_Inst_17.l0 k (IntKind.i64.wrap (x1 + 1)) p0 p1)) else (some (-1))
end
def slices_IndexFunc_api_Inst_api_Inst_17.f (k : Nat) (p0 : List api_Inst) (p1 : api_Inst) : Option Int := slices_IndexFunc_api_Inst_api_Inst_17.l0 k 0 p0 p1
theorem slices_IndexFunc_api_Inst_api_Inst_17.meets (k : Nat) (p0 : List api_Inst) (p1 : api_Inst) (r : Int) (h : slices_IndexFunc_api_Inst_api_Inst_17.f k p0 p1 = some r) : Meets Tryd.prog 17 [(D.one (C.own 0 0 p0.length 6)), (D.one (C.clo 18 [(C.ref 1 0)]))] [(or_ e_api_Inst p0), (some (AObj.cells false (c_api_Inst p1)))] (si r) [(or_ e_api_Inst p0), (some (AObj.cells false (c_api_Inst p1)))] := by
 unfold slices_IndexFunc_api_Inst_api_Inst_17.f at h
 refine Meets.of_body (n := 19) Tryd.func17 rfl rfl (nl rfl) fun x hx => ?_
 replace hx : x.k = 2 := hx
 show AW _ x _ _ ⟨19, fr0 [(D.one (C.own 0 0 p0.length 6)), (D.one (C.clo 18 [(C.ref 1 0)]))], [(or_ e_api_Inst p0), (some (AObj.cells false (c_api_Inst p1)))]⟩
 refine AW.seq (AW.region ?_)
 refine s_assign (d := (si 0)) rfl (AWops.nil (AW.seq (AW.seq (AW.region ?_))))
 refine s_move (d := (D.one (C.own 0 0 p0.length 6))) rfl (s_len (n := p0.length) F.u_22 rfl (.inr ⟨(fun _ _ h => by cases h), ⟨_, rfl⟩⟩) (s_move (d := (si 0)) rfl (AWops.nil (AW.block ?_))))
 refine AW.loopw (st0 := ⟨19, (upd 19 (upd 19 (upd 19 (upd 19 topF 0 (D.one (C.own 0 0 p0.length 6))) 1 (D.one (C.clo 18 [(C.ref 1 0)]))) 7 (si (p0.length : Int))) 8 (si 0)), [(or_ e_api_Inst p0), (some (AObj.cells false (c_api_Inst p1)))]⟩) (fun kv st => kv ≤ k ∧ ∃ (x1 : Int), slices_IndexFunc_api_Inst_api_Inst_17.l0 kv x1 p0 p1 = some r ∧ st = ⟨19, (upd 19 (upd 19 (upd 19 (upd 19 topF 0 (D.one (C.own 0 0 p0.length 6))) 1 (D.one (C.clo 18 [(C.ref 1 0)]))) 7 (si (p0.length : Int))) 8 (si x1)), [(or_ e_api_Inst p0), (some (AObj.cells false (c_api_Inst p1)))]⟩) (k := k) (wg 2 [0, 1] [] hx (le_upd (le_upd (le_upd (le_upd (le_top _) (o1 (.own rfl))) (o1 (CLe.cloL (ac (.ref rfl) an)))) (o1 .sc)) (o1 .sc)) (ac (.cells id (all2_row _)) (ac (.cells id (ac .sc (ac .sc (ac .sc (ac .sc (ac .same (ac .sc an))))))) an))) ⟨Nat.le_refl _, 0, h, rfl⟩ ?_
 rintro ql0 st ⟨hkl0, x1, h, rfl⟩
 cases ql0 with
 | zero => exact absurd h (by simp [slices_IndexFunc_api_Inst_api_Inst_17.l0])
 | succ ql0 =>
  replace h := (slices_IndexFunc_api_Inst_api_Inst_17.l0.eq_2 _ _ _ _).symm.trans h
  refine AW.seq (AW.region ?_)
  refine s_binI (v := (.bool (decide (x1 < (p0.length : Int))))) rfl rfl rfl (AWops.nil (AW.seq ?_))
  rcases itH h with ⟨c2, h⟩ | ⟨c2, h⟩
  ·refine AW.cond_yes rfl c2 (AW.skip (AW.seq (AW.block (AW.seq (AW.region ?_)))))
   refine s_move (d := (si x1)) rfl (s_assign (d := (si x1)) rfl (AWops.nil (AW.seq (AW.region (s_move (d := (D.one (C.clo 18 [(C.ref 1 0)]))) rfl (s_move (d := (D.one (C.own 0 0 p0.length 6))) rfl (s_move (d := (si x1)) rfl ?_)))))))
   obtain ⟨v3, ev3, h⟩ := bnd h
   obtain ⟨pv3, qv3, gv3⟩ := rd_some ev3
   refine s_indexOwn (d := (D.one (C.ref 0 (0 + x1.toNat * 6)))) F.u_22 F.sz_28 rfl rfl pv3 qv3 rfl ?_
   obtain ⟨R4, hR4⟩ := row_at (f := e_api_Inst) (sz := 6) (o := 0) e_api_Inst_len gv3 (e_api_Inst_eq v3) (by decide)
   refine s_loadN (ds := (c_api_Inst v3)) F.ag_28 F.sz_28 (congrArg some hR4) rfl rfl ?_
   obtain ⟨r5, er5, h⟩ := bnd h
   refine cc [1] [(or_ e_api_Inst p0), (some (AObj.cells false (c_api_Inst p1)))] (sb r5) F.ca_18 rfl rfl (ac (LendT.aggL (ac .sc (ac .sc (ac .sc (ac .sc (ac .imm (ac .sc an))))))) (ac (.one (.ref rfl)) an)) (ac (.cells (ac .sc (ac .sc (ac .sc (ac .sc (ac .imm (ac .sc an))))))) an) (tree_Put_1.meets _ v3 p1 r5 er5) (AWops.nil ?_)
   rcases itH h with ⟨c6, h⟩ | ⟨c6, h⟩
   ·refine AW.cond_yes rfl c6 (AW.seq (AW.region ?_))
    refine s_move (d := (si x1)) rfl (s_assign (d := (si x1)) rfl (AWops.nil (AW.ret ?_)))
    obtain rfl := Option.some.inj h
    exact ⟨_, rfl, (wg 2 [0, 1] [] rfl (le_upd (le_top _) (o1 .sc)) (ac (.cells id (all2_row _)) (ac (.cells id (ac .sc (ac .sc (ac .sc (ac .sc (ac .same (ac .sc an))))))) an)))⟩
   ·refine AW.cond_no rfl c6 (AW.skip (AW.region ?_))
    refine s_binI (v := (.int .i64 (IntKind.i64.wrap (x1 + 1)))) rfl rfl rfl (s_move (d := (si (IntKind.i64.wrap (x1 + 1)))) rfl (AWops.nil ?_))
    exact ⟨_, ⟨19, (upd 19 (upd 19 (upd 19 (upd 19 topF 0 (D.one (C.own 0 0 p0.length 6))) 1 (D.one (C.clo 18 [(C.ref 1 0)]))) 7 (si (p0.length : Int))) 8 (si (IntKind.i64.wrap (x1 + 1)))), [(or_ e_api_Inst p0), (some (AObj.cells false (c_api_Inst p1)))]⟩, by omega, (wg 2 [0, 1] [] hx (le_upd (le_upd (le_upd (le_upd (le_top _) (o1 (.own rfl))) (o1 (CLe.cloL (ac (.ref rfl) an)))) (o1 .sc)) (o1 .sc)) (ac (.cells id (all2_row _)) (ac (.cells id (ac .sc (ac .sc (ac .sc (ac .sc (ac .same (ac .sc an))))))) an))), by omega, IntKind.i64.wrap (x1 + 1), h, rfl⟩
  ·refine AW.cond_no rfl c2 (AW.exit (AW.seq (AW.region ?_)))
   refine s_assign (d := (si (-1))) rfl (AWops.nil (AW.ret ?_))
   obtain rfl := Option.some.inj h
   exact ⟨_, rfl, (wg 2 [0, 1] [] rfl (le_upd (le_top _) (o1 .sc)) (ac (.cells id (all2_row _)) (ac (.cells id (ac .sc (ac .sc (ac .sc (ac .sc (ac .same (ac .sc an))))))) an)))⟩
def tree_Put.f (k : Nat) (a0 : api_Case) (a1 : api_Inst) : Option api_Case := (tree_Copy.f k a0).bind fun r1 => (tree_own.f k a1).bind fun r2 => (tree_index.f k r1 r2.Path).bind fun r3 => if (decide (r3 ≥ 0)) = true then ((rd r1.Insts r3).bind fun v5 => some (⟨r1.ID, r1.Model, r1.Insts.set r3.toNat r2, r1.Docs, r1.Clock⟩ : api_Case)) else ((slices_IndexFunc_api_Inst_api_Inst_17.f k r1.Insts r2).bind fun r6 => if (decide (r6 < 0)) = true then (if (decide (0 ≤ (r1.Insts.length : Int) ∧ (r1.Insts.length : Int) ≤ (r1.Insts.length : Int) ∧ r1.Insts.length ≤ 1000000000000)) = true then (some (⟨r1.ID, r1.Model, r1.Insts.take ((r1.Insts.length : Int)).toNat ++ (r2 :: r1.Insts.drop ((r1.Insts.length : Int)).toNat), r1.Docs, r1.Clock⟩ : api_Case)) else none) else (if (decide (0 ≤ r6 ∧ r6 ≤ (r1.Insts.length : Int) ∧ r1.Insts.length ≤ 1000000000000)) = true then (some (⟨r1.ID, r1.Model, r1.Insts.take (r6).toNat ++ (r2 :: r1.Insts.drop (r6).toNat), r1.Docs, r1.Clock⟩ : api_Case)) else none))
theorem tree_Put.meets (k : Nat) (a0 : api_Case) (a1 : api_Inst) (r : api_Case) (h : tree_Put.f k a0 a1 = some r) : Meets Tryd.prog 7 [(D.agg (c_api_Case a0)), (D.agg (c_api_Inst a1))] [] (D.agg [(ci r.ID), (ct r.Model), (C.own 0 0 r.Insts.length 6), (C.p false (.sl r.Docs.length (r.Docs.flatMap e_api_Doc))), (ci r.Clock)]) [(ow_ e_api_Inst r.Insts)] := by
 unfold tree_Put.f at h
 refine Meets.of_body (n := 40) Tryd.func7 rfl rfl (nl rfl) fun x hx => ?_
 replace hx : x.k = 0 := hx
 show AW _ x _ _ ⟨40, fr0 [(D.agg (c_api_Case a0)), (D.agg (c_api_Inst a1))], []⟩
 refine AW.seq (AW.region ?_)
 refine s_box (cs := (c_api_Case a0)) rfl (List.cons_ne_nil _ _) rfl (s_box (cs := (c_api_Inst a1)) rfl (List.cons_ne_nil _ _) rfl (s_alloc (cs := [(ci 0), (ct (⟨#[]⟩ : ByteArray)), (C.p true (.v (.slice none 0 0))), (C.p true (.v (.slice none 0 0))), (ci 0)]) F.z_25 rfl rfl (AWops.nil (AW.seq ?_))))
 refine AW.weak (st' := ⟨40, (upd 40 (upd 40 (upd 40 topF 2 (rf 0 0)) 3 (rf 1 0)) 4 (rf 2 0)), [(some (AObj.cells true (c_api_Case a0))), (some (AObj.cells true (c_api_Inst a1))), (some (AObj.cells true [(ci 0), (ct (⟨#[]⟩ : ByteArray)), (C.p true (.v (.slice none 0 0))), (C.p true (.v (.slice none 0 0))), (ci 0)]))]⟩) (wg 0 [0, 1, 2] [] hx (le_upd (le_upd (le_upd (le_top _) (o1 (.ref rfl))) (o1 (.ref rfl))) (o1 (.ref rfl))) (ac (.cells (fun _ => rfl) (ac .sc (ac .sc (ac .same (ac .same (ac .sc an)))))) (ac (.cells (fun _ => rfl) (ac .sc (ac .sc (ac .sc (ac .sc (ac .same (ac .sc an))))))) (ac (.cells (fun _ => rfl) (ac .sc (ac .sc (ac .sc (ac .sc (ac .sc an)))))) an)))) ?_
 obtain ⟨r1, er1, h⟩ := bnd h
 obtain ⟨r2, er2, h⟩ := bnd h
 refine AW.draw (n := 40) (L := 5) [(0, ⟨some 7, (D.agg (c_api_Case a0)), [(2, (rf 0 0))], [(0, (some (AObj.cells true (c_api_Case a0))))], [], none⟩), (1, ⟨some 8, (D.agg [(ci r1.ID), (ct r1.Model), (C.own 3 0 r1.Insts.length 6), (C.p false (.sl r1.Docs.length (r1.Docs.flatMap e_api_Doc))), (ci r1.Clock)]), [(7, (D.agg (c_api_Case a0)))], [], [(3, (ow_ e_api_Inst r1.Insts))], some 3⟩), (2, ⟨some 9, (D.agg (c_api_Inst a1)), [(3, (rf 1 0))], [(1, (some (AObj.cells true (c_api_Inst a1))))], [], none⟩), (ft 3 10 (D.agg (c_api_Inst r2)) [(9, (D.agg (c_api_Inst a1)))]), (4, ⟨none, (D.one C.top), [(2, (rf 0 0)), (8, (D.agg [(ci r1.ID), (ct r1.Model), (C.own 3 0 r1.Insts.length 6), (C.p false (.sl r1.Docs.length (r1.Docs.flatMap e_api_Doc))), (ci r1.Clock)]))], [(0, (some (AObj.cells true (c_api_Case a0))))], [(0, (o_api_Case_2 true (C.own 3 0 r1.Insts.length 6) r1))], none⟩), (5, ⟨none, (D.one C.top), [(3, (rf 1 0)), (10, (D.agg (c_api_Inst r2)))], [(1, (some (AObj.cells true (c_api_Inst a1))))], [(1, (some (AObj.cells true (c_api_Inst r2))))], none⟩)] [[], [0], [], [0, 1, 2], [0, 1, 2, 3], (.range 5)] (nl rfl) [0, 1, 0, 2, 3, 4] rfl (TK := [(1, 3)]) rfl (AllK.cons' ⟨(tk_upd (tk_upd (tk_upd tk_top rfl) rfl) rfl), (tC rfl (tC rfl (tC rfl AllT.nil'))), (fC (.inr rfl) (fC (.inl rfl) (fC (.inr rfl) (fC (.inl rfl) (fC (.inl rfl) (fC (.inl rfl) AllF.nil'))))))⟩ AllK.nil') (by repeat (first | refine fC ⟨?_, ?_⟩ ?_ | refine sC rfl ?_ | refine hC rfl ?_ | trivial)) ?_ ?_
 ·refine (pC ?_ (pC ?_ (pC ?_ (pC ?_ (pC ?_ (pC ?_ AllStep.nil'))))))
  ·intro K rest fr hv htk k
   show AWops _ x _ _ K ⟨40, (upd 40 fr 2 (rf 0 0)), [(some (AObj.cells true (c_api_Case a0))), (hv 1), (hv 2), (hv 3), (hv 4)]⟩
   refine s_loadN (ds := (c_api_Case a0)) F.ag_25 F.sz_25 rfl rfl rfl k
  ·intro K rest fr hv htk k
   show AWops _ x _ _ K ⟨40, (upd 40 fr 7 (D.agg (c_api_Case a0))), [(hv 0), (hv 1), (hv 2), (hv 3), (hv 4)]⟩
   refine cc [] [(hv 0), (hv 1), (hv 2), (hv 3), (hv 4), (ow_ e_api_Inst r1.Insts)] (D.agg [(ci r1.ID), (ct r1.Model), (C.own 5 0 r1.Insts.length 6), (C.p false (.sl r1.Docs.length (r1.Docs.flatMap e_api_Doc))), (ci r1.Clock)]) F.ca_14 rfl rfl (ac (LendT.aggL (ac .sc (ac .sc (ac .imm (ac .imm (ac .sc an)))))) an) an (tree_Copy.meets _ a0 r1 er1) ?_
   refine AWops.weak (st' := ⟨40, (upd 40 (upd 40 fr 7 (D.agg (c_api_Case a0))) 8 (D.agg [(ci r1.ID), (ct r1.Model), (C.own 3 0 r1.Insts.length 6), (C.p false (.sl r1.Docs.length (r1.Docs.flatMap e_api_Doc))), (ci r1.Clock)])), [(hv 0), (hv 1), (hv 2), (ow_ e_api_Inst r1.Insts), (hv 4)]⟩) (wg 0 [0, 1, 2, 5, 4] [] hx (le_upd2 (le_ok (p := 3) (L := 5) rfl (htk 3 rfl).1) (.t (.agg (ac .sc (ac .sc (ac (.own rfl) (ac .same (ac .sc an)))))))) (ac (oq 3 5 (htk 3 rfl) 0) (ac (oq 3 5 (htk 3 rfl) 1) (ac (oq 3 5 (htk 3 rfl) 2) (ac (.cells (fun _ => rfl) (all2_row _)) (ac (oq 3 5 (htk 3 rfl) 4) an)))))) k
  ·intro K rest fr hv htk k
   show AWops _ x _ _ K ⟨40, (upd 40 fr 3 (rf 1 0)), [(hv 0), (some (AObj.cells true (c_api_Inst a1))), (hv 2), (hv 3), (hv 4)]⟩
   refine s_loadN (ds := (c_api_Inst a1)) F.ag_28 F.sz_28 rfl rfl rfl k
  ·intro K rest fr hv htk k
   show AWops _ x _ _ K ⟨40, (upd 40 fr 9 (D.agg (c_api_Inst a1))), [(hv 0), (hv 1), (hv 2), (hv 3), (hv 4)]⟩
   refine cc [] [(hv 0), (hv 1), (hv 2), (hv 3), (hv 4)] (D.agg (c_api_Inst r2)) F.ca_15 rfl rfl (ac (LendT.aggL (ac .sc (ac .sc (ac .sc (ac .sc (ac .imm (ac .sc an))))))) an) an (tree_own.meets _ a1 r2 er2) k
  ·intro K rest fr hv htk k
   show AWops _ x _ _ K ⟨40, (upd 40 (upd 40 fr 8 (D.agg [(ci r1.ID), (ct r1.Model), (C.own 3 0 r1.Insts.length 6), (C.p false (.sl r1.Docs.length (r1.Docs.flatMap e_api_Doc))), (ci r1.Clock)])) 2 (rf 0 0)), [(some (AObj.cells true (c_api_Case a0))), (hv 1), (hv 2), (hv 3), (hv 4)]⟩
   refine s_store (cs' := [(ci r1.ID), (ct r1.Model), (C.own 3 0 r1.Insts.length 6), (C.p false (.sl r1.Docs.length (r1.Docs.flatMap e_api_Doc))), (ci r1.Clock)]) rfl rfl rfl (List.cons_ne_nil _ _) rfl F.sz_25 (nl rfl) rfl k
  ·intro K rest fr hv htk k
   show AWops _ x _ _ K ⟨40, (upd 40 (upd 40 fr 10 (D.agg (c_api_Inst r2))) 3 (rf 1 0)), [(hv 0), (some (AObj.cells true (c_api_Inst a1))), (hv 2), (hv 3), (hv 4)]⟩
   refine s_store (cs' := (c_api_Inst r2)) rfl rfl rfl (List.cons_ne_nil _ _) rfl F.sz_28 (nl rfl) rfl k
 ·refine AWops.weak (st' := ⟨40, (upd 40 (upd 40 (upd 40 topF 2 (rf 0 0)) 3 (rf 1 0)) 4 (rf 2 0)), [(o_api_Case_2 true (C.own 3 0 r1.Insts.length 6) r1), (some (AObj.cells true (c_api_Inst r2))), (some (AObj.cells true [(ci 0), (ct (⟨#[]⟩ : ByteArray)), (C.p true (.v (.slice none 0 0))), (C.p true (.v (.slice none 0 0))), (ci 0)])), (ow_ e_api_Inst r1.Insts)]⟩) (wg 0 [0, 1, 2, 3] [] hx (le_upd (le_upd (le_upd (le_top _) (o1 (.ref rfl))) (o1 (.ref rfl))) (o1 (.ref rfl))) (ac (.cells (fun _ => rfl) (ac .sc (ac .sc (ac (.own rfl) (ac .same (ac .sc an)))))) (ac (.cells (fun _ => rfl) (ac .sc (ac .sc (ac .sc (ac .sc (ac .same (ac .sc an))))))) (ac (.cells (fun _ => rfl) (ac .sc (ac .sc (ac .sc (ac .sc (ac .sc an)))))) (ac (.cells (fun _ => rfl) (all2_row _)) an))))) (AWops.nil (AW.seq (AW.seq (AW.region ?_))))
  refine s_loadN (ds := [(ci r1.ID), (ct r1.Model), (C.own 3 0 r1.Insts.length 6), (C.p false (.sl r1.Docs.length (r1.Docs.flatMap e_api_Doc))), (ci r1.Clock)]) F.ag_25 F.sz_25 rfl rfl rfl (s_fieldRef F.fo_28_0 (by decide) rfl (s_load1 (c' := (ct r2.Path)) F.ag_9 rfl rfl ?_))
  obtain ⟨r3, er3, h⟩ := bnd h
  refine s_call2 (ρ := []) (br := true) (H2 := [(o_api_Case_2 true (C.own 3 0 r1.Insts.length 6) r1), (some (AObj.cells true (c_api_Inst r2))), (some (AObj.cells true [(ci 0), (ct (⟨#[]⟩ : ByteArray)), (C.p true (.v (.slice none 0 0))), (C.p true (.v (.slice none 0 0))), (ci 0)])), (ow_ e_api_Inst r1.Insts)]) (d := (si r3)) F.ca_16 rfl rfl (ac (LendT.aggL (ac .sc (ac .sc (ac (LendC.bor e_api_Inst_len rfl rfl rfl) (ac .imm (ac .sc an)))))) (ac (.one .sc) an)) an (by decide) rfl (tree_index.meets _ r1 r2.Path r3 er3) (.inr ⟨rfl, rfl⟩) rfl rfl (s_assign (d := (si r3)) rfl (AWops.nil (AW.seq (AW.region (s_move (d := (si r3)) rfl (s_binI (v := (.bool (decide (r3 ≥ 0)))) rfl rfl rfl (AWops.nil ?_)))))))
  rcases itH h with ⟨c4, h⟩ | ⟨c4, h⟩
  ·refine AW.cond_yes rfl c4 (AW.seq (AW.region ?_))
   refine s_fieldRef F.fo_25_2 (by decide) rfl (s_load1 (c' := (C.own 3 0 r1.Insts.length 6)) F.ag_22 rfl rfl (s_move (d := (si r3)) rfl (s_loadN (ds := (c_api_Inst r2)) F.ag_28 F.sz_28 rfl rfl rfl ?_)))
   obtain ⟨v5, ev5, h⟩ := bnd h
   obtain ⟨pv5, qv5, gv5⟩ := rd_some ev5
   refine s_indexOwn (d := (D.one (C.ref 3 (0 + r3.toNat * 6)))) F.u_22 F.sz_28 rfl rfl pv5 qv5 rfl ?_
   refine s_store (cs' := rowC e_api_Inst (r1.Insts.set r3.toNat r2)) rfl rfl rfl (List.cons_ne_nil _ _) rfl F.sz_28 (by rw [row_len e_api_Inst_len]; have := (List.getElem?_eq_some_iff.mp gv5).1; show _ + 6 ≤ _; omega) (row_set (f := e_api_Inst) (sz := 6) (o := 0) (ds := (p_api_Inst r2)) e_api_Inst_len gv5 rfl (nl rfl) rfl) ?_
   refine AWops.nil (AW.seq (AW.region ?_))
   refine s_loadN (ds := [(ci r1.ID), (ct r1.Model), (C.own 3 0 r1.Insts.length 6), (C.p false (.sl r1.Docs.length (r1.Docs.flatMap e_api_Doc))), (ci r1.Clock)]) F.ag_25 F.sz_25 rfl rfl rfl (s_store (cs' := [(ci r1.ID), (ct r1.Model), (C.own 3 0 r1.Insts.length 6), (C.p false (.sl r1.Docs.length (r1.Docs.flatMap e_api_Doc))), (ci r1.Clock)]) rfl rfl rfl (List.cons_ne_nil _ _) rfl F.sz_25 (nl rfl) rfl (AWops.nil (AW.ret ?_)))
   obtain rfl := Option.some.inj h
   exact ⟨_, rfl, (wg 0 [3] [] rfl (le_upd (le_top _) (.t (.agg (ac .sc (ac .sc (ac (CLe.ownN rfl (by simp)) (ac .same (ac .sc an)))))))) (ac (.cells (fun _ => rfl) (all2_row _)) an))⟩
  ·refine AW.cond_no rfl c4 (AW.skip (AW.seq (AW.region ?_)))
   refine s_fieldRef F.fo_25_2 (by decide) rfl (s_load1 (c' := (C.own 3 0 r1.Insts.length 6)) F.ag_22 rfl rfl (s_func (cs := [(C.ref 1 0)]) rfl ?_))
   obtain ⟨r6, er6, h⟩ := bnd h
   refine cc [3, 1] [(o_api_Case_2 true (C.own 3 0 r1.Insts.length 6) r1), (some (AObj.cells true (c_api_Inst r2))), (some (AObj.cells true [(ci 0), (ct (⟨#[]⟩ : ByteArray)), (C.p true (.v (.slice none 0 0))), (C.p true (.v (.slice none 0 0))), (ci 0)])), (ow_ e_api_Inst r1.Insts)] (si r6) F.ca_17 rfl rfl (ac (.one (.own rfl)) (ac (.one (LendC.cloL (ac (.ref rfl) an))) an)) (ac (.cells (lend_row _)) (ac (.cells (ac .sc (ac .sc (ac .sc (ac .sc (ac .imm (ac .sc an))))))) an)) (slices_IndexFunc_api_Inst_api_Inst_17.meets _ r1.Insts r2 r6 er6) (s_assign (d := (si r6)) rfl (AWops.nil (AW.seq (AW.seq (AW.region (s_move (d := (si r6)) rfl (s_binI (v := (.bool (decide (r6 < 0)))) rfl rfl rfl (AWops.nil ?_))))))))
   rcases itH h with ⟨c7, h⟩ | ⟨c7, h⟩
   ·refine AW.cond_yes rfl c7 (AW.region ?_)
    refine s_fieldRef F.fo_25_2 (by decide) rfl (s_load1 (c' := (C.own 3 0 r1.Insts.length 6)) F.ag_22 rfl rfl (s_len (n := r1.Insts.length) F.u_22 rfl (.inr ⟨(fun _ _ h => by cases h), ⟨_, rfl⟩⟩) (s_assign (d := (si (r1.Insts.length : Int))) rfl (AWops.nil (AW.seq (AW.region (s_fieldRef F.fo_25_2 (by decide) rfl (s_load1 (c' := (C.own 3 0 r1.Insts.length 6)) F.ag_22 rfl rfl ?_))))))))
    refine s_move (d := (si (r1.Insts.length : Int))) rfl (s_loadN (ds := (c_api_Inst r2)) F.ag_28 F.sz_28 rfl rfl rfl (s_buildSlice (n := 1) (ps := [(0, (D.agg (c_api_Inst r2)))]) (cs := rowC e_api_Inst ([r2] : List api_Inst)) F.u_22 F.sz_28 F.z_28 rfl rfl (by decide) (by decide) rfl rfl ?_))
    obtain ⟨c8, h⟩ := gdH h
    refine cc [3, 4] [(o_api_Case_2 true (C.own 3 0 r1.Insts.length 6) r1), (some (AObj.cells true (c_api_Inst r2))), (some (AObj.cells true [(ci 0), (ct (⟨#[]⟩ : ByteArray)), (C.p true (.v (.slice none 0 0))), (C.p true (.v (.slice none 0 0))), (ci 0)])), none, (some (AObj.cells true (rowC e_api_Inst ([r2] : List api_Inst)))), (some (AObj.cells true (rowC e_api_Inst (r1.Insts.take ((r1.Insts.length : Int)).toNat ++ (r2 :: r1.Insts.drop ((r1.Insts.length : Int)).toNat)))))] (D.one (C.own 5 0 ((r1.Insts.take ((r1.Insts.length : Int)).toNat ++ (r2 :: r1.Insts.drop ((r1.Insts.length : Int)).toNat)).length) 6)) F.ca_20 rfl rfl (ac (.one (.own rfl)) (ac (.one .sc) (ac (.one (.own rfl)) an))) (ac (.cells (lend_row _)) (ac (.cells (lend_row _)) an)) (Ins.meets_ins' (f := e_api_Inst) (xs := r1.Insts) (y := (r2 : api_Inst)) e_api_Inst_len c8) (s_fieldRef F.fo_25_2 (by decide) rfl (s_store (cs' := [(ci r1.ID), (ct r1.Model), (C.own 5 0 ((r1.Insts.take ((r1.Insts.length : Int)).toNat ++ (r2 :: r1.Insts.drop ((r1.Insts.length : Int)).toNat)).length) 6), (C.p false (.sl r1.Docs.length (r1.Docs.flatMap e_api_Doc))), (ci r1.Clock)]) rfl rfl rfl (List.cons_ne_nil _ _) rfl F.sz_22 (nl rfl) rfl (AWops.nil (AW.seq (AW.region (s_loadN (ds := [(ci r1.ID), (ct r1.Model), (C.own 5 0 ((r1.Insts.take ((r1.Insts.length : Int)).toNat ++ (r2 :: r1.Insts.drop ((r1.Insts.length : Int)).toNat)).length) 6), (C.p false (.sl r1.Docs.length (r1.Docs.flatMap e_api_Doc))), (ci r1.Clock)]) F.ag_25 F.sz_25 rfl rfl rfl (s_store (cs' := [(ci r1.ID), (ct r1.Model), (C.own 5 0 ((r1.Insts.take ((r1.Insts.length : Int)).toNat ++ (r2 :: r1.Insts.drop ((r1.Insts.length : Int)).toNat)).length) 6), (C.p false (.sl r1.Docs.length (r1.Docs.flatMap e_api_Doc))), (ci r1.Clock)]) rfl rfl rfl (List.cons_ne_nil _ _) rfl F.sz_25 (nl rfl) rfl (AWops.nil (AW.ret ?_)))))))))
    obtain rfl := Option.some.inj h
    exact ⟨_, rfl, (wg 0 [5] [] rfl (le_upd (le_top _) (.t (.agg (ac .sc (ac .sc (ac (.own rfl) (ac .same (ac .sc an)))))))) (ac (.cells (fun _ => rfl) (all2_row _)) an))⟩
   ·refine AW.cond_no rfl c7 (AW.skip (AW.seq (AW.region ?_)))
    refine s_fieldRef F.fo_25_2 (by decide) rfl (s_load1 (c' := (C.own 3 0 r1.Insts.length 6)) F.ag_22 rfl rfl (s_move (d := (si r6)) rfl (s_loadN (ds := (c_api_Inst r2)) F.ag_28 F.sz_28 rfl rfl rfl (s_buildSlice (n := 1) (ps := [(0, (D.agg (c_api_Inst r2)))]) (cs := rowC e_api_Inst ([r2] : List api_Inst)) F.u_22 F.sz_28 F.z_28 rfl rfl (by decide) (by decide) rfl rfl ?_))))
    obtain ⟨c9, h⟩ := gdH h
    refine cc [3, 4] [(o_api_Case_2 true (C.own 3 0 r1.Insts.length 6) r1), (some (AObj.cells true (c_api_Inst r2))), (some (AObj.cells true [(ci 0), (ct (⟨#[]⟩ : ByteArray)), (C.p true (.v (.slice none 0 0))), (C.p true (.v (.slice none 0 0))), (ci 0)])), none, (some (AObj.cells true (rowC e_api_Inst ([r2] : List api_Inst)))), (some (AObj.cells true (rowC e_api_Inst (r1.Insts.take (r6).toNat ++ (r2 :: r1.Insts.drop (r6).toNat)))))] (D.one (C.own 5 0 ((r1.Insts.take (r6).toNat ++ (r2 :: r1.Insts.drop (r6).toNat)).length) 6)) F.ca_20 rfl rfl (ac (.one (.own rfl)) (ac (.one .sc) (ac (.one (.own rfl)) an))) (ac (.cells (lend_row _)) (ac (.cells (lend_row _)) an)) (Ins.meets_ins' (f := e_api_Inst) (xs := r1.Insts) (y := (r2 : api_Inst)) e_api_Inst_len c9) (s_fieldRef F.fo_25_2 (by decide) rfl (s_store (cs' := [(ci r1.ID), (ct r1.Model), (C.own 5 0 ((r1.Insts.take (r6).toNat ++ (r2 :: r1.Insts.drop (r6).toNat)).length) 6), (C.p false (.sl r1.Docs.length (r1.Docs.flatMap e_api_Doc))), (ci r1.Clock)]) rfl rfl rfl (List.cons_ne_nil _ _) rfl F.sz_22 (nl rfl) rfl (AWops.nil (AW.seq (AW.region (s_loadN (ds := [(ci r1.ID), (ct r1.Model), (C.own 5 0 ((r1.Insts.take (r6).toNat ++ (r2 :: r1.Insts.drop (r6).toNat)).length) 6), (C.p false (.sl r1.Docs.length (r1.Docs.flatMap e_api_Doc))), (ci r1.Clock)]) F.ag_25 F.sz_25 rfl rfl rfl (s_store (cs' := [(ci r1.ID), (ct r1.Model), (C.own 5 0 ((r1.Insts.take (r6).toNat ++ (r2 :: r1.Insts.drop (r6).toNat)).length) 6), (C.p false (.sl r1.Docs.length (r1.Docs.flatMap e_api_Doc))), (ci r1.Clock)]) rfl rfl rfl (List.cons_ne_nil _ _) rfl F.sz_25 (nl rfl) rfl (AWops.nil (AW.ret ?_)))))))))
    obtain rfl := Option.some.inj h
    exact ⟨_, rfl, (wg 0 [5] [] rfl (le_upd (le_top _) (.t (.agg (ac .sc (ac .sc (ac (.own rfl) (ac .same (ac .sc an)))))))) (ac (.cells (fun _ => rfl) (all2_row _)) an))⟩
mutual
def dossierref18_parts.l0 : Nat → (List ByteArray) → Int → Int → ByteArray → Option (List ByteArray)
 | 0, _, _, _, _ => none
 | k + 1, x1, x2, x3, a0 => if (decide (x3 < (IntKind.i64.wrap ((a0.size : Int) + 1)))) = true then (if (x3 == (a0.size : Int)) = true then (if (decide (0 ≤ x2 ∧ x2 ≤ x3 ∧ x3 ≤ (a0.size : Int))) = true then (if (decide (x1.length + ([a0.extract x2.toNat x3.toNat] : List ByteArray).length ≤ 8796093022208)) = true then (dossierref18_parts.l0 k (x1 ++ ([a0.extract x2.toNat x3.toNat] : List ByteArray)) (IntKind.i64.wrap (x3 + 1)) (IntKind.i64.wrap (x3 + 1)) a0) else none) else none) else ((bt a0 x3).bind fun v8 => if (v8 == 47) = true then (if (decide (0 ≤ x2 ∧ x2 ≤ x3 ∧ x3 ≤ (a0.size : Int))) = true then (if (decide (x1.length + ([a0.extract x2.toNat x3.toNat] : List ByteArray).length ≤ 8796093022208)) = true then (dossierref18_parts.l0 k (x1 ++ ([a0.extract x2.toNat x3.toNat] : List ByteArray)) (IntKind.i64.wrap (x3 + 1)) (IntKind.i64.wrap (x3 + 1)) a0) else none) else none) else (dossierref18_parts.l0 k x1 x2 (IntKind.i64.wrap (x3 + 1)) a0))) else (some x1)
end
def dossierref18_parts.f (k : Nat) (a0 : ByteArray) : Option (List ByteArray) := dossierref18_parts.l0 k ([] : List ByteArray) 0 0 a0
theorem dossierref18_parts.meets (k : Nat) (a0 : ByteArray) (r : (List ByteArray)) (h : dossierref18_parts.f k a0 = some r) : Meets Tryd.prog 38 [(st_ a0)] [] (D.one (C.own 0 0 r.length 1)) [(ow_ e_str r)] := by
 unfold dossierref18_parts.f at h
 refine Meets.of_body (n := 33) Tryd.func38 rfl rfl (nl rfl) fun x hx => ?_
 replace hx : x.k = 0 := hx
 show AW _ x _ _ ⟨33, fr0 [(st_ a0)], []⟩
 refine AW.seq (AW.region ?_)
 refine s_assign (d := (sc (.slice none 0 0))) rfl (AWops.nil (AW.seq (AW.region ?_)))
 refine s_assign (d := (sc (.slice none 0 0))) rfl (AWops.nil (AW.seq (AW.region ?_)))
 refine s_assign (d := (si 0)) rfl (AWops.nil (AW.seq (AW.seq (AW.region ?_))))
 refine s_move (d := (st_ a0)) rfl (s_len (n := a0.size) F.u_9 rfl (.inl ⟨⟨_, _, rfl⟩, rfl⟩) (s_binI (v := (.int .i64 (IntKind.i64.wrap ((a0.size : Int) + 1)))) rfl rfl rfl (s_move (d := (si 0)) rfl (AWops.nil (AW.block ?_)))))
 refine AW.loopw (st0 := ⟨33, (upd 33 (upd 33 (upd 33 (upd 33 (upd 33 topF 0 (st_ a0)) 3 (D.one (C.own 0 0 ([] : List ByteArray).length 1))) 4 (si 0)) 8 (si (IntKind.i64.wrap ((a0.size : Int) + 1)))) 9 (si 0)), [(some (AObj.cells true (rowC e_str ([] : List ByteArray))))]⟩) (fun kv st => kv ≤ k ∧ ∃ (x1 : List ByteArray) (x2 : Int) (x3 : Int), dossierref18_parts.l0 kv x1 x2 x3 a0 = some r ∧ st = ⟨33, (upd 33 (upd 33 (upd 33 (upd 33 (upd 33 topF 0 (st_ a0)) 3 (D.one (C.own 0 0 x1.length 1))) 4 (si x2)) 8 (si (IntKind.i64.wrap ((a0.size : Int) + 1)))) 9 (si x3)), [(ow_ e_str x1)]⟩) (k := k) (Weak.trans (Weak.nil (sz := 1) (i := 3) rfl) (wg 0 [0] [] hx (le_upd (le_upd (le_upd (le_upd (le_upd (le_top _) (o1 .sc)) (o1 (.own rfl))) (o1 .sc)) (o1 .sc)) (o1 .sc)) (ac (.cells (fun _ => rfl) an) an))) ⟨Nat.le_refl _, ([] : List ByteArray), 0, 0, h, rfl⟩ ?_
 rintro ql0 st ⟨hkl0, x1, x2, x3, h, rfl⟩
 cases ql0 with
 | zero => exact absurd h (by simp [dossierref18_parts.l0])
 | succ ql0 =>
  replace h := (dossierref18_parts.l0.eq_2 _ _ _ _ _).symm.trans h
  refine AW.seq (AW.region ?_)
  refine s_binI (v := (.bool (decide (x3 < (IntKind.i64.wrap ((a0.size : Int) + 1)))))) rfl rfl rfl (AWops.nil (AW.seq ?_))
  rcases itH h with ⟨c4, h⟩ | ⟨c4, h⟩
  ·refine AW.cond_yes rfl c4 (AW.skip (AW.seq (AW.block (AW.seq (AW.region ?_)))))
   refine s_move (d := (si x3)) rfl (s_assign (d := (si x3)) rfl (AWops.nil (AW.seq (AW.region (s_move (d := (si x3)) rfl (s_move (d := (st_ a0)) rfl (s_len (n := a0.size) F.u_9 rfl (.inl ⟨⟨_, _, rfl⟩, rfl⟩) (s_binI (v := (.bool (x3 == (a0.size : Int)))) rfl rfl rfl ?_))))))))
   refine s_move (d := (sb (x3 == (a0.size : Int)))) rfl ?_
   rcases itH h with ⟨c5, h⟩ | ⟨c5, h⟩
   ·iterate 4 refine AWops.guard_no rfl (nl rfl) rfl c5 ?_
    refine s_pick_yes (d := (sb true)) rfl c5 rfl (AWops.nil ?_)
    refine AW.cond_yes rfl rfl (AW.seq (AW.region ?_))
    refine s_move (d := (D.one (C.own 0 0 x1.length 1))) rfl (s_move (d := (st_ a0)) rfl (s_move (d := (si x2)) rfl (s_move (d := (si x3)) rfl ?_)))
    obtain ⟨c6, h⟩ := gdH h
    have dc6 := of_decide_eq_true c6
    refine s_sliceStr F.u_9 rfl (.yes rfl (by omega) rfl) (.yes rfl (by omega) rfl) (by omega) (by omega) (s_buildSlice (n := 1) (ps := [(0, (st_ (a0.extract x2.toNat x3.toNat)))]) (cs := rowC e_str ([a0.extract x2.toNat x3.toNat] : List ByteArray)) F.u_37 F.sz_9 F.z_9 rfl rfl (by decide) (by decide) rfl rfl ?_)
    obtain ⟨c7, h⟩ := gdH h
    have dc7 := of_decide_eq_true c7
    refine t_append (xs := x1) (ys := ([a0.extract x2.toNat x3.toNat] : List ByteArray)) (zs := x1 ++ ([a0.extract x2.toNat x3.toNat] : List ByteArray)) (H' := [none, (some (AObj.cells true (rowC e_str ([a0.extract x2.toNat x3.toNat] : List ByteArray)))), (some (AObj.cells true (rowC e_str (x1 ++ ([a0.extract x2.toNat x3.toNat] : List ByteArray)))))]) F.u_37 F.in_9 rfl e_str_len (.own rfl rfl) (.own rfl rfl) F.u_37 (by omega) (by omega) rfl rfl (s_assign (d := (D.one (C.own 2 0 ((x1 ++ ([a0.extract x2.toNat x3.toNat] : List ByteArray)).length) 1))) rfl (AWops.nil (AW.region (s_move (d := (si x3)) rfl (s_binI (v := (.int .i64 (IntKind.i64.wrap (x3 + 1)))) rfl rfl rfl (s_assign (d := (si (IntKind.i64.wrap (x3 + 1)))) rfl (AWops.nil (AW.region (s_binI (v := (.int .i64 (IntKind.i64.wrap (x3 + 1)))) rfl rfl rfl ?_)))))))))
    refine s_move (d := (si (IntKind.i64.wrap (x3 + 1)))) rfl (AWops.nil ?_)
    exact ⟨_, ⟨33, (upd 33 (upd 33 (upd 33 (upd 33 (upd 33 topF 0 (st_ a0)) 3 (D.one (C.own 0 0 (x1 ++ ([a0.extract x2.toNat x3.toNat] : List ByteArray)).length 1))) 4 (si (IntKind.i64.wrap (x3 + 1)))) 8 (si (IntKind.i64.wrap ((a0.size : Int) + 1)))) 9 (si (IntKind.i64.wrap (x3 + 1)))), [(some (AObj.cells true (rowC e_str (x1 ++ ([a0.extract x2.toNat x3.toNat] : List ByteArray)))))]⟩, by omega, (wg 0 [2] [] hx (le_upd (le_upd (le_upd (le_upd (le_upd (le_top _) (o1 .sc)) (o1 (.own rfl))) (o1 .sc)) (o1 .sc)) (o1 .sc)) (ac (.cells (fun _ => rfl) (all2_row _)) an)), by omega, x1 ++ ([a0.extract x2.toNat x3.toNat] : List ByteArray), IntKind.i64.wrap (x3 + 1), IntKind.i64.wrap (x3 + 1), h, rfl⟩
   ·refine AWops.guard_yes rfl (nl rfl) rfl c5 ?_
    refine s_move (d := (st_ a0)) rfl ?_
    refine AWops.guard_yes rfl (nl rfl) rfl c5 ?_
    refine s_move (d := (si x3)) rfl ?_
    refine AWops.guard_yes rfl (nl rfl) rfl c5 ?_
    obtain ⟨v8, ev8, h⟩ := bnd h
    obtain ⟨pv8, bv8, gv8, rfl⟩ := bt_some ev8
    refine s_indexStr F.u_9 rfl rfl pv8 gv8 ?_
    generalize hzv8 : ((bv8.toNat : Nat) : Int) = v8 at *
    refine AWops.guard_yes rfl (nl rfl) rfl c5 ?_
    refine s_binI (v := (.bool (v8 == 47))) rfl rfl rfl (s_pick_no (d := (sb (v8 == 47))) rfl c5 rfl (AWops.nil ?_))
    rcases itH h with ⟨c9, h⟩ | ⟨c9, h⟩
    ·refine AW.cond_yes rfl c9 (AW.seq (AW.region ?_))
     refine s_move (d := (D.one (C.own 0 0 x1.length 1))) rfl (s_move (d := (st_ a0)) rfl (s_move (d := (si x2)) rfl (s_move (d := (si x3)) rfl ?_)))
     obtain ⟨c10, h⟩ := gdH h
     have dc10 := of_decide_eq_true c10
     refine s_sliceStr F.u_9 rfl (.yes rfl (by omega) rfl) (.yes rfl (by omega) rfl) (by omega) (by omega) (s_buildSlice (n := 1) (ps := [(0, (st_ (a0.extract x2.toNat x3.toNat)))]) (cs := rowC e_str ([a0.extract x2.toNat x3.toNat] : List ByteArray)) F.u_37 F.sz_9 F.z_9 rfl rfl (by decide) (by decide) rfl rfl ?_)
     obtain ⟨c11, h⟩ := gdH h
     have dc11 := of_decide_eq_true c11
     refine t_append (xs := x1) (ys := ([a0.extract x2.toNat x3.toNat] : List ByteArray)) (zs := x1 ++ ([a0.extract x2.toNat x3.toNat] : List ByteArray)) (H' := [none, (some (AObj.cells true (rowC e_str ([a0.extract x2.toNat x3.toNat] : List ByteArray)))), (some (AObj.cells true (rowC e_str (x1 ++ ([a0.extract x2.toNat x3.toNat] : List ByteArray)))))]) F.u_37 F.in_9 rfl e_str_len (.own rfl rfl) (.own rfl rfl) F.u_37 (by omega) (by omega) rfl rfl (s_assign (d := (D.one (C.own 2 0 ((x1 ++ ([a0.extract x2.toNat x3.toNat] : List ByteArray)).length) 1))) rfl (AWops.nil (AW.region (s_move (d := (si x3)) rfl (s_binI (v := (.int .i64 (IntKind.i64.wrap (x3 + 1)))) rfl rfl rfl (s_assign (d := (si (IntKind.i64.wrap (x3 + 1)))) rfl (AWops.nil (AW.region (s_binI (v := (.int .i64 (IntKind.i64.wrap (x3 + 1)))) rfl rfl rfl ?_)))))))))
     refine s_move (d := (si (IntKind.i64.wrap (x3 + 1)))) rfl (AWops.nil ?_)
     exact ⟨_, ⟨33, (upd 33 (upd 33 (upd 33 (upd 33 (upd 33 topF 0 (st_ a0)) 3 (D.one (C.own 0 0 (x1 ++ ([a0.extract x2.toNat x3.toNat] : List ByteArray)).length 1))) 4 (si (IntKind.i64.wrap (x3 + 1)))) 8 (si (IntKind.i64.wrap ((a0.size : Int) + 1)))) 9 (si (IntKind.i64.wrap (x3 + 1)))), [(some (AObj.cells true (rowC e_str (x1 ++ ([a0.extract x2.toNat x3.toNat] : List ByteArray)))))]⟩, by omega, (wg 0 [2] [] hx (le_upd (le_upd (le_upd (le_upd (le_upd (le_top _) (o1 .sc)) (o1 (.own rfl))) (o1 .sc)) (o1 .sc)) (o1 .sc)) (ac (.cells (fun _ => rfl) (all2_row _)) an)), by omega, x1 ++ ([a0.extract x2.toNat x3.toNat] : List ByteArray), IntKind.i64.wrap (x3 + 1), IntKind.i64.wrap (x3 + 1), h, rfl⟩
    ·refine AW.cond_no rfl c9 (AW.skip (AW.region ?_))
     refine s_binI (v := (.int .i64 (IntKind.i64.wrap (x3 + 1)))) rfl rfl rfl (s_move (d := (si (IntKind.i64.wrap (x3 + 1)))) rfl (AWops.nil ?_))
     exact ⟨_, ⟨33, (upd 33 (upd 33 (upd 33 (upd 33 (upd 33 topF 0 (st_ a0)) 3 (D.one (C.own 0 0 x1.length 1))) 4 (si x2)) 8 (si (IntKind.i64.wrap ((a0.size : Int) + 1)))) 9 (si (IntKind.i64.wrap (x3 + 1)))), [(ow_ e_str x1)]⟩, by omega, (wg 0 [0] [] hx (le_upd (le_upd (le_upd (le_upd (le_upd (le_top _) (o1 .sc)) (o1 (.own rfl))) (o1 .sc)) (o1 .sc)) (o1 .sc)) (ac (.cells (fun _ => rfl) (all2_row _)) an)), by omega, x1, x2, IntKind.i64.wrap (x3 + 1), h, rfl⟩
  ·refine AW.cond_no rfl c4 (AW.exit (AW.seq (AW.region ?_)))
   refine s_move (d := (D.one (C.own 0 0 x1.length 1))) rfl (s_assign (d := (D.one (C.own 0 0 x1.length 1))) rfl (AWops.nil (AW.ret ?_)))
   obtain rfl := Option.some.inj h
   exact ⟨_, rfl, (wg 0 [0] [] rfl (le_upd (le_top _) (o1 (.own rfl))) (ac (.cells (fun _ => rfl) (all2_row _)) an))⟩
mutual
def dossierref18_last.l0 : Nat → Int → ByteArray → Int → Option Int
 | 0, _, _, _ => none
 | k + 1, x1, a0, a1 => if (decide (x1 ≥ 0)) = true then ((bt a0 x1).bind fun v3 => if (v3 == a1) = true then (some x1) else (dossierref18_last.l0 k (IntKind.i64.wrap (x1 - 1)) a0 a1)) else (some (-1))
end
def dossierref18_last.f (k : Nat) (a0 : ByteArray) (a1 : Int) : Option Int := dossierref18_last.l0 k (IntKind.i64.wrap ((a0.size : Int) - 1)) a0 a1
theorem dossierref18_last.meets (k : Nat) (a0 : ByteArray) (a1 : Int) (r : Int) (h : dossierref18_last.f k a0 a1 = some r) : Meets Tryd.prog 48 [(st_ a0), (sc (.int .u8 a1))] [] (si r) [] := by
 unfold dossierref18_last.f at h
 refine Meets.of_body (n := 19) Tryd.func48 rfl rfl (nl rfl) fun x hx => ?_
 replace hx : x.k = 0 := hx
 show AW _ x _ _ ⟨19, fr0 [(st_ a0), (sc (.int .u8 a1))], []⟩
 refine AW.seq (AW.region ?_)
 refine s_assign (d := (si 0)) rfl (AWops.nil (AW.seq (AW.seq (AW.region ?_))))
 refine s_move (d := (st_ a0)) rfl (s_len (n := a0.size) F.u_9 rfl (.inl ⟨⟨_, _, rfl⟩, rfl⟩) (s_binI (v := (.int .i64 (IntKind.i64.wrap ((a0.size : Int) - 1)))) rfl rfl rfl (s_assign (d := (si (IntKind.i64.wrap ((a0.size : Int) - 1)))) rfl (AWops.nil (AW.block ?_)))))
 refine AW.loopw (st0 := ⟨19, (upd 19 (upd 19 (upd 19 topF 0 (st_ a0)) 1 (sc (.int .u8 a1))) 5 (si (IntKind.i64.wrap ((a0.size : Int) - 1)))), []⟩) (fun kv st => kv ≤ k ∧ ∃ (x1 : Int), dossierref18_last.l0 kv x1 a0 a1 = some r ∧ st = ⟨19, (upd 19 (upd 19 (upd 19 topF 0 (st_ a0)) 1 (sc (.int .u8 a1))) 5 (si x1)), []⟩) (k := k) (wg 0 [] [] hx (le_upd (le_upd (le_upd (le_top _) (o1 .sc)) (o1 .sc)) (o1 .sc)) an) ⟨Nat.le_refl _, IntKind.i64.wrap ((a0.size : Int) - 1), h, rfl⟩ ?_
 rintro ql0 st ⟨hkl0, x1, h, rfl⟩
 cases ql0 with
 | zero => exact absurd h (by simp [dossierref18_last.l0])
 | succ ql0 =>
  replace h := (dossierref18_last.l0.eq_2 _ _ _ _).symm.trans h
  refine AW.seq (AW.seq (AW.region ?_))
  refine s_move (d := (si x1)) rfl (s_binI (v := (.bool (decide (x1 ≥ 0)))) rfl rfl rfl (AWops.nil ?_))
  rcases itH h with ⟨c2, h⟩ | ⟨c2, h⟩
  ·refine AW.cond_yes rfl c2 (AW.skip (AW.seq (AW.block (AW.seq (AW.region ?_)))))
   refine s_move (d := (st_ a0)) rfl (s_move (d := (si x1)) rfl ?_)
   obtain ⟨v3, ev3, h⟩ := bnd h
   obtain ⟨pv3, bv3, gv3, rfl⟩ := bt_some ev3
   refine s_indexStr F.u_9 rfl rfl pv3 gv3 ?_
   generalize hzv3 : ((bv3.toNat : Nat) : Int) = v3 at *
   refine s_move (d := (sc (.int .u8 a1))) rfl (s_binI (v := (.bool (v3 == a1))) rfl rfl rfl (AWops.nil ?_))
   rcases itH h with ⟨c4, h⟩ | ⟨c4, h⟩
   ·refine AW.cond_yes rfl c4 (AW.seq (AW.region ?_))
    refine s_move (d := (si x1)) rfl (s_assign (d := (si x1)) rfl (AWops.nil (AW.ret ?_)))
    obtain rfl := Option.some.inj h
    exact ⟨_, rfl, (wg 0 [] [] rfl (le_upd (le_top _) (o1 .sc)) an)⟩
   ·refine AW.cond_no rfl c4 (AW.skip (AW.region ?_))
    refine s_move (d := (si x1)) rfl (s_binI (v := (.int .i64 (IntKind.i64.wrap (x1 - 1)))) rfl rfl rfl (s_assign (d := (si (IntKind.i64.wrap (x1 - 1)))) rfl (AWops.nil ?_)))
    exact ⟨_, ⟨19, (upd 19 (upd 19 (upd 19 topF 0 (st_ a0)) 1 (sc (.int .u8 a1))) 5 (si (IntKind.i64.wrap (x1 - 1)))), []⟩, by omega, (wg 0 [] [] hx (le_upd (le_upd (le_upd (le_top _) (o1 .sc)) (o1 .sc)) (o1 .sc)) an), by omega, IntKind.i64.wrap (x1 - 1), h, rfl⟩
  ·refine AW.cond_no rfl c2 (AW.exit (AW.seq (AW.region ?_)))
   refine s_assign (d := (si (-1))) rfl (AWops.nil (AW.ret ?_))
   obtain rfl := Option.some.inj h
   exact ⟨_, rfl, (wg 0 [] [] rfl (le_upd (le_top _) (o1 .sc)) an)⟩
mutual
def dossierref01_Text.f : Nat → Int → Option ByteArray
 | 0, _ => none
 | k + 1, a0 => if (decide (a0 < 0)) = true then (if (decide (a0 > (-10))) = true then ((dossierref01_Text.f k (IntKind.i64.wrap (0 - a0))).bind fun r3 => if (decide ((⟨#[45]⟩ : ByteArray).size + r3.size ≤ 9223372036854775807)) = true then (some ((⟨#[45]⟩ : ByteArray) ++ r3)) else none) else ((dossierref01_Text.f k (IntKind.i64.wrap (Int.tdiv a0 10))).bind fun r5 => (dossierref01_Text.f k (IntKind.i64.wrap (0 - (Int.tmod a0 10)))).bind fun r6 => if (decide (r5.size + r6.size ≤ 9223372036854775807)) = true then (some (r5 ++ r6)) else none)) else (if (decide (a0 < 10)) = true then (if (decide (0 ≤ a0 ∧ a0 ≤ (IntKind.i64.wrap (a0 + 1)) ∧ (IntKind.i64.wrap (a0 + 1)) ≤ ((⟨#[48, 49, 50, 51, 52, 53, 54, 55, 56, 57]⟩ : ByteArray).size : Int))) = true then (some ((⟨#[48, 49, 50, 51, 52, 53, 54, 55, 56, 57]⟩ : ByteArray).extract a0.toNat (IntKind.i64.wrap (a0 + 1)).toNat)) else none) else ((dossierref01_Text.f k (IntKind.i64.wrap (Int.tdiv a0 10))).bind fun r10 => (dossierref01_Text.f k (Int.tmod a0 10)).bind fun r11 => if (decide (r10.size + r11.size ≤ 9223372036854775807)) = true then (some (r10 ++ r11)) else none))
end
theorem dossierref01_Text.meets (k : Nat) : ∀ (a0 : Int) (r : ByteArray), dossierref01_Text.f k a0 = some r → Meets Tryd.prog 55 [(si a0)] [] (st_ r) [] := by
 induction k using Nat.strongRecOn with
 | _ k ih =>
  cases k with
  | zero =>
   ·intro a0 r h; exact absurd h (by simp [dossierref01_Text.f])
  | succ k =>
   ·intro a0 r h
    replace h := (dossierref01_Text.f.eq_2 _ _).symm.trans h
    refine Meets.of_body (n := 32) Tryd.func55 rfl rfl (nl rfl) fun x hx => ?_
    replace hx : x.k = 0 := hx
    show AW _ x _ _ ⟨32, fr0 [(si a0)], []⟩
    refine AW.seq (AW.region ?_)
    refine s_assign (d := (st_ (⟨#[]⟩ : ByteArray))) rfl (AWops.nil (AW.seq (AW.seq (AW.region ?_))))
    refine s_move (d := (si a0)) rfl (s_binI (v := (.bool (decide (a0 < 0)))) rfl rfl rfl (AWops.nil ?_))
    rcases itH h with ⟨c1, h⟩ | ⟨c1, h⟩
    ·refine AW.cond_yes rfl c1 (AW.seq (AW.seq (AW.region ?_)))
     refine s_move (d := (si a0)) rfl (s_binI (v := (.bool (decide (a0 > (-10))))) rfl rfl rfl (AWops.nil ?_))
     rcases itH h with ⟨c2, h⟩ | ⟨c2, h⟩
     ·refine AW.cond_yes rfl c2 (AW.seq (AW.region ?_))
      refine s_move (d := (si a0)) rfl (s_unI (v := (.int .i64 (IntKind.i64.wrap (0 - a0)))) rfl rfl ?_)
      obtain ⟨r3, er3, h⟩ := bnd h
      refine cc [] [] (st_ r3) F.ca_55 rfl rfl (ac (.one .sc) an) an (ih _ (by omega) (IntKind.i64.wrap (0 - a0)) r3 er3) ?_
      obtain ⟨c4, h⟩ := gdH h
      refine s_binS (v := (.string ((⟨#[45]⟩ : ByteArray) ++ r3))) rfl rfl (if_neg (by have := of_decide_eq_true c4; omega)) (s_assign (d := (st_ ((⟨#[45]⟩ : ByteArray) ++ r3))) rfl (AWops.nil (AW.ret ?_)))
      obtain rfl := Option.some.inj h
      exact ⟨_, rfl, (wg 0 [] [] rfl (le_upd (le_top _) (o1 .sc)) an)⟩
     ·refine AW.cond_no rfl c2 (AW.skip (AW.seq (AW.region ?_)))
      refine s_move (d := (si a0)) rfl (s_binI (v := (.int .i64 (IntKind.i64.wrap (Int.tdiv a0 10)))) rfl rfl rfl ?_)
      obtain ⟨r5, er5, h⟩ := bnd h
      refine cc [] [] (st_ r5) F.ca_55 rfl rfl (ac (.one .sc) an) an (ih _ (by omega) (IntKind.i64.wrap (Int.tdiv a0 10)) r5 er5) (s_move (d := (si a0)) rfl (s_binI (v := (.int .i64 (Int.tmod a0 10))) rfl rfl rfl (s_unI (v := (.int .i64 (IntKind.i64.wrap (0 - (Int.tmod a0 10))))) rfl rfl ?_)))
      obtain ⟨r6, er6, h⟩ := bnd h
      refine cc [] [] (st_ r6) F.ca_55 rfl rfl (ac (.one .sc) an) an (ih _ (by omega) (IntKind.i64.wrap (0 - (Int.tmod a0 10))) r6 er6) ?_
      obtain ⟨c7, h⟩ := gdH h
      refine s_binS (v := (.string (r5 ++ r6))) rfl rfl (if_neg (by have := of_decide_eq_true c7; omega)) (s_assign (d := (st_ (r5 ++ r6))) rfl (AWops.nil (AW.ret ?_)))
      obtain rfl := Option.some.inj h
      exact ⟨_, rfl, (wg 0 [] [] rfl (le_upd (le_top _) (o1 .sc)) an)⟩
    ·refine AW.cond_no rfl c1 (AW.skip (AW.seq (AW.seq (AW.region ?_))))
     refine s_move (d := (si a0)) rfl (s_binI (v := (.bool (decide (a0 < 10)))) rfl rfl rfl (AWops.nil ?_))
     rcases itH h with ⟨c8, h⟩ | ⟨c8, h⟩
     ·refine AW.cond_yes rfl c8 (AW.seq (AW.region ?_))
      refine s_move (d := (si a0)) rfl (s_move (d := (si a0)) rfl (s_binI (v := (.int .i64 (IntKind.i64.wrap (a0 + 1)))) rfl rfl rfl ?_))
      obtain ⟨c9, h⟩ := gdH h
      have dc9 := of_decide_eq_true c9
      refine s_sliceStr F.u_9 rfl (.yes rfl (by omega) rfl) (.yes rfl (by omega) rfl) (by omega) (by omega) (s_assign (d := (st_ ((⟨#[48, 49, 50, 51, 52, 53, 54, 55, 56, 57]⟩ : ByteArray).extract a0.toNat (IntKind.i64.wrap (a0 + 1)).toNat))) rfl (AWops.nil (AW.ret ?_)))
      obtain rfl := Option.some.inj h
      exact ⟨_, rfl, (wg 0 [] [] rfl (le_upd (le_top _) (o1 .sc)) an)⟩
     ·refine AW.cond_no rfl c8 (AW.skip (AW.seq (AW.region ?_)))
      refine s_move (d := (si a0)) rfl (s_binI (v := (.int .i64 (IntKind.i64.wrap (Int.tdiv a0 10)))) rfl rfl rfl ?_)
      obtain ⟨r10, er10, h⟩ := bnd h
      refine cc [] [] (st_ r10) F.ca_55 rfl rfl (ac (.one .sc) an) an (ih _ (by omega) (IntKind.i64.wrap (Int.tdiv a0 10)) r10 er10) (s_move (d := (si a0)) rfl (s_binI (v := (.int .i64 (Int.tmod a0 10))) rfl rfl rfl ?_))
      obtain ⟨r11, er11, h⟩ := bnd h
      refine cc [] [] (st_ r11) F.ca_55 rfl rfl (ac (.one .sc) an) an (ih _ (by omega) (Int.tmod a0 10) r11 er11) ?_
      obtain ⟨c12, h⟩ := gdH h
      refine s_binS (v := (.string (r10 ++ r11))) rfl rfl (if_neg (by have := of_decide_eq_true c12; omega)) (s_assign (d := (st_ (r10 ++ r11))) rfl (AWops.nil (AW.ret ?_)))
      obtain rfl := Option.some.inj h
      exact ⟨_, rfl, (wg 0 [] [] rfl (le_upd (le_top _) (o1 .sc)) an)⟩
mutual
def dossierref01_Number.j3 : Nat → Int → ByteArray → Option (Int × Int)
 | 0, _, _ => none
 | k + 1, x22, a0 => (dossierref01_Text.f k x22).bind fun r23 => if (r23.toList == a0.toList) = true then (some (x22, 0)) else (some (0, 4))
def dossierref01_Number.l2 : Nat → Int → Int → ByteArray → ByteArray → Option (Int × Int)
 | 0, _, _, _, _ => none
 | k + 1, x17, x18, a0, x5 => if (decide (x18 < (x5.size : Int))) = true then ((bt x5 x18).bind fun v20 => dossierref01_Number.l2 k (IntKind.i64.wrap ((IntKind.i64.wrap (10 * x17)) - (IntKind.i64.wrap (IntKind.u8.wrap (v20 - 48))))) (IntKind.i64.wrap (x18 + 1)) a0 x5) else (if ((x5.size : Int) == (a0.size : Int)) = true then (dossierref01_Number.j3 k (IntKind.i64.wrap (0 - x17)) a0) else (dossierref01_Number.j3 k x17 a0))
def dossierref01_Number.l1 : Nat → Int → ByteArray → ByteArray → Option (Int × Int)
 | 0, _, _, _ => none
 | k + 1, x10, a0, x5 => if (decide (x10 < (x5.size : Int))) = true then ((bt x5 x10).bind fun v12 => if (decide (v12 < 48)) = true then (some (0, 5)) else ((bt x5 x10).bind fun v14 => if (decide (v14 > 57)) = true then (some (0, 5)) else (dossierref01_Number.l1 k (IntKind.i64.wrap (x10 + 1)) a0 x5))) else (if (decide ((x5.size : Int) > 19)) = true then (some (0, 4)) else (dossierref01_Number.l2 k 0 0 a0 x5))
def dossierref01_Number.j6 : Nat → Int → ByteArray → Option (Int × Int)
 | 0, _, _ => none
 | k + 1, x37, a0 => (dossierref01_Text.f k x37).bind fun r38 => if (r38.toList == a0.toList) = true then (some (x37, 0)) else (some (0, 4))
def dossierref01_Number.l5 : Nat → Int → Int → ByteArray → ByteArray → Option (Int × Int)
 | 0, _, _, _, _ => none
 | k + 1, x32, x33, a0, x5 => if (decide (x33 < (x5.size : Int))) = true then ((bt x5 x33).bind fun v35 => dossierref01_Number.l5 k (IntKind.i64.wrap ((IntKind.i64.wrap (10 * x32)) - (IntKind.i64.wrap (IntKind.u8.wrap (v35 - 48))))) (IntKind.i64.wrap (x33 + 1)) a0 x5) else (if ((x5.size : Int) == (a0.size : Int)) = true then (dossierref01_Number.j6 k (IntKind.i64.wrap (0 - x32)) a0) else (dossierref01_Number.j6 k x32 a0))
def dossierref01_Number.l4 : Nat → Int → ByteArray → ByteArray → Option (Int × Int)
 | 0, _, _, _ => none
 | k + 1, x25, a0, x5 => if (decide (x25 < (x5.size : Int))) = true then ((bt x5 x25).bind fun v27 => if (decide (v27 < 48)) = true then (some (0, 5)) else ((bt x5 x25).bind fun v29 => if (decide (v29 > 57)) = true then (some (0, 5)) else (dossierref01_Number.l4 k (IntKind.i64.wrap (x25 + 1)) a0 x5))) else (if (decide ((x5.size : Int) > 19)) = true then (some (0, 4)) else (dossierref01_Number.l5 k 0 0 a0 x5))
def dossierref01_Number.j0 : Nat → ByteArray → ByteArray → Option (Int × Int)
 | 0, _, _ => none
 | k + 1, x5, a0 => if ((x5.size : Int) == 0) = true then (some (0, 5)) else ((bt x5 0).bind fun v7 => if (v7 == 48) = true then (if (decide ((a0.size : Int) > 1)) = true then (some (0, 5)) else (dossierref01_Number.l1 k 0 a0 x5)) else (dossierref01_Number.l4 k 0 a0 x5))
end
def dossierref01_Number.f (k : Nat) (a0 : ByteArray) : Option (Int × Int) := if (decide ((a0.size : Int) > 0)) = true then ((bt a0 0).bind fun v2 => if (v2 == 45) = true then (if (decide (0 ≤ 1 ∧ 1 ≤ (a0.size : Int) ∧ (a0.size : Int) ≤ (a0.size : Int))) = true then (dossierref01_Number.j0 k (a0.extract 1 a0.size) a0) else none) else (dossierref01_Number.j0 k a0 a0)) else (dossierref01_Number.j0 k a0 a0)
theorem dossierref01_Number.meets (k : Nat) (a0 : ByteArray) (r : Int × Int) (h : dossierref01_Number.f k a0 = some r) : Meets Tryd.prog 49 [(st_ a0)] [] (D.tup [(si r.1), (si r.2)]) [] := by
 unfold dossierref01_Number.f at h
 refine Meets.of_body (n := 77) Tryd.func49 rfl rfl (nl rfl) fun x hx => ?_
 replace hx : x.k = 0 := hx
 show AW _ x _ _ ⟨77, fr0 [(st_ a0)], []⟩
 refine AW.seq (AW.region ?_)
 refine s_assign (d := (si 0)) rfl (s_assign (d := (si 0)) rfl (AWops.nil (AW.seq (AW.region (s_move (d := (st_ a0)) rfl (s_assign (d := (st_ a0)) rfl (AWops.nil ?_)))))))
 refine AW.seqJ (fun st => ∃ (x5 : ByteArray), dossierref01_Number.j0 k x5 a0 = some r ∧ st = ⟨77, (upd 77 (upd 77 topF 0 (st_ a0)) 4 (st_ x5)), []⟩) ?_ ?_
 ·refine AW.seq (AW.region ?_)
  refine s_move (d := (st_ a0)) rfl (s_len (n := a0.size) F.u_9 rfl (.inl ⟨⟨_, _, rfl⟩, rfl⟩) (s_binI (v := (.bool (decide ((a0.size : Int) > 0)))) rfl rfl rfl (s_move (d := (sb (decide ((a0.size : Int) > 0)))) rfl ?_)))
  rcases itH h with ⟨c1, h⟩ | ⟨c1, h⟩
  ·refine AWops.guard_yes rfl (nl rfl) rfl c1 ?_
   refine s_move (d := (st_ a0)) rfl ?_
   refine AWops.guard_yes rfl (nl rfl) rfl c1 ?_
   obtain ⟨v2, ev2, h⟩ := bnd h
   obtain ⟨pv2, bv2, gv2, rfl⟩ := bt_some ev2
   refine s_indexStr F.u_9 rfl rfl pv2 gv2 ?_
   generalize hzv2 : ((bv2.toNat : Nat) : Int) = v2 at *
   refine AWops.guard_yes rfl (nl rfl) rfl c1 ?_
   refine s_binI (v := (.bool (v2 == 45))) rfl rfl rfl (s_pick_yes (d := (sb (v2 == 45))) rfl c1 rfl (AWops.nil ?_))
   rcases itH h with ⟨c3, h⟩ | ⟨c3, h⟩
   ·refine AW.cond_yes rfl c3 (AW.region ?_)
    refine s_move (d := (st_ a0)) rfl ?_
    obtain ⟨c4, h⟩ := gdH h
    have dc4 := of_decide_eq_true c4
    refine s_sliceStr F.u_9 rfl (.yes rfl (by omega) rfl) .no (by omega) (by omega) (s_assign (d := (st_ (a0.extract 1 a0.size))) rfl (AWops.nil ?_))
    exact ⟨⟨77, (upd 77 (upd 77 topF 0 (st_ a0)) 4 (st_ (a0.extract 1 a0.size))), []⟩, (wg 0 [] [] hx (le_upd (le_upd (le_top _) (o1 .sc)) (o1 .sc)) an), a0.extract 1 a0.size, h, rfl⟩
   ·refine AW.cond_no rfl c3 (AW.skip ?_)
    exact ⟨⟨77, (upd 77 (upd 77 topF 0 (st_ a0)) 4 (st_ a0)), []⟩, (wg 0 [] [] hx (le_upd (le_upd (le_top _) (o1 .sc)) (o1 .sc)) an), a0, h, rfl⟩
  ·iterate 3 refine AWops.guard_no rfl (nl rfl) rfl c1 ?_
   refine s_pick_no (d := (sb false)) rfl c1 rfl (AWops.nil ?_)
   refine AW.cond_no rfl rfl (AW.skip ?_)
   exact ⟨⟨77, (upd 77 (upd 77 topF 0 (st_ a0)) 4 (st_ a0)), []⟩, (wg 0 [] [] hx (le_upd (le_upd (le_top _) (o1 .sc)) (o1 .sc)) an), a0, h, rfl⟩
 ·rintro st ⟨x5, h, rfl⟩
  cases k with
  | zero => exact absurd h (by simp [dossierref01_Number.j0])
  | succ qj0 =>
   replace h := (dossierref01_Number.j0.eq_2 _ _ _).symm.trans h
   refine AW.seq (AW.seq (AW.region ?_))
   refine s_move (d := (st_ x5)) rfl (s_len (n := x5.size) F.u_9 rfl (.inl ⟨⟨_, _, rfl⟩, rfl⟩) (s_binI (v := (.bool ((x5.size : Int) == 0))) rfl rfl rfl (s_move (d := (sb ((x5.size : Int) == 0))) rfl ?_)))
   rcases itH h with ⟨c6, h⟩ | ⟨c6, h⟩
   ·iterate 4 refine AWops.guard_no rfl (nl rfl) rfl c6 ?_
    iterate 3 refine AWops.guard_undef rfl rfl ?_
    refine AWops.guard_no rfl (nl rfl) rfl c6 ?_
    refine s_pick_yes (d := (sb true)) rfl c6 rfl (AWops.nil ?_)
    refine AW.cond_yes rfl rfl (AW.seq (AW.region ?_))
    refine s_assign (d := (si 0)) rfl (s_assign (d := (si 5)) rfl (AWops.nil (AW.ret ?_)))
    obtain rfl := Option.some.inj h
    exact ⟨_, rfl, (wg 0 [] [] rfl (le_upd (le_top _) (DLe.tup (ac (TLe.one .sc) (ac (TLe.one .sc) an)))) an)⟩
   ·refine AWops.guard_yes rfl (nl rfl) rfl c6 ?_
    refine s_move (d := (st_ x5)) rfl ?_
    refine AWops.guard_yes rfl (nl rfl) rfl c6 ?_
    obtain ⟨v7, ev7, h⟩ := bnd h
    obtain ⟨pv7, bv7, gv7, rfl⟩ := bt_some ev7
    refine s_indexStr F.u_9 rfl rfl pv7 gv7 ?_
    generalize hzv7 : ((bv7.toNat : Nat) : Int) = v7 at *
    refine AWops.guard_yes rfl (nl rfl) rfl c6 ?_
    refine s_binI (v := (.bool (v7 == 48))) rfl rfl rfl ?_
    refine AWops.guard_yes rfl (nl rfl) rfl c6 ?_
    refine s_move (d := (sb (v7 == 48))) rfl ?_
    rcases itH h with ⟨c8, h⟩ | ⟨c8, h⟩
    ·refine AWops.guard_yes rfl (nl rfl) rfl c8 ?_
     refine s_move (d := (st_ a0)) rfl ?_
     refine AWops.guard_yes rfl (nl rfl) rfl c8 ?_
     refine s_len (n := a0.size) F.u_9 rfl (.inl ⟨⟨_, _, rfl⟩, rfl⟩) ?_
     refine AWops.guard_yes rfl (nl rfl) rfl c8 ?_
     refine s_binI (v := (.bool (decide ((a0.size : Int) > 1)))) rfl rfl rfl ?_
     refine AWops.guard_yes rfl (nl rfl) rfl c6 ?_
     refine s_pick_yes (d := (sb (decide ((a0.size : Int) > 1)))) rfl c8 rfl (s_pick_no (d := (sb (decide ((a0.size : Int) > 1)))) rfl c6 rfl (AWops.nil ?_))
     rcases itH h with ⟨c9, h⟩ | ⟨c9, h⟩
     ·refine AW.cond_yes rfl c9 (AW.seq (AW.region ?_))
      refine s_assign (d := (si 0)) rfl (s_assign (d := (si 5)) rfl (AWops.nil (AW.ret ?_)))
      obtain rfl := Option.some.inj h
      exact ⟨_, rfl, (wg 0 [] [] rfl (le_upd (le_top _) (DLe.tup (ac (TLe.one .sc) (ac (TLe.one .sc) an)))) an)⟩
     ·refine AW.cond_no rfl c9 (AW.skip (AW.seq (AW.seq (AW.region ?_))))
      refine s_move (d := (st_ x5)) rfl (s_len (n := x5.size) F.u_9 rfl (.inl ⟨⟨_, _, rfl⟩, rfl⟩) (s_move (d := (si 0)) rfl (AWops.nil (AW.block ?_))))
      refine AW.loopw (st0 := ⟨77, (upd 77 (upd 77 (upd 77 (upd 77 topF 0 (st_ a0)) 4 (st_ x5)) 33 (si (x5.size : Int))) 34 (si 0)), []⟩) (fun kv st => kv ≤ qj0 ∧ ∃ (x10 : Int), dossierref01_Number.l1 kv x10 a0 x5 = some r ∧ st = ⟨77, (upd 77 (upd 77 (upd 77 (upd 77 topF 0 (st_ a0)) 4 (st_ x5)) 33 (si (x5.size : Int))) 34 (si x10)), []⟩) (k := qj0) (wg 0 [] [] hx (le_upd (le_upd (le_upd (le_upd (le_top _) (o1 .sc)) (o1 .sc)) (o1 .sc)) (o1 .sc)) an) ⟨Nat.le_refl _, 0, h, rfl⟩ ?_
      rintro ql1 st ⟨hkl1, x10, h, rfl⟩
      cases ql1 with
      | zero => exact absurd h (by simp [dossierref01_Number.l1])
      | succ ql1 =>
       replace h := (dossierref01_Number.l1.eq_2 _ _ _ _).symm.trans h
       refine AW.seq (AW.region ?_)
       refine s_binI (v := (.bool (decide (x10 < (x5.size : Int))))) rfl rfl rfl (AWops.nil (AW.seq ?_))
       rcases itH h with ⟨c11, h⟩ | ⟨c11, h⟩
       ·refine AW.cond_yes rfl c11 (AW.skip (AW.seq (AW.block (AW.seq (AW.region ?_)))))
        refine s_move (d := (si x10)) rfl (s_assign (d := (si x10)) rfl (AWops.nil (AW.seq (AW.region (s_move (d := (st_ x5)) rfl (s_move (d := (si x10)) rfl ?_))))))
        obtain ⟨v12, ev12, h⟩ := bnd h
        obtain ⟨pv12, bv12, gv12, rfl⟩ := bt_some ev12
        refine s_indexStr F.u_9 rfl rfl pv12 gv12 ?_
        generalize hzv12 : ((bv12.toNat : Nat) : Int) = v12 at *
        refine s_binI (v := (.bool (decide (v12 < 48)))) rfl rfl rfl (s_move (d := (sb (decide (v12 < 48)))) rfl ?_)
        rcases itH h with ⟨c13, h⟩ | ⟨c13, h⟩
        ·iterate 4 refine AWops.guard_no rfl (nl rfl) rfl c13 ?_
         refine s_pick_yes (d := (sb true)) rfl c13 rfl (AWops.nil ?_)
         refine AW.cond_yes rfl rfl (AW.seq (AW.region ?_))
         refine s_assign (d := (si 0)) rfl (s_assign (d := (si 5)) rfl (AWops.nil (AW.ret ?_)))
         obtain rfl := Option.some.inj h
         exact ⟨_, rfl, (wg 0 [] [] rfl (le_upd (le_top _) (DLe.tup (ac (TLe.one .sc) (ac (TLe.one .sc) an)))) an)⟩
        ·refine AWops.guard_yes rfl (nl rfl) rfl c13 ?_
         refine s_move (d := (st_ x5)) rfl ?_
         refine AWops.guard_yes rfl (nl rfl) rfl c13 ?_
         refine s_move (d := (si x10)) rfl ?_
         refine AWops.guard_yes rfl (nl rfl) rfl c13 ?_
         obtain ⟨v14, ev14, h⟩ := bnd h
         obtain ⟨pv14, bv14, gv14, rfl⟩ := bt_some ev14
         refine s_indexStr F.u_9 rfl rfl pv14 gv14 ?_
         generalize hzv14 : ((bv14.toNat : Nat) : Int) = v14 at *
         refine AWops.guard_yes rfl (nl rfl) rfl c13 ?_
         refine s_binI (v := (.bool (decide (v14 > 57)))) rfl rfl rfl (s_pick_no (d := (sb (decide (v14 > 57)))) rfl c13 rfl (AWops.nil ?_))
         rcases itH h with ⟨c15, h⟩ | ⟨c15, h⟩
         ·refine AW.cond_yes rfl c15 (AW.seq (AW.region ?_))
          refine s_assign (d := (si 0)) rfl (s_assign (d := (si 5)) rfl (AWops.nil (AW.ret ?_)))
          obtain rfl := Option.some.inj h
          exact ⟨_, rfl, (wg 0 [] [] rfl (le_upd (le_top _) (DLe.tup (ac (TLe.one .sc) (ac (TLe.one .sc) an)))) an)⟩
         ·refine AW.cond_no rfl c15 (AW.skip (AW.region ?_))
          refine s_binI (v := (.int .i64 (IntKind.i64.wrap (x10 + 1)))) rfl rfl rfl (s_move (d := (si (IntKind.i64.wrap (x10 + 1)))) rfl (AWops.nil ?_))
          exact ⟨_, ⟨77, (upd 77 (upd 77 (upd 77 (upd 77 topF 0 (st_ a0)) 4 (st_ x5)) 33 (si (x5.size : Int))) 34 (si (IntKind.i64.wrap (x10 + 1)))), []⟩, by omega, (wg 0 [] [] hx (le_upd (le_upd (le_upd (le_upd (le_top _) (o1 .sc)) (o1 .sc)) (o1 .sc)) (o1 .sc)) an), by omega, IntKind.i64.wrap (x10 + 1), h, rfl⟩
       ·refine AW.cond_no rfl c11 (AW.exit (AW.seq (AW.seq (AW.region ?_))))
        refine s_move (d := (st_ x5)) rfl (s_len (n := x5.size) F.u_9 rfl (.inl ⟨⟨_, _, rfl⟩, rfl⟩) (s_binI (v := (.bool (decide ((x5.size : Int) > 19)))) rfl rfl rfl (AWops.nil ?_)))
        rcases itH h with ⟨c16, h⟩ | ⟨c16, h⟩
        ·refine AW.cond_yes rfl c16 (AW.seq (AW.region ?_))
         refine s_assign (d := (si 0)) rfl (s_assign (d := (si 4)) rfl (AWops.nil (AW.ret ?_)))
         obtain rfl := Option.some.inj h
         exact ⟨_, rfl, (wg 0 [] [] rfl (le_upd (le_top _) (DLe.tup (ac (TLe.one .sc) (ac (TLe.one .sc) an)))) an)⟩
        ·refine AW.cond_no rfl c16 (AW.skip (AW.seq (AW.region ?_)))
         refine s_assign (d := (si 0)) rfl (AWops.nil (AW.seq (AW.seq (AW.region ?_))))
         refine s_move (d := (st_ x5)) rfl (s_len (n := x5.size) F.u_9 rfl (.inl ⟨⟨_, _, rfl⟩, rfl⟩) (s_move (d := (si 0)) rfl (AWops.nil (AW.block ?_))))
         refine AW.loopw (st0 := ⟨77, (upd 77 (upd 77 (upd 77 (upd 77 (upd 77 topF 0 (st_ a0)) 4 (st_ x5)) 6 (si 0)) 52 (si (x5.size : Int))) 53 (si 0)), []⟩) (fun kv st => kv ≤ ql1 ∧ ∃ (x17 : Int) (x18 : Int), dossierref01_Number.l2 kv x17 x18 a0 x5 = some r ∧ st = ⟨77, (upd 77 (upd 77 (upd 77 (upd 77 (upd 77 topF 0 (st_ a0)) 4 (st_ x5)) 6 (si x17)) 52 (si (x5.size : Int))) 53 (si x18)), []⟩) (k := ql1) (wg 0 [] [] hx (le_upd (le_upd (le_upd (le_upd (le_upd (le_top _) (o1 .sc)) (o1 .sc)) (o1 .sc)) (o1 .sc)) (o1 .sc)) an) ⟨Nat.le_refl _, 0, 0, h, rfl⟩ ?_
         rintro ql2 st ⟨hkl2, x17, x18, h, rfl⟩
         cases ql2 with
         | zero => exact absurd h (by simp [dossierref01_Number.l2])
         | succ ql2 =>
          replace h := (dossierref01_Number.l2.eq_2 _ _ _ _ _).symm.trans h
          refine AW.seq (AW.region ?_)
          refine s_binI (v := (.bool (decide (x18 < (x5.size : Int))))) rfl rfl rfl (AWops.nil (AW.seq ?_))
          rcases itH h with ⟨c19, h⟩ | ⟨c19, h⟩
          ·refine AW.cond_yes rfl c19 (AW.skip (AW.seq (AW.block (AW.seq (AW.region ?_)))))
           refine s_move (d := (si x18)) rfl (s_assign (d := (si x18)) rfl (AWops.nil (AW.region (s_move (d := (si x17)) rfl (s_binI (v := (.int .i64 (IntKind.i64.wrap (10 * x17)))) rfl rfl rfl (s_move (d := (st_ x5)) rfl (s_move (d := (si x18)) rfl ?_)))))))
           obtain ⟨v20, ev20, h⟩ := bnd h
           obtain ⟨pv20, bv20, gv20, rfl⟩ := bt_some ev20
           refine s_indexStr F.u_9 rfl rfl pv20 gv20 ?_
           generalize hzv20 : ((bv20.toNat : Nat) : Int) = v20 at *
           refine s_binI (v := (.int .u8 (IntKind.u8.wrap (v20 - 48)))) rfl rfl rfl (s_convI F.u_5 F.u_3 rfl (s_binI (v := (.int .i64 (IntKind.i64.wrap ((IntKind.i64.wrap (10 * x17)) - (IntKind.i64.wrap (IntKind.u8.wrap (v20 - 48))))))) rfl rfl rfl (s_assign (d := (si (IntKind.i64.wrap ((IntKind.i64.wrap (10 * x17)) - (IntKind.i64.wrap (IntKind.u8.wrap (v20 - 48))))))) rfl (AWops.nil (AW.region (s_binI (v := (.int .i64 (IntKind.i64.wrap (x18 + 1)))) rfl rfl rfl (s_move (d := (si (IntKind.i64.wrap (x18 + 1)))) rfl (AWops.nil ?_))))))))
           exact ⟨_, ⟨77, (upd 77 (upd 77 (upd 77 (upd 77 (upd 77 topF 0 (st_ a0)) 4 (st_ x5)) 6 (si (IntKind.i64.wrap ((IntKind.i64.wrap (10 * x17)) - (IntKind.i64.wrap (IntKind.u8.wrap (v20 - 48))))))) 52 (si (x5.size : Int))) 53 (si (IntKind.i64.wrap (x18 + 1)))), []⟩, by omega, (wg 0 [] [] hx (le_upd (le_upd (le_upd (le_upd (le_upd (le_top _) (o1 .sc)) (o1 .sc)) (o1 .sc)) (o1 .sc)) (o1 .sc)) an), by omega, IntKind.i64.wrap ((IntKind.i64.wrap (10 * x17)) - (IntKind.i64.wrap (IntKind.u8.wrap (v20 - 48)))), IntKind.i64.wrap (x18 + 1), h, rfl⟩
          ·refine AW.cond_no rfl c19 (AW.exit ?_)
           refine AW.seqJ (fun st => ∃ (x22 : Int), dossierref01_Number.j3 ql2 x22 a0 = some r ∧ st = ⟨77, (upd 77 (upd 77 topF 0 (st_ a0)) 6 (si x22)), []⟩) ?_ ?_
           ·refine AW.seq (AW.region ?_)
            refine s_move (d := (st_ x5)) rfl (s_len (n := x5.size) F.u_9 rfl (.inl ⟨⟨_, _, rfl⟩, rfl⟩) (s_move (d := (st_ a0)) rfl (s_len (n := a0.size) F.u_9 rfl (.inl ⟨⟨_, _, rfl⟩, rfl⟩) (s_binI (v := (.bool ((x5.size : Int) == (a0.size : Int)))) rfl rfl rfl (AWops.nil ?_)))))
            rcases itH h with ⟨c21, h⟩ | ⟨c21, h⟩
            ·refine AW.cond_yes rfl c21 (AW.region ?_)
             refine s_move (d := (si x17)) rfl (s_unI (v := (.int .i64 (IntKind.i64.wrap (0 - x17)))) rfl rfl (s_assign (d := (si (IntKind.i64.wrap (0 - x17)))) rfl (AWops.nil ?_)))
             exact ⟨⟨77, (upd 77 (upd 77 topF 0 (st_ a0)) 6 (si (IntKind.i64.wrap (0 - x17)))), []⟩, (wg 0 [] [] hx (le_upd (le_upd (le_top _) (o1 .sc)) (o1 .sc)) an), IntKind.i64.wrap (0 - x17), h, rfl⟩
            ·refine AW.cond_no rfl c21 (AW.skip ?_)
             exact ⟨⟨77, (upd 77 (upd 77 topF 0 (st_ a0)) 6 (si x17)), []⟩, (wg 0 [] [] hx (le_upd (le_upd (le_top _) (o1 .sc)) (o1 .sc)) an), x17, h, rfl⟩
           ·rintro st ⟨x22, h, rfl⟩
            cases ql2 with
            | zero => exact absurd h (by simp [dossierref01_Number.j3])
            | succ qj3 =>
             replace h := (dossierref01_Number.j3.eq_2 _ _ _).symm.trans h
             refine AW.seq (AW.seq (AW.region ?_))
             refine s_move (d := (si x22)) rfl ?_
             obtain ⟨r23, er23, h⟩ := bnd h
             refine cc [] [] (st_ r23) F.ca_55 rfl rfl (ac (.one .sc) an) an (dossierref01_Text.meets _ x22 r23 er23) (s_move (d := (st_ a0)) rfl (s_binS (v := (.bool (!(r23.toList == a0.toList)))) rfl rfl rfl (AWops.nil ?_)))
             rcases itH h with ⟨c24, h⟩ | ⟨c24, h⟩
             ·refine AW.cond_no rfl (by rw [c24] <;> rfl) (AW.skip (AW.seq (AW.region ?_)))
              refine s_move (d := (si x22)) rfl (s_assign (d := (si x22)) rfl (s_assign (d := (si 0)) rfl (AWops.nil (AW.ret ?_))))
              obtain rfl := Option.some.inj h
              exact ⟨_, rfl, (wg 0 [] [] rfl (le_upd (le_top _) (DLe.tup (ac (TLe.one .sc) (ac (TLe.one .sc) an)))) an)⟩
             ·refine AW.cond_yes rfl (by rw [c24] <;> rfl) (AW.seq (AW.region ?_))
              refine s_assign (d := (si 0)) rfl (s_assign (d := (si 4)) rfl (AWops.nil (AW.ret ?_)))
              obtain rfl := Option.some.inj h
              exact ⟨_, rfl, (wg 0 [] [] rfl (le_upd (le_top _) (DLe.tup (ac (TLe.one .sc) (ac (TLe.one .sc) an)))) an)⟩
    ·iterate 3 refine AWops.guard_no rfl (nl rfl) rfl c8 ?_
     refine AWops.guard_yes rfl (nl rfl) rfl c6 ?_
     refine s_pick_no (d := (sb false)) rfl c8 rfl (s_pick_no (d := (sb false)) rfl c6 rfl (AWops.nil ?_))
     refine AW.cond_no rfl rfl (AW.skip (AW.seq (AW.seq (AW.region ?_))))
     refine s_move (d := (st_ x5)) rfl (s_len (n := x5.size) F.u_9 rfl (.inl ⟨⟨_, _, rfl⟩, rfl⟩) (s_move (d := (si 0)) rfl (AWops.nil (AW.block ?_))))
     refine AW.loopw (st0 := ⟨77, (upd 77 (upd 77 (upd 77 (upd 77 topF 0 (st_ a0)) 4 (st_ x5)) 33 (si (x5.size : Int))) 34 (si 0)), []⟩) (fun kv st => kv ≤ qj0 ∧ ∃ (x25 : Int), dossierref01_Number.l4 kv x25 a0 x5 = some r ∧ st = ⟨77, (upd 77 (upd 77 (upd 77 (upd 77 topF 0 (st_ a0)) 4 (st_ x5)) 33 (si (x5.size : Int))) 34 (si x25)), []⟩) (k := qj0) (wg 0 [] [] hx (le_upd (le_upd (le_upd (le_upd (le_top _) (o1 .sc)) (o1 .sc)) (o1 .sc)) (o1 .sc)) an) ⟨Nat.le_refl _, 0, h, rfl⟩ ?_
     rintro ql4 st ⟨hkl4, x25, h, rfl⟩
     cases ql4 with
     | zero => exact absurd h (by simp [dossierref01_Number.l4])
     | succ ql4 =>
      replace h := (dossierref01_Number.l4.eq_2 _ _ _ _).symm.trans h
      refine AW.seq (AW.region ?_)
      refine s_binI (v := (.bool (decide (x25 < (x5.size : Int))))) rfl rfl rfl (AWops.nil (AW.seq ?_))
      rcases itH h with ⟨c26, h⟩ | ⟨c26, h⟩
      ·refine AW.cond_yes rfl c26 (AW.skip (AW.seq (AW.block (AW.seq (AW.region ?_)))))
       refine s_move (d := (si x25)) rfl (s_assign (d := (si x25)) rfl (AWops.nil (AW.seq (AW.region (s_move (d := (st_ x5)) rfl (s_move (d := (si x25)) rfl ?_))))))
       obtain ⟨v27, ev27, h⟩ := bnd h
       obtain ⟨pv27, bv27, gv27, rfl⟩ := bt_some ev27
       refine s_indexStr F.u_9 rfl rfl pv27 gv27 ?_
       generalize hzv27 : ((bv27.toNat : Nat) : Int) = v27 at *
       refine s_binI (v := (.bool (decide (v27 < 48)))) rfl rfl rfl (s_move (d := (sb (decide (v27 < 48)))) rfl ?_)
       rcases itH h with ⟨c28, h⟩ | ⟨c28, h⟩
       ·iterate 4 refine AWops.guard_no rfl (nl rfl) rfl c28 ?_
        refine s_pick_yes (d := (sb true)) rfl c28 rfl (AWops.nil ?_)
        refine AW.cond_yes rfl rfl (AW.seq (AW.region ?_))
        refine s_assign (d := (si 0)) rfl (s_assign (d := (si 5)) rfl (AWops.nil (AW.ret ?_)))
        obtain rfl := Option.some.inj h
        exact ⟨_, rfl, (wg 0 [] [] rfl (le_upd (le_top _) (DLe.tup (ac (TLe.one .sc) (ac (TLe.one .sc) an)))) an)⟩
       ·refine AWops.guard_yes rfl (nl rfl) rfl c28 ?_
        refine s_move (d := (st_ x5)) rfl ?_
        refine AWops.guard_yes rfl (nl rfl) rfl c28 ?_
        refine s_move (d := (si x25)) rfl ?_
        refine AWops.guard_yes rfl (nl rfl) rfl c28 ?_
        obtain ⟨v29, ev29, h⟩ := bnd h
        obtain ⟨pv29, bv29, gv29, rfl⟩ := bt_some ev29
        refine s_indexStr F.u_9 rfl rfl pv29 gv29 ?_
        generalize hzv29 : ((bv29.toNat : Nat) : Int) = v29 at *
        refine AWops.guard_yes rfl (nl rfl) rfl c28 ?_
        refine s_binI (v := (.bool (decide (v29 > 57)))) rfl rfl rfl (s_pick_no (d := (sb (decide (v29 > 57)))) rfl c28 rfl (AWops.nil ?_))
        rcases itH h with ⟨c30, h⟩ | ⟨c30, h⟩
        ·refine AW.cond_yes rfl c30 (AW.seq (AW.region ?_))
         refine s_assign (d := (si 0)) rfl (s_assign (d := (si 5)) rfl (AWops.nil (AW.ret ?_)))
         obtain rfl := Option.some.inj h
         exact ⟨_, rfl, (wg 0 [] [] rfl (le_upd (le_top _) (DLe.tup (ac (TLe.one .sc) (ac (TLe.one .sc) an)))) an)⟩
        ·refine AW.cond_no rfl c30 (AW.skip (AW.region ?_))
         refine s_binI (v := (.int .i64 (IntKind.i64.wrap (x25 + 1)))) rfl rfl rfl (s_move (d := (si (IntKind.i64.wrap (x25 + 1)))) rfl (AWops.nil ?_))
         exact ⟨_, ⟨77, (upd 77 (upd 77 (upd 77 (upd 77 topF 0 (st_ a0)) 4 (st_ x5)) 33 (si (x5.size : Int))) 34 (si (IntKind.i64.wrap (x25 + 1)))), []⟩, by omega, (wg 0 [] [] hx (le_upd (le_upd (le_upd (le_upd (le_top _) (o1 .sc)) (o1 .sc)) (o1 .sc)) (o1 .sc)) an), by omega, IntKind.i64.wrap (x25 + 1), h, rfl⟩
      ·refine AW.cond_no rfl c26 (AW.exit (AW.seq (AW.seq (AW.region ?_))))
       refine s_move (d := (st_ x5)) rfl (s_len (n := x5.size) F.u_9 rfl (.inl ⟨⟨_, _, rfl⟩, rfl⟩) (s_binI (v := (.bool (decide ((x5.size : Int) > 19)))) rfl rfl rfl (AWops.nil ?_)))
       rcases itH h with ⟨c31, h⟩ | ⟨c31, h⟩
       ·refine AW.cond_yes rfl c31 (AW.seq (AW.region ?_))
        refine s_assign (d := (si 0)) rfl (s_assign (d := (si 4)) rfl (AWops.nil (AW.ret ?_)))
        obtain rfl := Option.some.inj h
        exact ⟨_, rfl, (wg 0 [] [] rfl (le_upd (le_top _) (DLe.tup (ac (TLe.one .sc) (ac (TLe.one .sc) an)))) an)⟩
       ·refine AW.cond_no rfl c31 (AW.skip (AW.seq (AW.region ?_)))
        refine s_assign (d := (si 0)) rfl (AWops.nil (AW.seq (AW.seq (AW.region ?_))))
        refine s_move (d := (st_ x5)) rfl (s_len (n := x5.size) F.u_9 rfl (.inl ⟨⟨_, _, rfl⟩, rfl⟩) (s_move (d := (si 0)) rfl (AWops.nil (AW.block ?_))))
        refine AW.loopw (st0 := ⟨77, (upd 77 (upd 77 (upd 77 (upd 77 (upd 77 topF 0 (st_ a0)) 4 (st_ x5)) 6 (si 0)) 52 (si (x5.size : Int))) 53 (si 0)), []⟩) (fun kv st => kv ≤ ql4 ∧ ∃ (x32 : Int) (x33 : Int), dossierref01_Number.l5 kv x32 x33 a0 x5 = some r ∧ st = ⟨77, (upd 77 (upd 77 (upd 77 (upd 77 (upd 77 topF 0 (st_ a0)) 4 (st_ x5)) 6 (si x32)) 52 (si (x5.size : Int))) 53 (si x33)), []⟩) (k := ql4) (wg 0 [] [] hx (le_upd (le_upd (le_upd (le_upd (le_upd (le_top _) (o1 .sc)) (o1 .sc)) (o1 .sc)) (o1 .sc)) (o1 .sc)) an) ⟨Nat.le_refl _, 0, 0, h, rfl⟩ ?_
        rintro ql5 st ⟨hkl5, x32, x33, h, rfl⟩
        cases ql5 with
        | zero => exact absurd h (by simp [dossierref01_Number.l5])
        | succ ql5 =>
         replace h := (dossierref01_Number.l5.eq_2 _ _ _ _ _).symm.trans h
         refine AW.seq (AW.region ?_)
         refine s_binI (v := (.bool (decide (x33 < (x5.size : Int))))) rfl rfl rfl (AWops.nil (AW.seq ?_))
         rcases itH h with ⟨c34, h⟩ | ⟨c34, h⟩
         ·refine AW.cond_yes rfl c34 (AW.skip (AW.seq (AW.block (AW.seq (AW.region ?_)))))
          refine s_move (d := (si x33)) rfl (s_assign (d := (si x33)) rfl (AWops.nil (AW.region (s_move (d := (si x32)) rfl (s_binI (v := (.int .i64 (IntKind.i64.wrap (10 * x32)))) rfl rfl rfl (s_move (d := (st_ x5)) rfl (s_move (d := (si x33)) rfl ?_)))))))
          obtain ⟨v35, ev35, h⟩ := bnd h
          obtain ⟨pv35, bv35, gv35, rfl⟩ := bt_some ev35
          refine s_indexStr F.u_9 rfl rfl pv35 gv35 ?_
          generalize hzv35 : ((bv35.toNat : Nat) : Int) = v35 at *
          refine s_binI (v := (.int .u8 (IntKind.u8.wrap (v35 - 48)))) rfl rfl rfl (s_convI F.u_5 F.u_3 rfl (s_binI (v := (.int .i64 (IntKind.i64.wrap ((IntKind.i64.wrap (10 * x32)) - (IntKind.i64.wrap (IntKind.u8.wrap (v35 - 48))))))) rfl rfl rfl (s_assign (d := (si (IntKind.i64.wrap ((IntKind.i64.wrap (10 * x32)) - (IntKind.i64.wrap (IntKind.u8.wrap (v35 - 48))))))) rfl (AWops.nil (AW.region (s_binI (v := (.int .i64 (IntKind.i64.wrap (x33 + 1)))) rfl rfl rfl (s_move (d := (si (IntKind.i64.wrap (x33 + 1)))) rfl (AWops.nil ?_))))))))
          exact ⟨_, ⟨77, (upd 77 (upd 77 (upd 77 (upd 77 (upd 77 topF 0 (st_ a0)) 4 (st_ x5)) 6 (si (IntKind.i64.wrap ((IntKind.i64.wrap (10 * x32)) - (IntKind.i64.wrap (IntKind.u8.wrap (v35 - 48))))))) 52 (si (x5.size : Int))) 53 (si (IntKind.i64.wrap (x33 + 1)))), []⟩, by omega, (wg 0 [] [] hx (le_upd (le_upd (le_upd (le_upd (le_upd (le_top _) (o1 .sc)) (o1 .sc)) (o1 .sc)) (o1 .sc)) (o1 .sc)) an), by omega, IntKind.i64.wrap ((IntKind.i64.wrap (10 * x32)) - (IntKind.i64.wrap (IntKind.u8.wrap (v35 - 48)))), IntKind.i64.wrap (x33 + 1), h, rfl⟩
         ·refine AW.cond_no rfl c34 (AW.exit ?_)
          refine AW.seqJ (fun st => ∃ (x37 : Int), dossierref01_Number.j6 ql5 x37 a0 = some r ∧ st = ⟨77, (upd 77 (upd 77 topF 0 (st_ a0)) 6 (si x37)), []⟩) ?_ ?_
          ·refine AW.seq (AW.region ?_)
           refine s_move (d := (st_ x5)) rfl (s_len (n := x5.size) F.u_9 rfl (.inl ⟨⟨_, _, rfl⟩, rfl⟩) (s_move (d := (st_ a0)) rfl (s_len (n := a0.size) F.u_9 rfl (.inl ⟨⟨_, _, rfl⟩, rfl⟩) (s_binI (v := (.bool ((x5.size : Int) == (a0.size : Int)))) rfl rfl rfl (AWops.nil ?_)))))
           rcases itH h with ⟨c36, h⟩ | ⟨c36, h⟩
           ·refine AW.cond_yes rfl c36 (AW.region ?_)
            refine s_move (d := (si x32)) rfl (s_unI (v := (.int .i64 (IntKind.i64.wrap (0 - x32)))) rfl rfl (s_assign (d := (si (IntKind.i64.wrap (0 - x32)))) rfl (AWops.nil ?_)))
            exact ⟨⟨77, (upd 77 (upd 77 topF 0 (st_ a0)) 6 (si (IntKind.i64.wrap (0 - x32)))), []⟩, (wg 0 [] [] hx (le_upd (le_upd (le_top _) (o1 .sc)) (o1 .sc)) an), IntKind.i64.wrap (0 - x32), h, rfl⟩
           ·refine AW.cond_no rfl c36 (AW.skip ?_)
            exact ⟨⟨77, (upd 77 (upd 77 topF 0 (st_ a0)) 6 (si x32)), []⟩, (wg 0 [] [] hx (le_upd (le_upd (le_top _) (o1 .sc)) (o1 .sc)) an), x32, h, rfl⟩
          ·rintro st ⟨x37, h, rfl⟩
           cases ql5 with
           | zero => exact absurd h (by simp [dossierref01_Number.j6])
           | succ qj6 =>
            replace h := (dossierref01_Number.j6.eq_2 _ _ _).symm.trans h
            refine AW.seq (AW.seq (AW.region ?_))
            refine s_move (d := (si x37)) rfl ?_
            obtain ⟨r38, er38, h⟩ := bnd h
            refine cc [] [] (st_ r38) F.ca_55 rfl rfl (ac (.one .sc) an) an (dossierref01_Text.meets _ x37 r38 er38) (s_move (d := (st_ a0)) rfl (s_binS (v := (.bool (!(r38.toList == a0.toList)))) rfl rfl rfl (AWops.nil ?_)))
            rcases itH h with ⟨c39, h⟩ | ⟨c39, h⟩
            ·refine AW.cond_no rfl (by rw [c39] <;> rfl) (AW.skip (AW.seq (AW.region ?_)))
             refine s_move (d := (si x37)) rfl (s_assign (d := (si x37)) rfl (s_assign (d := (si 0)) rfl (AWops.nil (AW.ret ?_))))
             obtain rfl := Option.some.inj h
             exact ⟨_, rfl, (wg 0 [] [] rfl (le_upd (le_top _) (DLe.tup (ac (TLe.one .sc) (ac (TLe.one .sc) an)))) an)⟩
            ·refine AW.cond_yes rfl (by rw [c39] <;> rfl) (AW.seq (AW.region ?_))
             refine s_assign (d := (si 0)) rfl (s_assign (d := (si 4)) rfl (AWops.nil (AW.ret ?_)))
             obtain rfl := Option.some.inj h
             exact ⟨_, rfl, (wg 0 [] [] rfl (le_upd (le_top _) (DLe.tup (ac (TLe.one .sc) (ac (TLe.one .sc) an)))) an)⟩
end Go.Abs.GenQ
