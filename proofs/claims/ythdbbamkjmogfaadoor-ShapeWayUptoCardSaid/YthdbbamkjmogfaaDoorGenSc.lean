import Derived.Test.YthdbbamkjmogfaaDoorGenSb
set_option linter.unusedVariables false
set_option linter.unusedSimpArgs false
set_option maxRecDepth 100000
set_option maxHeartbeats 4000000
namespace Go.Abs.GenS
open Go.Abs Go.Proofs
mutual
def dossierref01_Number.j3 : Nat → Int → ByteArray → Option (Int × Int)
 | 0, _, _ => none
 | k + 1, x22, a0 => (dossierref01_Text.f k x22).bind fun r23 => if (r23.toList == a0.toList) = true then (some (x22, 0)) else (some (0, 4))
def dossierref01_Number.l2 : Nat → Int → Int → ByteArray → ByteArray → Option (Int × Int)
 | 0, _, _, _, _ => none
 | k + 1, x17, x18, a0, x5 => if (decide (x18 < (x5.size : Int))) = true then ((bt x5 x18).bind fun v20 => dossierref01_Number.l2 k (IntKind.i64.wrap ((IntKind.i64.wrap (10 * x17)) - (IntKind.i64.wrap (IntKind.u8.wrap (v20 - 48))))) (IntKind.i64.wrap (x18 + 1)) a0 x5) else (if ((x5.size : Int) == (a0.size : Int)) = true then (dossierref01_Number.j3 k (IntKind.i64.wrap (0 - x17)) a0) else (dossierref01_Number.j3 k x17 a0))
def dossierref01_Number.l1 : Nat → Int → ByteArray → ByteArray → Option (Int × Int)
 | 0, _, _, _ => none
 | k + 1, x10, a0, x5 => if (decide (x10 < (x5.size : Int))) = true then ((bt x5 x10).bind fun v12 => if (decide (v12 < 48)) = true then (some (0, 5)) else ((bt x5 x10).bind fun v14 => if (decide (v14 > 57)) = true then (some (0, 5)) else (dossierref01_Number.l1 k (IntKind.i64.wrap (x10 + 1)) a0 x5))) else (if (decide ((x5.size : Int) > 19)) = true then (some (0, 4)) else (dossierref01_Number.l2 k 0 0 a0 x5))
def dossierref01_Number.j6 : Nat → Int → ByteArray → Option (Int × Int)
 | 0, _, _ => none
 | k + 1, x37, a0 => (dossierref01_Text.f k x37).bind fun r38 => if (r38.toList == a0.toList) = true then (some (x37, 0)) else (some (0, 4))
def dossierref01_Number.l5 : Nat → Int → Int → ByteArray → ByteArray → Option (Int × Int)
 | 0, _, _, _, _ => none
 | k + 1, x32, x33, a0, x5 => if (decide (x33 < (x5.size : Int))) = true then ((bt x5 x33).bind fun v35 => dossierref01_Number.l5 k (IntKind.i64.wrap ((IntKind.i64.wrap (10 * x32)) - (IntKind.i64.wrap (IntKind.u8.wrap (v35 - 48))))) (IntKind.i64.wrap (x33 + 1)) a0 x5) else (if ((x5.size : Int) == (a0.size : Int)) = true then (dossierref01_Number.j6 k (IntKind.i64.wrap (0 - x32)) a0) else (dossierref01_Number.j6 k x32 a0))
def dossierref01_Number.l4 : Nat → Int → ByteArray → ByteArray → Option (Int × Int)
 | 0, _, _, _ => none
 | k + 1, x25, a0, x5 => if (decide (x25 < (x5.size : Int))) = true then ((bt x5 x25).bind fun v27 => if (decide (v27 < 48)) = true then (some (0, 5)) else ((bt x5 x25).bind fun v29 => if (decide (v29 > 57)) = true then (some (0, 5)) else (dossierref01_Number.l4 k (IntKind.i64.wrap (x25 + 1)) a0 x5))) else (if (decide ((x5.size : Int) > 19)) = true then (some (0, 4)) else (dossierref01_Number.l5 k 0 0 a0 x5))
def dossierref01_Number.j0 : Nat → ByteArray → ByteArray → Option (Int × Int)
 | 0, _, _ => none
 | k + 1, x5, a0 => if ((x5.size : Int) == 0) = true then (some (0, 5)) else ((bt x5 0).bind fun v7 => if (v7 == 48) = true then (if (decide ((a0.size : Int) > 1)) = true then (some (0, 5)) else (dossierref01_Number.l1 k 0 a0 x5)) else (dossierref01_Number.l4 k 0 a0 x5))
end
def dossierref01_Number.f (k : Nat) (a0 : ByteArray) : Option (Int × Int) := if (decide ((a0.size : Int) > 0)) = true then ((bt a0 0).bind fun v2 => if (v2 == 45) = true then (if (decide (0 ≤ 1 ∧ 1 ≤ (a0.size : Int) ∧ (a0.size : Int) ≤ (a0.size : Int))) = true then (dossierref01_Number.j0 k (a0.extract 1 a0.size) a0) else none) else (dossierref01_Number.j0 k a0 a0)) else (dossierref01_Number.j0 k a0 a0)
theorem dossierref01_Number.meets (k : Nat) (a0 : ByteArray) (r : Int × Int) (h : dossierref01_Number.f k a0 = some r) : Meets Tryd.prog 35 [(st_ a0)] [] (D.tup [(si r.1), (si r.2)]) [] := by
 unfold dossierref01_Number.f at h
 refine Meets.of_body (n := 77) Tryd.func35 rfl rfl (nl rfl) fun x hx => ?_
 replace hx : x.k = 0 := hx
 show AW _ x _ _ ⟨77, fr0 [(st_ a0)], []⟩
 refine AW.seq (AW.region ?_)
 refine s_assign (d := (si 0)) rfl (s_assign (d := (si 0)) rfl (AWops.nil (AW.seq (AW.region (s_move (d := (st_ a0)) rfl (s_assign (d := (st_ a0)) rfl (AWops.nil ?_)))))))
 refine AW.seqJ (fun st => ∃ (x5 : ByteArray), dossierref01_Number.j0 k x5 a0 = some r ∧ st = ⟨77, (upd 77 (upd 77 topF 0 (st_ a0)) 4 (st_ x5)), []⟩) ?_ ?_
 ·refine AW.seq (AW.region ?_)
  refine s_move (d := (st_ a0)) rfl (s_len (n := a0.size) F.u_9 rfl (.inl ⟨⟨_, _, rfl⟩, rfl⟩) (s_binI (v := (.bool (decide ((a0.size : Int) > 0)))) rfl rfl rfl (s_move (d := (sb (decide ((a0.size : Int) > 0)))) rfl ?_)))
  rcases itH h with ⟨c1, h⟩ | ⟨c1, h⟩
  ·refine AWops.guard_yes rfl (nl rfl) rfl c1 ?_
   refine s_move (d := (st_ a0)) rfl ?_
   refine AWops.guard_yes rfl (nl rfl) rfl c1 ?_
   obtain ⟨v2, ev2, h⟩ := bnd h
   obtain ⟨pv2, bv2, gv2, rfl⟩ := bt_some ev2
   refine s_indexStr F.u_9 rfl rfl pv2 gv2 ?_
   generalize hzv2 : ((bv2.toNat : Nat) : Int) = v2 at *
   refine AWops.guard_yes rfl (nl rfl) rfl c1 ?_
   refine s_binI (v := (.bool (v2 == 45))) rfl rfl rfl (s_pick_yes (d := (sb (v2 == 45))) rfl c1 rfl (AWops.nil ?_))
   rcases itH h with ⟨c3, h⟩ | ⟨c3, h⟩
   ·refine AW.cond_yes rfl c3 (AW.region ?_)
    refine s_move (d := (st_ a0)) rfl ?_
    obtain ⟨c4, h⟩ := gdH h
    have dc4 := of_decide_eq_true c4
    refine s_sliceStr F.u_9 rfl (.yes rfl (by omega) rfl) .no (by omega) (by omega) (s_assign (d := (st_ (a0.extract 1 a0.size))) rfl (AWops.nil ?_))
    exact ⟨⟨77, (upd 77 (upd 77 topF 0 (st_ a0)) 4 (st_ (a0.extract 1 a0.size))), []⟩, (wg 0 [] [] hx (le_upd (le_upd (le_top _) (o1 .sc)) (o1 .sc)) an), a0.extract 1 a0.size, h, rfl⟩
   ·refine AW.cond_no rfl c3 (AW.skip ?_)
    exact ⟨⟨77, (upd 77 (upd 77 topF 0 (st_ a0)) 4 (st_ a0)), []⟩, (wg 0 [] [] hx (le_upd (le_upd (le_top _) (o1 .sc)) (o1 .sc)) an), a0, h, rfl⟩
  ·iterate 3 refine AWops.guard_no rfl (nl rfl) rfl c1 ?_
   refine s_pick_no (d := (sb false)) rfl c1 rfl (AWops.nil ?_)
   refine AW.cond_no rfl rfl (AW.skip ?_)
   exact ⟨⟨77, (upd 77 (upd 77 topF 0 (st_ a0)) 4 (st_ a0)), []⟩, (wg 0 [] [] hx (le_upd (le_upd (le_top _) (o1 .sc)) (o1 .sc)) an), a0, h, rfl⟩
 ·rintro st ⟨x5, h, rfl⟩
  cases k with
  | zero => exact absurd h (by simp [dossierref01_Number.j0])
  | succ qj0 =>
   replace h := (dossierref01_Number.j0.eq_2 _ _ _).symm.trans h
   refine AW.seq (AW.seq (AW.region ?_))
   refine s_move (d := (st_ x5)) rfl (s_len (n := x5.size) F.u_9 rfl (.inl ⟨⟨_, _, rfl⟩, rfl⟩) (s_binI (v := (.bool ((x5.size : Int) == 0))) rfl rfl rfl (s_move (d := (sb ((x5.size : Int) == 0))) rfl ?_)))
   rcases itH h with ⟨c6, h⟩ | ⟨c6, h⟩
   ·iterate 4 refine AWops.guard_no rfl (nl rfl) rfl c6 ?_
    iterate 3 refine AWops.guard_undef rfl rfl ?_
    refine AWops.guard_no rfl (nl rfl) rfl c6 ?_
    refine s_pick_yes (d := (sb true)) rfl c6 rfl (AWops.nil ?_)
    refine AW.cond_yes rfl rfl (AW.seq (AW.region ?_))
    refine s_assign (d := (si 0)) rfl (s_assign (d := (si 5)) rfl (AWops.nil (AW.ret ?_)))
    obtain rfl := Option.some.inj h
    exact ⟨_, rfl, (wg 0 [] [] rfl (le_upd (le_top _) (DLe.tup (ac (TLe.one .sc) (ac (TLe.one .sc) an)))) an)⟩
   ·refine AWops.guard_yes rfl (nl rfl) rfl c6 ?_
    refine s_move (d := (st_ x5)) rfl ?_
    refine AWops.guard_yes rfl (nl rfl) rfl c6 ?_
    obtain ⟨v7, ev7, h⟩ := bnd h
    obtain ⟨pv7, bv7, gv7, rfl⟩ := bt_some ev7
    refine s_indexStr F.u_9 rfl rfl pv7 gv7 ?_
    generalize hzv7 : ((bv7.toNat : Nat) : Int) = v7 at *
    refine AWops.guard_yes rfl (nl rfl) rfl c6 ?_
    refine s_binI (v := (.bool (v7 == 48))) rfl rfl rfl ?_
    refine AWops.guard_yes rfl (nl rfl) rfl c6 ?_
    refine s_move (d := (sb (v7 == 48))) rfl ?_
    rcases itH h with ⟨c8, h⟩ | ⟨c8, h⟩
    ·refine AWops.guard_yes rfl (nl rfl) rfl c8 ?_
     refine s_move (d := (st_ a0)) rfl ?_
     refine AWops.guard_yes rfl (nl rfl) rfl c8 ?_
     refine s_len (n := a0.size) F.u_9 rfl (.inl ⟨⟨_, _, rfl⟩, rfl⟩) ?_
     refine AWops.guard_yes rfl (nl rfl) rfl c8 ?_
     refine s_binI (v := (.bool (decide ((a0.size : Int) > 1)))) rfl rfl rfl ?_
     refine AWops.guard_yes rfl (nl rfl) rfl c6 ?_
     refine s_pick_yes (d := (sb (decide ((a0.size : Int) > 1)))) rfl c8 rfl (s_pick_no (d := (sb (decide ((a0.size : Int) > 1)))) rfl c6 rfl (AWops.nil ?_))
     rcases itH h with ⟨c9, h⟩ | ⟨c9, h⟩
     ·refine AW.cond_yes rfl c9 (AW.seq (AW.region ?_))
      refine s_assign (d := (si 0)) rfl (s_assign (d := (si 5)) rfl (AWops.nil (AW.ret ?_)))
      obtain rfl := Option.some.inj h
      exact ⟨_, rfl, (wg 0 [] [] rfl (le_upd (le_top _) (DLe.tup (ac (TLe.one .sc) (ac (TLe.one .sc) an)))) an)⟩
     ·refine AW.cond_no rfl c9 (AW.skip (AW.seq (AW.seq (AW.region ?_))))
      refine s_move (d := (st_ x5)) rfl (s_len (n := x5.size) F.u_9 rfl (.inl ⟨⟨_, _, rfl⟩, rfl⟩) (s_move (d := (si 0)) rfl (AWops.nil (AW.block ?_))))
      refine AW.loopw (st0 := ⟨77, (upd 77 (upd 77 (upd 77 (upd 77 topF 0 (st_ a0)) 4 (st_ x5)) 33 (si (x5.size : Int))) 34 (si 0)), []⟩) (fun kv st => kv ≤ qj0 ∧ ∃ (x10 : Int), dossierref01_Number.l1 kv x10 a0 x5 = some r ∧ st = ⟨77, (upd 77 (upd 77 (upd 77 (upd 77 topF 0 (st_ a0)) 4 (st_ x5)) 33 (si (x5.size : Int))) 34 (si x10)), []⟩) (k := qj0) (wg 0 [] [] hx (le_upd (le_upd (le_upd (le_upd (le_top _) (o1 .sc)) (o1 .sc)) (o1 .sc)) (o1 .sc)) an) ⟨Nat.le_refl _, 0, h, rfl⟩ ?_
      rintro ql1 st ⟨hkl1, x10, h, rfl⟩
      cases ql1 with
      | zero => exact absurd h (by simp [dossierref01_Number.l1])
      | succ ql1 =>
       replace h := (dossierref01_Number.l1.eq_2 _ _ _ _).symm.trans h
       refine AW.seq (AW.region ?_)
       refine s_binI (v := (.bool (decide (x10 < (x5.size : Int))))) rfl rfl rfl (AWops.nil (AW.seq ?_))
       rcases itH h with ⟨c11, h⟩ | ⟨c11, h⟩
       ·refine AW.cond_yes rfl c11 (AW.skip (AW.seq (AW.block (AW.seq (AW.region ?_)))))
        refine s_move (d := (si x10)) rfl (s_assign (d := (si x10)) rfl (AWops.nil (AW.seq (AW.region (s_move (d := (st_ x5)) rfl (s_move (d := (si x10)) rfl ?_))))))
        obtain ⟨v12, ev12, h⟩ := bnd h
        obtain ⟨pv12, bv12, gv12, rfl⟩ := bt_some ev12
        refine s_indexStr F.u_9 rfl rfl pv12 gv12 ?_
        generalize hzv12 : ((bv12.toNat : Nat) : Int) = v12 at *
        refine s_binI (v := (.bool (decide (v12 < 48)))) rfl rfl rfl (s_move (d := (sb (decide (v12 < 48)))) rfl ?_)
        rcases itH h with ⟨c13, h⟩ | ⟨c13, h⟩
        ·iterate 4 refine AWops.guard_no rfl (nl rfl) rfl c13 ?_
         refine s_pick_yes (d := (sb true)) rfl c13 rfl (AWops.nil ?_)
         refine AW.cond_yes rfl rfl (AW.seq (AW.region ?_))
         refine s_assign (d := (si 0)) rfl (s_assign (d := (si 5)) rfl (AWops.nil (AW.ret ?_)))
         obtain rfl := Option.some.inj h
         exact ⟨_, rfl, (wg 0 [] [] rfl (le_upd (le_top _) (DLe.tup (ac (TLe.one .sc) (ac (TLe.one .sc) an)))) an)⟩
        ·refine AWops.guard_yes rfl (nl rfl) rfl c13 ?_
         refine s_move (d := (st_ x5)) rfl ?_
         refine AWops.guard_yes rfl (nl rfl) rfl c13 ?_
         refine s_move (d := (si x10)) rfl ?_
         refine AWops.guard_yes rfl (nl rfl) rfl c13 ?_
         obtain ⟨v14, ev14, h⟩ := bnd h
         obtain ⟨pv14, bv14, gv14, rfl⟩ := bt_some ev14
         refine s_indexStr F.u_9 rfl rfl pv14 gv14 ?_
         generalize hzv14 : ((bv14.toNat : Nat) : Int) = v14 at *
         refine AWops.guard_yes rfl (nl rfl) rfl c13 ?_
         refine s_binI (v := (.bool (decide (v14 > 57)))) rfl rfl rfl (s_pick_no (d := (sb (decide (v14 > 57)))) rfl c13 rfl (AWops.nil ?_))
         rcases itH h with ⟨c15, h⟩ | ⟨c15, h⟩
         ·refine AW.cond_yes rfl c15 (AW.seq (AW.region ?_))
          refine s_assign (d := (si 0)) rfl (s_assign (d := (si 5)) rfl (AWops.nil (AW.ret ?_)))
          obtain rfl := Option.some.inj h
          exact ⟨_, rfl, (wg 0 [] [] rfl (le_upd (le_top _) (DLe.tup (ac (TLe.one .sc) (ac (TLe.one .sc) an)))) an)⟩
         ·refine AW.cond_no rfl c15 (AW.skip (AW.region ?_))
          refine s_binI (v := (.int .i64 (IntKind.i64.wrap (x10 + 1)))) rfl rfl rfl (s_move (d := (si (IntKind.i64.wrap (x10 + 1)))) rfl (AWops.nil ?_))
          exact ⟨_, ⟨77, (upd 77 (upd 77 (upd 77 (upd 77 topF 0 (st_ a0)) 4 (st_ x5)) 33 (si (x5.size : Int))) 34 (si (IntKind.i64.wrap (x10 + 1)))), []⟩, by omega, (wg 0 [] [] hx (le_upd (le_upd (le_upd (le_upd (le_top _) (o1 .sc)) (o1 .sc)) (o1 .sc)) (o1 .sc)) an), by omega, IntKind.i64.wrap (x10 + 1), h, rfl⟩
       ·refine AW.cond_no rfl c11 (AW.exit (AW.seq (AW.seq (AW.region ?_))))
        refine s_move (d := (st_ x5)) rfl (s_len (n := x5.size) F.u_9 rfl (.inl ⟨⟨_, _, rfl⟩, rfl⟩) (s_binI (v := (.bool (decide ((x5.size : Int) > 19)))) rfl rfl rfl (AWops.nil ?_)))
        rcases itH h with ⟨c16, h⟩ | ⟨c16, h⟩
        ·refine AW.cond_yes rfl c16 (AW.seq (AW.region ?_))
         refine s_assign (d := (si 0)) rfl (s_assign (d := (si 4)) rfl (AWops.nil (AW.ret ?_)))
         obtain rfl := Option.some.inj h
         exact ⟨_, rfl, (wg 0 [] [] rfl (le_upd (le_top _) (DLe.tup (ac (TLe.one .sc) (ac (TLe.one .sc) an)))) an)⟩
        ·refine AW.cond_no rfl c16 (AW.skip (AW.seq (AW.region ?_)))
         refine s_assign (d := (si 0)) rfl (AWops.nil (AW.seq (AW.seq (AW.region ?_))))
         refine s_move (d := (st_ x5)) rfl (s_len (n := x5.size) F.u_9 rfl (.inl ⟨⟨_, _, rfl⟩, rfl⟩) (s_move (d := (si 0)) rfl (AWops.nil (AW.block ?_))))
         refine AW.loopw (st0 := ⟨77, (upd 77 (upd 77 (upd 77 (upd 77 (upd 77 topF 0 (st_ a0)) 4 (st_ x5)) 6 (si 0)) 52 (si (x5.size : Int))) 53 (si 0)), []⟩) (fun kv st => kv ≤ ql1 ∧ ∃ (x17 : Int) (x18 : Int), dossierref01_Number.l2 kv x17 x18 a0 x5 = some r ∧ st = ⟨77, (upd 77 (upd 77 (upd 77 (upd 77 (upd 77 topF 0 (st_ a0)) 4 (st_ x5)) 6 (si x17)) 52 (si (x5.size : Int))) 53 (si x18)), []⟩) (k := ql1) (wg 0 [] [] hx (le_upd (le_upd (le_upd (le_upd (le_upd (le_top _) (o1 .sc)) (o1 .sc)) (o1 .sc)) (o1 .sc)) (o1 .sc)) an) ⟨Nat.le_refl _, 0, 0, h, rfl⟩ ?_
         rintro ql2 st ⟨hkl2, x17, x18, h, rfl⟩
         cases ql2 with
         | zero => exact absurd h (by simp [dossierref01_Number.l2])
         | succ ql2 =>
          replace h := (dossierref01_Number.l2.eq_2 _ _ _ _ _).symm.trans h
          refine AW.seq (AW.region ?_)
          refine s_binI (v := (.bool (decide (x18 < (x5.size : Int))))) rfl rfl rfl (AWops.nil (AW.seq ?_))
          rcases itH h with ⟨c19, h⟩ | ⟨c19, h⟩
          ·refine AW.cond_yes rfl c19 (AW.skip (AW.seq (AW.block (AW.seq (AW.region ?_)))))
           refine s_move (d := (si x18)) rfl (s_assign (d := (si x18)) rfl (AWops.nil (AW.region (s_move (d := (si x17)) rfl (s_binI (v := (.int .i64 (IntKind.i64.wrap (10 * x17)))) rfl rfl rfl (s_move (d := (st_ x5)) rfl (s_move (d := (si x18)) rfl ?_)))))))
           obtain ⟨v20, ev20, h⟩ := bnd h
           obtain ⟨pv20, bv20, gv20, rfl⟩ := bt_some ev20
           refine s_indexStr F.u_9 rfl rfl pv20 gv20 ?_
           generalize hzv20 : ((bv20.toNat : Nat) : Int) = v20 at *
           refine s_binI (v := (.int .u8 (IntKind.u8.wrap (v20 - 48)))) rfl rfl rfl (s_convI F.u_5 F.u_3 rfl (s_binI (v := (.int .i64 (IntKind.i64.wrap ((IntKind.i64.wrap (10 * x17)) - (IntKind.i64.wrap (IntKind.u8.wrap (v20 - 48))))))) rfl rfl rfl (s_assign (d := (si (IntKind.i64.wrap ((IntKind.i64.wrap (10 * x17)) - (IntKind.i64.wrap (IntKind.u8.wrap (v20 - 48))))))) rfl (AWops.nil (AW.region (s_binI (v := (.int .i64 (IntKind.i64.wrap (x18 + 1)))) rfl rfl rfl (s_move (d := (si (IntKind.i64.wrap (x18 + 1)))) rfl (AWops.nil ?_))))))))
           exact ⟨_, ⟨77, (upd 77 (upd 77 (upd 77 (upd 77 (upd 77 topF 0 (st_ a0)) 4 (st_ x5)) 6 (si (IntKind.i64.wrap ((IntKind.i64.wrap (10 * x17)) - (IntKind.i64.wrap (IntKind.u8.wrap (v20 - 48))))))) 52 (si (x5.size : Int))) 53 (si (IntKind.i64.wrap (x18 + 1)))), []⟩, by omega, (wg 0 [] [] hx (le_upd (le_upd (le_upd (le_upd (le_upd (le_top _) (o1 .sc)) (o1 .sc)) (o1 .sc)) (o1 .sc)) (o1 .sc)) an), by omega, IntKind.i64.wrap ((IntKind.i64.wrap (10 * x17)) - (IntKind.i64.wrap (IntKind.u8.wrap (v20 - 48)))), IntKind.i64.wrap (x18 + 1), h, rfl⟩
          ·refine AW.cond_no rfl c19 (AW.exit ?_)
           refine AW.seqJ (fun st => ∃ (x22 : Int), dossierref01_Number.j3 ql2 x22 a0 = some r ∧ st = ⟨77, (upd 77 (upd 77 topF 0 (st_ a0)) 6 (si x22)), []⟩) ?_ ?_
           ·refine AW.seq (AW.region ?_)
            refine s_move (d := (st_ x5)) rfl (s_len (n := x5.size) F.u_9 rfl (.inl ⟨⟨_, _, rfl⟩, rfl⟩) (s_move (d := (st_ a0)) rfl (s_len (n := a0.size) F.u_9 rfl (.inl ⟨⟨_, _, rfl⟩, rfl⟩) (s_binI (v := (.bool ((x5.size : Int) == (a0.size : Int)))) rfl rfl rfl (AWops.nil ?_)))))
            rcases itH h with ⟨c21, h⟩ | ⟨c21, h⟩
            ·refine AW.cond_yes rfl c21 (AW.region ?_)
             refine s_move (d := (si x17)) rfl (s_unI (v := (.int .i64 (IntKind.i64.wrap (0 - x17)))) rfl rfl (s_assign (d := (si (IntKind.i64.wrap (0 - x17)))) rfl (AWops.nil ?_)))
             exact ⟨⟨77, (upd 77 (upd 77 topF 0 (st_ a0)) 6 (si (IntKind.i64.wrap (0 - x17)))), []⟩, (wg 0 [] [] hx (le_upd (le_upd (le_top _) (o1 .sc)) (o1 .sc)) an), IntKind.i64.wrap (0 - x17), h, rfl⟩
            ·refine AW.cond_no rfl c21 (AW.skip ?_)
             exact ⟨⟨77, (upd 77 (upd 77 topF 0 (st_ a0)) 6 (si x17)), []⟩, (wg 0 [] [] hx (le_upd (le_upd (le_top _) (o1 .sc)) (o1 .sc)) an), x17, h, rfl⟩
           ·rintro st ⟨x22, h, rfl⟩
            cases ql2 with
            | zero => exact absurd h (by simp [dossierref01_Number.j3])
            | succ qj3 =>
             replace h := (dossierref01_Number.j3.eq_2 _ _ _).symm.trans h
             refine AW.seq (AW.seq (AW.region ?_))
             refine s_move (d := (si x22)) rfl ?_
             obtain ⟨r23, er23, h⟩ := bnd h
             refine cc [] [] (st_ r23) F.ca_31 rfl rfl (ac (.one .sc) an) an (dossierref01_Text.meets _ x22 r23 er23) (s_move (d := (st_ a0)) rfl (s_binS (v := (.bool (!(r23.toList == a0.toList)))) rfl rfl rfl (AWops.nil ?_)))
             rcases itH h with ⟨c24, h⟩ | ⟨c24, h⟩
             ·refine AW.cond_no rfl (by rw [c24] <;> rfl) (AW.skip (AW.seq (AW.region ?_)))
              refine s_move (d := (si x22)) rfl (s_assign (d := (si x22)) rfl (s_assign (d := (si 0)) rfl (AWops.nil (AW.ret ?_))))
              obtain rfl := Option.some.inj h
              exact ⟨_, rfl, (wg 0 [] [] rfl (le_upd (le_top _) (DLe.tup (ac (TLe.one .sc) (ac (TLe.one .sc) an)))) an)⟩
             ·refine AW.cond_yes rfl (by rw [c24] <;> rfl) (AW.seq (AW.region ?_))
              refine s_assign (d := (si 0)) rfl (s_assign (d := (si 4)) rfl (AWops.nil (AW.ret ?_)))
              obtain rfl := Option.some.inj h
              exact ⟨_, rfl, (wg 0 [] [] rfl (le_upd (le_top _) (DLe.tup (ac (TLe.one .sc) (ac (TLe.one .sc) an)))) an)⟩
    ·iterate 3 refine AWops.guard_no rfl (nl rfl) rfl c8 ?_
     refine AWops.guard_yes rfl (nl rfl) rfl c6 ?_
     refine s_pick_no (d := (sb false)) rfl c8 rfl (s_pick_no (d := (sb false)) rfl c6 rfl (AWops.nil ?_))
     refine AW.cond_no rfl rfl (AW.skip (AW.seq (AW.seq (AW.region ?_))))
     refine s_move (d := (st_ x5)) rfl (s_len (n := x5.size) F.u_9 rfl (.inl ⟨⟨_, _, rfl⟩, rfl⟩) (s_move (d := (si 0)) rfl (AWops.nil (AW.block ?_))))
     refine AW.loopw (st0 := ⟨77, (upd 77 (upd 77 (upd 77 (upd 77 topF 0 (st_ a0)) 4 (st_ x5)) 33 (si (x5.size : Int))) 34 (si 0)), []⟩) (fun kv st => kv ≤ qj0 ∧ ∃ (x25 : Int), dossierref01_Number.l4 kv x25 a0 x5 = some r ∧ st = ⟨77, (upd 77 (upd 77 (upd 77 (upd 77 topF 0 (st_ a0)) 4 (st_ x5)) 33 (si (x5.size : Int))) 34 (si x25)), []⟩) (k := qj0) (wg 0 [] [] hx (le_upd (le_upd (le_upd (le_upd (le_top _) (o1 .sc)) (o1 .sc)) (o1 .sc)) (o1 .sc)) an) ⟨Nat.le_refl _, 0, h, rfl⟩ ?_
     rintro ql4 st ⟨hkl4, x25, h, rfl⟩
     cases ql4 with
     | zero => exact absurd h (by simp [dossierref01_Number.l4])
     | succ ql4 =>
      replace h := (dossierref01_Number.l4.eq_2 _ _ _ _).symm.trans h
      refine AW.seq (AW.region ?_)
      refine s_binI (v := (.bool (decide (x25 < (x5.size : Int))))) rfl rfl rfl (AWops.nil (AW.seq ?_))
      rcases itH h with ⟨c26, h⟩ | ⟨c26, h⟩
      ·refine AW.cond_yes rfl c26 (AW.skip (AW.seq (AW.block (AW.seq (AW.region ?_)))))
       refine s_move (d := (si x25)) rfl (s_assign (d := (si x25)) rfl (AWops.nil (AW.seq (AW.region (s_move (d := (st_ x5)) rfl (s_move (d := (si x25)) rfl ?_))))))
       obtain ⟨v27, ev27, h⟩ := bnd h
       obtain ⟨pv27, bv27, gv27, rfl⟩ := bt_some ev27
       refine s_indexStr F.u_9 rfl rfl pv27 gv27 ?_
       generalize hzv27 : ((bv27.toNat : Nat) : Int) = v27 at *
       refine s_binI (v := (.bool (decide (v27 < 48)))) rfl rfl rfl (s_move (d := (sb (decide (v27 < 48)))) rfl ?_)
       rcases itH h with ⟨c28, h⟩ | ⟨c28, h⟩
       ·iterate 4 refine AWops.guard_no rfl (nl rfl) rfl c28 ?_
        refine s_pick_yes (d := (sb true)) rfl c28 rfl (AWops.nil ?_)
        refine AW.cond_yes rfl rfl (AW.seq (AW.region ?_))
        refine s_assign (d := (si 0)) rfl (s_assign (d := (si 5)) rfl (AWops.nil (AW.ret ?_)))
        obtain rfl := Option.some.inj h
        exact ⟨_, rfl, (wg 0 [] [] rfl (le_upd (le_top _) (DLe.tup (ac (TLe.one .sc) (ac (TLe.one .sc) an)))) an)⟩
       ·refine AWops.guard_yes rfl (nl rfl) rfl c28 ?_
        refine s_move (d := (st_ x5)) rfl ?_
        refine AWops.guard_yes rfl (nl rfl) rfl c28 ?_
        refine s_move (d := (si x25)) rfl ?_
        refine AWops.guard_yes rfl (nl rfl) rfl c28 ?_
        obtain ⟨v29, ev29, h⟩ := bnd h
        obtain ⟨pv29, bv29, gv29, rfl⟩ := bt_some ev29
        refine s_indexStr F.u_9 rfl rfl pv29 gv29 ?_
        generalize hzv29 : ((bv29.toNat : Nat) : Int) = v29 at *
        refine AWops.guard_yes rfl (nl rfl) rfl c28 ?_
        refine s_binI (v := (.bool (decide (v29 > 57)))) rfl rfl rfl (s_pick_no (d := (sb (decide (v29 > 57)))) rfl c28 rfl (AWops.nil ?_))
        rcases itH h with ⟨c30, h⟩ | ⟨c30, h⟩
        ·refine AW.cond_yes rfl c30 (AW.seq (AW.region ?_))
         refine s_assign (d := (si 0)) rfl (s_assign (d := (si 5)) rfl (AWops.nil (AW.ret ?_)))
         obtain rfl := Option.some.inj h
         exact ⟨_, rfl, (wg 0 [] [] rfl (le_upd (le_top _) (DLe.tup (ac (TLe.one .sc) (ac (TLe.one .sc) an)))) an)⟩
        ·refine AW.cond_no rfl c30 (AW.skip (AW.region ?_))
         refine s_binI (v := (.int .i64 (IntKind.i64.wrap (x25 + 1)))) rfl rfl rfl (s_move (d := (si (IntKind.i64.wrap (x25 + 1)))) rfl (AWops.nil ?_))
         exact ⟨_, ⟨77, (upd 77 (upd 77 (upd 77 (upd 77 topF 0 (st_ a0)) 4 (st_ x5)) 33 (si (x5.size : Int))) 34 (si (IntKind.i64.wrap (x25 + 1)))), []⟩, by omega, (wg 0 [] [] hx (le_upd (le_upd (le_upd (le_upd (le_top _) (o1 .sc)) (o1 .sc)) (o1 .sc)) (o1 .sc)) an), by omega, IntKind.i64.wrap (x25 + 1), h, rfl⟩
      ·refine AW.cond_no rfl c26 (AW.exit (AW.seq (AW.seq (AW.region ?_))))
       refine s_move (d := (st_ x5)) rfl (s_len (n := x5.size) F.u_9 rfl (.inl ⟨⟨_, _, rfl⟩, rfl⟩) (s_binI (v := (.bool (decide ((x5.size : Int) > 19)))) rfl rfl rfl (AWops.nil ?_)))
       rcases itH h with ⟨c31, h⟩ | ⟨c31, h⟩
       ·refine AW.cond_yes rfl c31 (AW.seq (AW.region ?_))
        refine s_assign (d := (si 0)) rfl (s_assign (d := (si 4)) rfl (AWops.nil (AW.ret ?_)))
        obtain rfl := Option.some.inj h
        exact ⟨_, rfl, (wg 0 [] [] rfl (le_upd (le_top _) (DLe.tup (ac (TLe.one .sc) (ac (TLe.one .sc) an)))) an)⟩
       ·refine AW.cond_no rfl c31 (AW.skip (AW.seq (AW.region ?_)))
        refine s_assign (d := (si 0)) rfl (AWops.nil (AW.seq (AW.seq (AW.region ?_))))
        refine s_move (d := (st_ x5)) rfl (s_len (n := x5.size) F.u_9 rfl (.inl ⟨⟨_, _, rfl⟩, rfl⟩) (s_move (d := (si 0)) rfl (AWops.nil (AW.block ?_))))
        refine AW.loopw (st0 := ⟨77, (upd 77 (upd 77 (upd 77 (upd 77 (upd 77 topF 0 (st_ a0)) 4 (st_ x5)) 6 (si 0)) 52 (si (x5.size : Int))) 53 (si 0)), []⟩) (fun kv st => kv ≤ ql4 ∧ ∃ (x32 : Int) (x33 : Int), dossierref01_Number.l5 kv x32 x33 a0 x5 = some r ∧ st = ⟨77, (upd 77 (upd 77 (upd 77 (upd 77 (upd 77 topF 0 (st_ a0)) 4 (st_ x5)) 6 (si x32)) 52 (si (x5.size : Int))) 53 (si x33)), []⟩) (k := ql4) (wg 0 [] [] hx (le_upd (le_upd (le_upd (le_upd (le_upd (le_top _) (o1 .sc)) (o1 .sc)) (o1 .sc)) (o1 .sc)) (o1 .sc)) an) ⟨Nat.le_refl _, 0, 0, h, rfl⟩ ?_
        rintro ql5 st ⟨hkl5, x32, x33, h, rfl⟩
        cases ql5 with
        | zero => exact absurd h (by simp [dossierref01_Number.l5])
        | succ ql5 =>
         replace h := (dossierref01_Number.l5.eq_2 _ _ _ _ _).symm.trans h
         refine AW.seq (AW.region ?_)
         refine s_binI (v := (.bool (decide (x33 < (x5.size : Int))))) rfl rfl rfl (AWops.nil (AW.seq ?_))
         rcases itH h with ⟨c34, h⟩ | ⟨c34, h⟩
         ·refine AW.cond_yes rfl c34 (AW.skip (AW.seq (AW.block (AW.seq (AW.region ?_)))))
          refine s_move (d := (si x33)) rfl (s_assign (d := (si x33)) rfl (AWops.nil (AW.region (s_move (d := (si x32)) rfl (s_binI (v := (.int .i64 (IntKind.i64.wrap (10 * x32)))) rfl rfl rfl (s_move (d := (st_ x5)) rfl (s_move (d := (si x33)) rfl ?_)))))))
          obtain ⟨v35, ev35, h⟩ := bnd h
          obtain ⟨pv35, bv35, gv35, rfl⟩ := bt_some ev35
          refine s_indexStr F.u_9 rfl rfl pv35 gv35 ?_
          generalize hzv35 : ((bv35.toNat : Nat) : Int) = v35 at *
          refine s_binI (v := (.int .u8 (IntKind.u8.wrap (v35 - 48)))) rfl rfl rfl (s_convI F.u_5 F.u_3 rfl (s_binI (v := (.int .i64 (IntKind.i64.wrap ((IntKind.i64.wrap (10 * x32)) - (IntKind.i64.wrap (IntKind.u8.wrap (v35 - 48))))))) rfl rfl rfl (s_assign (d := (si (IntKind.i64.wrap ((IntKind.i64.wrap (10 * x32)) - (IntKind.i64.wrap (IntKind.u8.wrap (v35 - 48))))))) rfl (AWops.nil (AW.region (s_binI (v := (.int .i64 (IntKind.i64.wrap (x33 + 1)))) rfl rfl rfl (s_move (d := (si (IntKind.i64.wrap (x33 + 1)))) rfl (AWops.nil ?_))))))))
          exact ⟨_, ⟨77, (upd 77 (upd 77 (upd 77 (upd 77 (upd 77 topF 0 (st_ a0)) 4 (st_ x5)) 6 (si (IntKind.i64.wrap ((IntKind.i64.wrap (10 * x32)) - (IntKind.i64.wrap (IntKind.u8.wrap (v35 - 48))))))) 52 (si (x5.size : Int))) 53 (si (IntKind.i64.wrap (x33 + 1)))), []⟩, by omega, (wg 0 [] [] hx (le_upd (le_upd (le_upd (le_upd (le_upd (le_top _) (o1 .sc)) (o1 .sc)) (o1 .sc)) (o1 .sc)) (o1 .sc)) an), by omega, IntKind.i64.wrap ((IntKind.i64.wrap (10 * x32)) - (IntKind.i64.wrap (IntKind.u8.wrap (v35 - 48)))), IntKind.i64.wrap (x33 + 1), h, rfl⟩
         ·refine AW.cond_no rfl c34 (AW.exit ?_)
          refine AW.seqJ (fun st => ∃ (x37 : Int), dossierref01_Number.j6 ql5 x37 a0 = some r ∧ st = ⟨77, (upd 77 (upd 77 topF 0 (st_ a0)) 6 (si x37)), []⟩) ?_ ?_
          ·refine AW.seq (AW.region ?_)
           refine s_move (d := (st_ x5)) rfl (s_len (n := x5.size) F.u_9 rfl (.inl ⟨⟨_, _, rfl⟩, rfl⟩) (s_move (d := (st_ a0)) rfl (s_len (n := a0.size) F.u_9 rfl (.inl ⟨⟨_, _, rfl⟩, rfl⟩) (s_binI (v := (.bool ((x5.size : Int) == (a0.size : Int)))) rfl rfl rfl (AWops.nil ?_)))))
           rcases itH h with ⟨c36, h⟩ | ⟨c36, h⟩
           ·refine AW.cond_yes rfl c36 (AW.region ?_)
            refine s_move (d := (si x32)) rfl (s_unI (v := (.int .i64 (IntKind.i64.wrap (0 - x32)))) rfl rfl (s_assign (d := (si (IntKind.i64.wrap (0 - x32)))) rfl (AWops.nil ?_)))
            exact ⟨⟨77, (upd 77 (upd 77 topF 0 (st_ a0)) 6 (si (IntKind.i64.wrap (0 - x32)))), []⟩, (wg 0 [] [] hx (le_upd (le_upd (le_top _) (o1 .sc)) (o1 .sc)) an), IntKind.i64.wrap (0 - x32), h, rfl⟩
           ·refine AW.cond_no rfl c36 (AW.skip ?_)
            exact ⟨⟨77, (upd 77 (upd 77 topF 0 (st_ a0)) 6 (si x32)), []⟩, (wg 0 [] [] hx (le_upd (le_upd (le_top _) (o1 .sc)) (o1 .sc)) an), x32, h, rfl⟩
          ·rintro st ⟨x37, h, rfl⟩
           cases ql5 with
           | zero => exact absurd h (by simp [dossierref01_Number.j6])
           | succ qj6 =>
            replace h := (dossierref01_Number.j6.eq_2 _ _ _).symm.trans h
            refine AW.seq (AW.seq (AW.region ?_))
            refine s_move (d := (si x37)) rfl ?_
            obtain ⟨r38, er38, h⟩ := bnd h
            refine cc [] [] (st_ r38) F.ca_31 rfl rfl (ac (.one .sc) an) an (dossierref01_Text.meets _ x37 r38 er38) (s_move (d := (st_ a0)) rfl (s_binS (v := (.bool (!(r38.toList == a0.toList)))) rfl rfl rfl (AWops.nil ?_)))
            rcases itH h with ⟨c39, h⟩ | ⟨c39, h⟩
            ·refine AW.cond_no rfl (by rw [c39] <;> rfl) (AW.skip (AW.seq (AW.region ?_)))
             refine s_move (d := (si x37)) rfl (s_assign (d := (si x37)) rfl (s_assign (d := (si 0)) rfl (AWops.nil (AW.ret ?_))))
             obtain rfl := Option.some.inj h
             exact ⟨_, rfl, (wg 0 [] [] rfl (le_upd (le_top _) (DLe.tup (ac (TLe.one .sc) (ac (TLe.one .sc) an)))) an)⟩
            ·refine AW.cond_yes rfl (by rw [c39] <;> rfl) (AW.seq (AW.region ?_))
             refine s_assign (d := (si 0)) rfl (s_assign (d := (si 4)) rfl (AWops.nil (AW.ret ?_)))
             obtain rfl := Option.some.inj h
             exact ⟨_, rfl, (wg 0 [] [] rfl (le_upd (le_top _) (DLe.tup (ac (TLe.one .sc) (ac (TLe.one .sc) an)))) an)⟩
def dossierref12_part.f (k : Nat) (a0 : ByteArray) : Option (ByteArray × Int × Bool) := (dossierref12_last.f k a0 35).bind fun r1 => if (decide (r1 < 0)) = true then (some ((⟨#[]⟩ : ByteArray), 0, false)) else (if (decide (0 ≤ 0 ∧ 0 ≤ r1 ∧ r1 ≤ (a0.size : Int))) = true then ((dossierref09_NameFits.f k (a0.extract 0 r1.toNat)).bind fun r4 => if r4 = true then (if (decide (0 ≤ (IntKind.i64.wrap (r1 + 1)) ∧ (IntKind.i64.wrap (r1 + 1)) ≤ (a0.size : Int) ∧ (a0.size : Int) ≤ (a0.size : Int))) = true then ((dossierref01_Number.f k (a0.extract (IntKind.i64.wrap (r1 + 1)).toNat a0.size)).bind fun r7 => if (r7.2 == 0) = true then (some (a0.extract 0 r1.toNat, r7.1, decide (r7.1 ≥ 1))) else (some (a0.extract 0 r1.toNat, r7.1, false))) else none) else (some ((⟨#[]⟩ : ByteArray), 0, false))) else none)
theorem dossierref12_part.meets (k : Nat) (a0 : ByteArray) (r : ByteArray × Int × Bool) (h : dossierref12_part.f k a0 = some r) : Meets Tryd.prog 25 [(st_ a0)] [] (D.tup [(st_ r.1), (si r.2.1), (sb r.2.2)]) [] := by
 unfold dossierref12_part.f at h
 refine Meets.of_body (n := 37) Tryd.func25 rfl rfl (nl rfl) fun x hx => ?_
 replace hx : x.k = 0 := hx
 show AW _ x _ _ ⟨37, fr0 [(st_ a0)], []⟩
 refine AW.seq (AW.region ?_)
 refine s_assign (d := (st_ (⟨#[]⟩ : ByteArray))) rfl (s_assign (d := (si 0)) rfl (s_assign (d := (sb false)) rfl (AWops.nil (AW.seq (AW.region (s_move (d := (st_ a0)) rfl ?_))))))
 obtain ⟨r1, er1, h⟩ := bnd h
 refine cc [] [] (si r1) F.ca_29 rfl rfl (ac (.one .sc) (ac (.one .sc) an)) an (dossierref12_last.meets _ a0 35 r1 er1) (s_assign (d := (si r1)) rfl (AWops.nil (AW.seq (AW.seq (AW.region (s_move (d := (si r1)) rfl (s_binI (v := (.bool (decide (r1 < 0)))) rfl rfl rfl (s_move (d := (sb (decide (r1 < 0)))) rfl ?_))))))))
 rcases itH h with ⟨c2, h⟩ | ⟨c2, h⟩
 ·iterate 5 refine AWops.guard_no rfl (nl rfl) rfl c2 ?_
  refine s_pick_yes (d := (sb true)) rfl c2 rfl (AWops.nil ?_)
  refine AW.cond_yes rfl rfl (AW.seq (AW.region ?_))
  refine s_assign (d := (st_ (⟨#[]⟩ : ByteArray))) rfl (s_assign (d := (si 0)) rfl (s_assign (d := (sb false)) rfl (AWops.nil (AW.ret ?_))))
  obtain rfl := Option.some.inj h
  exact ⟨_, rfl, (wg 0 [] [] rfl (le_upd (le_top _) (DLe.tup (ac (TLe.one .sc) (ac (TLe.one .sc) (ac (TLe.one .sc) an))))) an)⟩
 ·refine AWops.guard_yes rfl (nl rfl) rfl c2 ?_
  refine s_move (d := (st_ a0)) rfl ?_
  refine AWops.guard_yes rfl (nl rfl) rfl c2 ?_
  refine s_move (d := (si r1)) rfl ?_
  refine AWops.guard_yes rfl (nl rfl) rfl c2 ?_
  obtain ⟨c3, h⟩ := gdH h
  have dc3 := of_decide_eq_true c3
  refine s_sliceStr F.u_9 rfl .no (.yes rfl (by omega) rfl) (by omega) (by omega) ?_
  refine AWops.guard_yes rfl (nl rfl) rfl c2 ?_
  obtain ⟨r4, er4, h⟩ := bnd h
  refine cc [] [] (sb r4) F.ca_34 rfl rfl (ac (.one .sc) an) an (dossierref09_NameFits.meets _ (a0.extract 0 r1.toNat) r4 er4) ?_
  refine AWops.guard_yes rfl (nl rfl) rfl c2 ?_
  refine s_not rfl (s_pick_no (d := (sb (!r4))) rfl c2 rfl (AWops.nil ?_))
  rcases itH h with ⟨c5, h⟩ | ⟨c5, h⟩
  ·refine AW.cond_no rfl (by rw [c5] <;> rfl) (AW.skip (AW.seq (AW.region ?_)))
   refine s_move (d := (st_ a0)) rfl (s_move (d := (si r1)) rfl (s_binI (v := (.int .i64 (IntKind.i64.wrap (r1 + 1)))) rfl rfl rfl ?_))
   obtain ⟨c6, h⟩ := gdH h
   have dc6 := of_decide_eq_true c6
   refine s_sliceStr F.u_9 rfl (.yes rfl (by omega) rfl) .no (by omega) (by omega) ?_
   obtain ⟨r7, er7, h⟩ := bnd h
   refine cc [] [] (D.tup [(si r7.1), (si r7.2)]) F.ca_35 rfl rfl (ac (.one .sc) an) an (dossierref01_Number.meets _ (a0.extract (IntKind.i64.wrap (r1 + 1)).toNat a0.size) r7 er7) (s_move (d := (D.tup [(si r7.1), (si r7.2)])) rfl (s_extract (d := (si r7.1)) rfl rfl (s_extract (d := (si r7.2)) rfl rfl (s_assign (d := (si r7.1)) rfl (s_assign (d := (si r7.2)) rfl (AWops.nil (AW.seq (AW.region ?_))))))))
   refine s_move (d := (st_ a0)) rfl (s_move (d := (si r1)) rfl ?_)
   have dc3 := of_decide_eq_true c3
   refine s_sliceStr F.u_9 rfl .no (.yes rfl (by omega) rfl) (by omega) (by omega) (s_move (d := (si r7.1)) rfl (s_move (d := (si r7.2)) rfl (s_binI (v := (.bool (r7.2 == 0))) rfl rfl rfl (s_move (d := (sb (r7.2 == 0))) rfl ?_))))
   rcases itH h with ⟨c8, h⟩ | ⟨c8, h⟩
   ·refine AWops.guard_yes rfl (nl rfl) rfl c8 ?_
    refine s_move (d := (si r7.1)) rfl ?_
    refine AWops.guard_yes rfl (nl rfl) rfl c8 ?_
    refine s_binI (v := (.bool (decide (r7.1 ≥ 1)))) rfl rfl rfl (s_pick_yes (d := (sb (decide (r7.1 ≥ 1)))) rfl c8 rfl (s_assign (d := (st_ (a0.extract 0 r1.toNat))) rfl (s_assign (d := (si r7.1)) rfl (s_assign (d := (sb (decide (r7.1 ≥ 1)))) rfl (AWops.nil (AW.ret ?_))))))
    obtain rfl := Option.some.inj h
    exact ⟨_, rfl, (wg 0 [] [] rfl (le_upd (le_top _) (DLe.tup (ac (TLe.one .sc) (ac (TLe.one .sc) (ac (TLe.one .sc) an))))) an)⟩
   ·refine AWops.guard_no rfl (nl rfl) rfl c8 ?_
    refine AWops.guard_no rfl (nl rfl) rfl c8 ?_
    refine s_pick_no (d := (sb false)) rfl c8 rfl (s_assign (d := (st_ (a0.extract 0 r1.toNat))) rfl (s_assign (d := (si r7.1)) rfl (s_assign (d := (sb false)) rfl (AWops.nil (AW.ret ?_)))))
    obtain rfl := Option.some.inj h
    exact ⟨_, rfl, (wg 0 [] [] rfl (le_upd (le_top _) (DLe.tup (ac (TLe.one .sc) (ac (TLe.one .sc) (ac (TLe.one .sc) an))))) an)⟩
  ·refine AW.cond_yes rfl (by rw [c5] <;> rfl) (AW.seq (AW.region ?_))
   refine s_assign (d := (st_ (⟨#[]⟩ : ByteArray))) rfl (s_assign (d := (si 0)) rfl (s_assign (d := (sb false)) rfl (AWops.nil (AW.ret ?_))))
   obtain rfl := Option.some.inj h
   exact ⟨_, rfl, (wg 0 [] [] rfl (le_upd (le_top _) (DLe.tup (ac (TLe.one .sc) (ac (TLe.one .sc) (ac (TLe.one .sc) an))))) an)⟩
mutual
def dossierref12_Base.l0 : Nat → ByteArray → Int → (List ByteArray) → Option (ByteArray × Bool)
 | 0, _, _, _ => none
 | k + 1, x2, x3, r1 => if (decide (x3 < (r1.length : Int))) = true then ((rd r1 x3).bind fun v5 => (dossierref12_part.f k v5).bind fun r7 => if r7.2.2 = true then (if (decide (x3 > 0)) = true then (if (decide (x2.size + (⟨#[46]⟩ : ByteArray).size ≤ 9223372036854775807)) = true then (if (decide ((x2 ++ (⟨#[46]⟩ : ByteArray)).size + r7.1.size ≤ 9223372036854775807)) = true then (dossierref12_Base.l0 k ((x2 ++ (⟨#[46]⟩ : ByteArray)) ++ r7.1) (IntKind.i64.wrap (x3 + 1)) r1) else none) else none) else (if (decide (x2.size + r7.1.size ≤ 9223372036854775807)) = true then (dossierref12_Base.l0 k (x2 ++ r7.1) (IntKind.i64.wrap (x3 + 1)) r1) else none)) else (some ((⟨#[]⟩ : ByteArray), false))) else (some (x2, true))
end
def dossierref12_Base.f (k : Nat) (a0 : ByteArray) : Option (ByteArray × Bool) := (dossierref09_Parts.f k a0).bind fun r1 => dossierref12_Base.l0 k (⟨#[]⟩ : ByteArray) 0 r1
theorem dossierref12_Base.meets (k : Nat) (a0 : ByteArray) (r : ByteArray × Bool) (h : dossierref12_Base.f k a0 = some r) : Meets Tryd.prog 9 [(st_ a0)] [] (D.tup [(st_ r.1), (sb r.2)]) [] := by
 unfold dossierref12_Base.f at h
 refine Meets.of_body (n := 35) Tryd.func9 rfl rfl (nl rfl) fun x hx => ?_
 replace hx : x.k = 0 := hx
 show AW _ x _ _ ⟨35, fr0 [(st_ a0)], []⟩
 refine AW.seq (AW.region ?_)
 refine s_assign (d := (st_ (⟨#[]⟩ : ByteArray))) rfl (s_assign (d := (sb false)) rfl (AWops.nil (AW.seq (AW.region (s_assign (d := (st_ (⟨#[]⟩ : ByteArray))) rfl (AWops.nil (AW.seq (AW.seq (AW.region (s_move (d := (st_ a0)) rfl ?_))))))))))
 obtain ⟨r1, er1, h⟩ := bnd h
 refine cc [] [(ow_ e_str r1)] (D.one (C.own 0 0 r1.length 1)) F.ca_24 rfl rfl (ac (.one .sc) an) an (dossierref09_Parts.meets _ a0 r1 er1) (s_len (n := r1.length) F.u_25 rfl (.inr ⟨(fun _ _ h => by cases h), ⟨_, rfl⟩⟩) (s_move (d := (si 0)) rfl (AWops.nil (AW.block ?_))))
 refine AW.loopw (st0 := ⟨35, (upd 35 (upd 35 (upd 35 (upd 35 topF 4 (st_ (⟨#[]⟩ : ByteArray))) 11 (D.one (C.own 0 0 r1.length 1))) 12 (si (r1.length : Int))) 13 (si 0)), [(ow_ e_str r1)]⟩) (fun kv st => kv ≤ k ∧ ∃ (x2 : ByteArray) (x3 : Int), dossierref12_Base.l0 kv x2 x3 r1 = some r ∧ st = ⟨35, (upd 35 (upd 35 (upd 35 (upd 35 topF 4 (st_ x2)) 11 (D.one (C.own 0 0 r1.length 1))) 12 (si (r1.length : Int))) 13 (si x3)), [(ow_ e_str r1)]⟩) (k := k) (wg 0 [0] [] hx (le_upd (le_upd (le_upd (le_upd (le_top _) (o1 .sc)) (o1 (.own rfl))) (o1 .sc)) (o1 .sc)) (ac (.cells (fun _ => rfl) (all2_row _)) an)) ⟨Nat.le_refl _, (⟨#[]⟩ : ByteArray), 0, h, rfl⟩ ?_
 rintro ql0 st ⟨hkl0, x2, x3, h, rfl⟩
 cases ql0 with
 | zero => exact absurd h (by simp [dossierref12_Base.l0])
 | succ ql0 =>
  replace h := (dossierref12_Base.l0.eq_2 _ _ _ _).symm.trans h
  refine AW.seq (AW.region ?_)
  refine s_binI (v := (.bool (decide (x3 < (r1.length : Int))))) rfl rfl rfl (AWops.nil (AW.seq ?_))
  rcases itH h with ⟨c4, h⟩ | ⟨c4, h⟩
  ·refine AW.cond_yes rfl c4 (AW.skip (AW.seq (AW.block (AW.seq (AW.region ?_)))))
   refine s_move (d := (si x3)) rfl ?_
   obtain ⟨v5, ev5, h⟩ := bnd h
   obtain ⟨pv5, qv5, gv5⟩ := rd_some ev5
   refine s_indexOwn (d := (D.one (C.ref 0 (0 + x3.toNat * 1)))) F.u_25 F.sz_9 rfl rfl pv5 qv5 rfl ?_
   obtain ⟨R6, hR6⟩ := row_at (f := e_str) (sz := 1) (o := 0) e_str_len gv5 (e_str_eq v5) (by decide)
   refine s_load1 (c' := (ct v5)) F.ag_9 (congrArg some hR6) rfl (s_assign (d := (si x3)) rfl (s_assign (d := (st_ v5)) rfl (AWops.nil (AW.seq (AW.region (s_move (d := (st_ v5)) rfl ?_))))))
   obtain ⟨r7, er7, h⟩ := bnd h
   refine cc [] [(ow_ e_str r1)] (D.tup [(st_ r7.1), (si r7.2.1), (sb r7.2.2)]) F.ca_25 rfl rfl (ac (.one .sc) an) an (dossierref12_part.meets _ v5 r7 er7) (s_move (d := (D.tup [(st_ r7.1), (si r7.2.1), (sb r7.2.2)])) rfl (s_extract (d := (st_ r7.1)) rfl rfl (s_extract (d := (si r7.2.1)) rfl rfl (s_extract (d := (sb r7.2.2)) rfl rfl (s_assign (d := (st_ r7.1)) rfl ?_)))))
   refine s_assign (d := (si r7.2.1)) rfl (s_assign (d := (sb r7.2.2)) rfl (AWops.nil (AW.seq (AW.seq (AW.region (s_move (d := (sb r7.2.2)) rfl (s_not rfl (AWops.nil ?_))))))))
   rcases itH h with ⟨c8, h⟩ | ⟨c8, h⟩
   ·refine AW.cond_no rfl (by rw [c8] <;> rfl) (AW.skip (AW.seq (AW.seq (AW.region ?_))))
    refine s_move (d := (si x3)) rfl (s_binI (v := (.bool (decide (x3 > 0)))) rfl rfl rfl (AWops.nil ?_))
    rcases itH h with ⟨c9, h⟩ | ⟨c9, h⟩
    ·refine AW.cond_yes rfl c9 (AW.region ?_)
     refine s_move (d := (st_ x2)) rfl ?_
     obtain ⟨c10, h⟩ := gdH h
     refine s_binS (v := (.string (x2 ++ (⟨#[46]⟩ : ByteArray)))) rfl rfl (if_neg (by have := of_decide_eq_true c10; omega)) (s_assign (d := (st_ (x2 ++ (⟨#[46]⟩ : ByteArray)))) rfl (AWops.nil (AW.region (s_move (d := (st_ (x2 ++ (⟨#[46]⟩ : ByteArray)))) rfl (s_move (d := (st_ r7.1)) rfl ?_)))))
     obtain ⟨c11, h⟩ := gdH h
     refine s_binS (v := (.string ((x2 ++ (⟨#[46]⟩ : ByteArray)) ++ r7.1))) rfl rfl (if_neg (by have := of_decide_eq_true c11; omega)) (s_assign (d := (st_ ((x2 ++ (⟨#[46]⟩ : ByteArray)) ++ r7.1))) rfl (AWops.nil (AW.region (s_binI (v := (.int .i64 (IntKind.i64.wrap (x3 + 1)))) rfl rfl rfl (s_move (d := (si (IntKind.i64.wrap (x3 + 1)))) rfl (AWops.nil ?_))))))
     exact ⟨_, ⟨35, (upd 35 (upd 35 (upd 35 (upd 35 topF 4 (st_ ((x2 ++ (⟨#[46]⟩ : ByteArray)) ++ r7.1))) 11 (D.one (C.own 0 0 r1.length 1))) 12 (si (r1.length : Int))) 13 (si (IntKind.i64.wrap (x3 + 1)))), [(ow_ e_str r1)]⟩, by omega, (wg 0 [0] [] hx (le_upd (le_upd (le_upd (le_upd (le_top _) (o1 .sc)) (o1 (.own rfl))) (o1 .sc)) (o1 .sc)) (ac (.cells (fun _ => rfl) (all2_row _)) an)), by omega, (x2 ++ (⟨#[46]⟩ : ByteArray)) ++ r7.1, IntKind.i64.wrap (x3 + 1), h, rfl⟩
    ·refine AW.cond_no rfl c9 (AW.skip (AW.region ?_))
     refine s_move (d := (st_ x2)) rfl (s_move (d := (st_ r7.1)) rfl ?_)
     obtain ⟨c12, h⟩ := gdH h
     refine s_binS (v := (.string (x2 ++ r7.1))) rfl rfl (if_neg (by have := of_decide_eq_true c12; omega)) (s_assign (d := (st_ (x2 ++ r7.1))) rfl (AWops.nil (AW.region (s_binI (v := (.int .i64 (IntKind.i64.wrap (x3 + 1)))) rfl rfl rfl (s_move (d := (si (IntKind.i64.wrap (x3 + 1)))) rfl (AWops.nil ?_))))))
     exact ⟨_, ⟨35, (upd 35 (upd 35 (upd 35 (upd 35 topF 4 (st_ (x2 ++ r7.1))) 11 (D.one (C.own 0 0 r1.length 1))) 12 (si (r1.length : Int))) 13 (si (IntKind.i64.wrap (x3 + 1)))), [(ow_ e_str r1)]⟩, by omega, (wg 0 [0] [] hx (le_upd (le_upd (le_upd (le_upd (le_top _) (o1 .sc)) (o1 (.own rfl))) (o1 .sc)) (o1 .sc)) (ac (.cells (fun _ => rfl) (all2_row _)) an)), by omega, x2 ++ r7.1, IntKind.i64.wrap (x3 + 1), h, rfl⟩
   ·refine AW.cond_yes rfl (by rw [c8] <;> rfl) (AW.seq (AW.region ?_))
    refine s_assign (d := (st_ (⟨#[]⟩ : ByteArray))) rfl (s_assign (d := (sb false)) rfl (AWops.nil (AW.ret ?_)))
    obtain rfl := Option.some.inj h
    exact ⟨_, rfl, (wg 0 [] [] rfl (le_upd (le_top _) (DLe.tup (ac (TLe.one .sc) (ac (TLe.one .sc) an)))) an)⟩
  ·refine AW.cond_no rfl c4 (AW.exit (AW.seq (AW.region ?_)))
   refine s_move (d := (st_ x2)) rfl (s_assign (d := (st_ x2)) rfl (s_assign (d := (sb true)) rfl (AWops.nil (AW.ret ?_))))
   obtain rfl := Option.some.inj h
   exact ⟨_, rfl, (wg 0 [] [] rfl (le_upd (le_top _) (DLe.tup (ac (TLe.one .sc) (ac (TLe.one .sc) an)))) an)⟩
def dossierref12_texts.f (k : Nat) (a0 : ByteArray) (a1 : ByteArray) : Option Int := if (Op.bytesLess a0.toList a1.toList) = true then (some (-1)) else (if (Op.bytesLess a0.toList a1.toList || a0.toList == a1.toList) = true then (some 0) else (some 1))
theorem dossierref12_texts.meets (k : Nat) (a0 : ByteArray) (a1 : ByteArray) (r : Int) (h : dossierref12_texts.f k a0 a1 = some r) : Meets Tryd.prog 23 [(st_ a0), (st_ a1)] [] (si r) [] := by
 unfold dossierref12_texts.f at h
 refine Meets.of_body (n := 13) Tryd.func23 rfl rfl (nl rfl) fun x hx => ?_
 replace hx : x.k = 0 := hx
 show AW _ x _ _ ⟨13, fr0 [(st_ a0), (st_ a1)], []⟩
 refine AW.seq (AW.region ?_)
 refine s_assign (d := (si 0)) rfl (AWops.nil (AW.seq (AW.block (AW.seq (AW.region ?_)))))
 refine s_move (d := (st_ a0)) rfl (s_move (d := (st_ a1)) rfl (s_binS (v := (.bool (Op.bytesLess a0.toList a1.toList))) rfl rfl rfl (s_assign (d := (sb (Op.bytesLess a0.toList a1.toList))) rfl (AWops.nil ?_))))
 rcases itH h with ⟨c1, h⟩ | ⟨c1, h⟩
 ·refine AW.cond_yes rfl c1 (AW.seq (AW.region ?_))
  refine s_assign (d := (si (-1))) rfl (AWops.nil (AW.ret ?_))
  obtain rfl := Option.some.inj h
  exact ⟨_, rfl, (wg 0 [] [] rfl (le_upd (le_top _) (o1 .sc)) an)⟩
 ·refine AW.cond_no rfl c1 (AW.seq (AW.region ?_))
  refine s_move (d := (st_ a0)) rfl (s_move (d := (st_ a1)) rfl (s_binS (v := (.bool (!(Op.bytesLess a0.toList a1.toList || a0.toList == a1.toList)))) rfl rfl rfl (s_assign (d := (sb (!(Op.bytesLess a0.toList a1.toList || a0.toList == a1.toList)))) rfl (AWops.nil ?_))))
  rcases itH h with ⟨c2, h⟩ | ⟨c2, h⟩
  ·refine AW.cond_no rfl (by rw [c2] <;> rfl) (AW.skip (AW.seq (AW.region ?_)))
   refine s_assign (d := (si 0)) rfl (AWops.nil (AW.ret ?_))
   obtain rfl := Option.some.inj h
   exact ⟨_, rfl, (wg 0 [] [] rfl (le_upd (le_top _) (o1 .sc)) an)⟩
  ·refine AW.cond_yes rfl (by rw [c2] <;> rfl) (AW.seq (AW.region ?_))
   refine s_assign (d := (si 1)) rfl (AWops.nil (AW.ret ?_))
   obtain rfl := Option.some.inj h
   exact ⟨_, rfl, (wg 0 [] [] rfl (le_upd (le_top _) (o1 .sc)) an)⟩
mutual
def dossierref12_Order.l0 : Nat → Int → (List ByteArray) → (List ByteArray) → Option Int
 | 0, _, _, _ => none
 | k + 1, x7, r5, r6 => if (decide (x7 < (r5.length : Int))) = true then (if (decide (x7 < (r6.length : Int))) = true then ((rd r5 x7).bind fun v10 => (dossierref12_part.f k v10).bind fun r12 => (rd r6 x7).bind fun v13 => (dossierref12_part.f k v13).bind fun r15 => if (r12.1.toList == r15.1.toList) = true then (if (decide (r12.2.1 < r15.2.1)) = true then (some (-1)) else (if (decide (r12.2.1 > r15.2.1)) = true then (some 1) else (dossierref12_Order.l0 k (IntKind.i64.wrap (x7 + 1)) r5 r6))) else ((dossierref12_texts.f k r12.1 r15.1).bind fun r19 => some r19)) else (some (if (if (IntKind.i64.wrap ((r5.length : Int) - (r6.length : Int))) > (-1) then (IntKind.i64.wrap ((r5.length : Int) - (r6.length : Int))) else (-1)) < 1 then (if (IntKind.i64.wrap ((r5.length : Int) - (r6.length : Int))) > (-1) then (IntKind.i64.wrap ((r5.length : Int) - (r6.length : Int))) else (-1)) else 1))) else (some (if (if (IntKind.i64.wrap ((r5.length : Int) - (r6.length : Int))) > (-1) then (IntKind.i64.wrap ((r5.length : Int) - (r6.length : Int))) else (-1)) < 1 then (if (IntKind.i64.wrap ((r5.length : Int) - (r6.length : Int))) > (-1) then (IntKind.i64.wrap ((r5.length : Int) - (r6.length : Int))) else (-1)) else 1))
end
def dossierref12_Order.f (k : Nat) (a0 : ByteArray) (a1 : ByteArray) : Option Int := (dossierref12_Base.f k a0).bind fun r1 => (dossierref12_Base.f k a1).bind fun r2 => if r1.2 = true then (if r2.2 = true then ((dossierref09_Parts.f k a0).bind fun r5 => (dossierref09_Parts.f k a1).bind fun r6 => dossierref12_Order.l0 k 0 r5 r6) else ((dossierref12_texts.f k a0 a1).bind fun r20 => some r20)) else ((dossierref12_texts.f k a0 a1).bind fun r21 => some r21)
theorem dossierref12_Order.meets (k : Nat) (a0 : ByteArray) (a1 : ByteArray) (r : Int) (h : dossierref12_Order.f k a0 a1 = some r) : Meets Tryd.prog 7 [(st_ a0), (st_ a1)] [] (si r) [] := by
 unfold dossierref12_Order.f at h
 refine Meets.of_body (n := 90) Tryd.func7 rfl rfl (nl rfl) fun x hx => ?_
 replace hx : x.k = 0 := hx
 show AW _ x _ _ ⟨90, fr0 [(st_ a0), (st_ a1)], []⟩
 refine AW.seq (AW.region ?_)
 refine s_assign (d := (si 0)) rfl (AWops.nil (AW.seq (AW.region ?_)))
 refine s_move (d := (st_ a0)) rfl ?_
 obtain ⟨r1, er1, h⟩ := bnd h
 refine cc [] [] (D.tup [(st_ r1.1), (sb r1.2)]) F.ca_9 rfl rfl (ac (.one .sc) an) an (dossierref12_Base.meets _ a0 r1 er1) (s_move (d := (D.tup [(st_ r1.1), (sb r1.2)])) rfl (s_extract (d := (st_ r1.1)) rfl rfl (s_extract (d := (sb r1.2)) rfl rfl (s_assign (d := (st_ r1.1)) rfl (s_assign (d := (sb r1.2)) rfl (AWops.nil (AW.seq (AW.region ?_))))))))
 refine s_move (d := (st_ a1)) rfl ?_
 obtain ⟨r2, er2, h⟩ := bnd h
 refine cc [] [] (D.tup [(st_ r2.1), (sb r2.2)]) F.ca_9 rfl rfl (ac (.one .sc) an) an (dossierref12_Base.meets _ a1 r2 er2) (s_move (d := (D.tup [(st_ r2.1), (sb r2.2)])) rfl (s_extract (d := (st_ r2.1)) rfl rfl (s_extract (d := (sb r2.2)) rfl rfl (s_assign (d := (st_ r2.1)) rfl (s_assign (d := (sb r2.2)) rfl (AWops.nil (AW.seq (AW.seq (AW.region ?_)))))))))
 refine s_move (d := (sb r1.2)) rfl (s_not rfl (s_move (d := (sb (!r1.2))) rfl ?_))
 rcases itH h with ⟨c3, h⟩ | ⟨c3, h⟩
 ·refine AWops.guard_yes rfl (nl rfl) rfl (by rw [c3] <;> rfl) ?_
  refine s_move (d := (sb r2.2)) rfl ?_
  refine AWops.guard_yes rfl (nl rfl) rfl (by rw [c3] <;> rfl) ?_
  refine s_not rfl (s_pick_no (d := (sb (!r2.2))) rfl (by rw [c3] <;> rfl) rfl (AWops.nil ?_))
  rcases itH h with ⟨c4, h⟩ | ⟨c4, h⟩
  ·refine AW.cond_no rfl (by rw [c4] <;> rfl) (AW.skip (AW.seq (AW.region ?_)))
   refine s_move (d := (st_ a0)) rfl ?_
   obtain ⟨r5, er5, h⟩ := bnd h
   refine cc [] [(ow_ e_str r5)] (D.one (C.own 0 0 r5.length 1)) F.ca_24 rfl rfl (ac (.one .sc) an) an (dossierref09_Parts.meets _ a0 r5 er5) (s_move (d := (st_ a1)) rfl ?_)
   obtain ⟨r6, er6, h⟩ := bnd h
   refine cc [] [(ow_ e_str r5), (ow_ e_str r6)] (D.one (C.own 1 0 r6.length 1)) F.ca_24 rfl rfl (ac (.one .sc) an) an (dossierref09_Parts.meets _ a1 r6 er6) (s_assign (d := (D.one (C.own 0 0 r5.length 1))) rfl (s_assign (d := (D.one (C.own 1 0 r6.length 1))) rfl (AWops.nil (AW.seq (AW.seq (AW.region (s_assign (d := (si 0)) rfl (AWops.nil (AW.block ?_)))))))))
   refine AW.loopw (st0 := ⟨90, (upd 90 (upd 90 (upd 90 topF 9 (D.one (C.own 0 0 r5.length 1))) 10 (D.one (C.own 1 0 r6.length 1))) 11 (si 0)), [(ow_ e_str r5), (ow_ e_str r6)]⟩) (fun kv st => kv ≤ k ∧ ∃ (x7 : Int), dossierref12_Order.l0 kv x7 r5 r6 = some r ∧ st = ⟨90, (upd 90 (upd 90 (upd 90 topF 9 (D.one (C.own 0 0 r5.length 1))) 10 (D.one (C.own 1 0 r6.length 1))) 11 (si x7)), [(ow_ e_str r5), (ow_ e_str r6)]⟩) (k := k) (wg 0 [0, 1] [] hx (le_upd (le_upd (le_upd (le_top _) (o1 (.own rfl))) (o1 (.own rfl))) (o1 .sc)) (ac (.cells (fun _ => rfl) (all2_row _)) (ac (.cells (fun _ => rfl) (all2_row _)) an))) ⟨Nat.le_refl _, 0, h, rfl⟩ ?_
   rintro ql0 st ⟨hkl0, x7, h, rfl⟩
   cases ql0 with
   | zero => exact absurd h (by simp [dossierref12_Order.l0])
   | succ ql0 =>
    replace h := (dossierref12_Order.l0.eq_2 _ _ _ _).symm.trans h
    refine AW.seq (AW.seq (AW.region ?_))
    refine s_move (d := (si x7)) rfl (s_move (d := (D.one (C.own 0 0 r5.length 1))) rfl (s_len (n := r5.length) F.u_25 rfl (.inr ⟨(fun _ _ h => by cases h), ⟨_, rfl⟩⟩) (s_binI (v := (.bool (decide (x7 < (r5.length : Int))))) rfl rfl rfl (s_move (d := (sb (decide (x7 < (r5.length : Int))))) rfl ?_))))
    rcases itH h with ⟨c8, h⟩ | ⟨c8, h⟩
    ·refine AWops.guard_yes rfl (nl rfl) rfl c8 ?_
     refine s_move (d := (si x7)) rfl ?_
     refine AWops.guard_yes rfl (nl rfl) rfl c8 ?_
     refine s_move (d := (D.one (C.own 1 0 r6.length 1))) rfl ?_
     refine AWops.guard_yes rfl (nl rfl) rfl c8 ?_
     refine s_len (n := r6.length) F.u_25 rfl (.inr ⟨(fun _ _ h => by cases h), ⟨_, rfl⟩⟩) ?_
     refine AWops.guard_yes rfl (nl rfl) rfl c8 ?_
     refine s_binI (v := (.bool (decide (x7 < (r6.length : Int))))) rfl rfl rfl (s_pick_yes (d := (sb (decide (x7 < (r6.length : Int))))) rfl c8 rfl (AWops.nil ?_))
     rcases itH h with ⟨c9, h⟩ | ⟨c9, h⟩
     ·refine AW.cond_yes rfl c9 (AW.skip (AW.seq (AW.block (AW.seq (AW.region ?_)))))
      refine s_move (d := (D.one (C.own 0 0 r5.length 1))) rfl (s_move (d := (si x7)) rfl ?_)
      obtain ⟨v10, ev10, h⟩ := bnd h
      obtain ⟨pv10, qv10, gv10⟩ := rd_some ev10
      refine s_indexOwn (d := (D.one (C.ref 0 (0 + x7.toNat * 1)))) F.u_25 F.sz_9 rfl rfl pv10 qv10 rfl ?_
      obtain ⟨R11, hR11⟩ := row_at (f := e_str) (sz := 1) (o := 0) e_str_len gv10 (e_str_eq v10) (by decide)
      refine s_load1 (c' := (ct v10)) F.ag_9 (congrArg some hR11) rfl ?_
      obtain ⟨r12, er12, h⟩ := bnd h
      refine cc [] [(ow_ e_str r5), (ow_ e_str r6)] (D.tup [(st_ r12.1), (si r12.2.1), (sb r12.2.2)]) F.ca_25 rfl rfl (ac (.one .sc) an) an (dossierref12_part.meets _ v10 r12 er12) (s_move (d := (D.tup [(st_ r12.1), (si r12.2.1), (sb r12.2.2)])) rfl (s_extract (d := (st_ r12.1)) rfl rfl (s_extract (d := (si r12.2.1)) rfl rfl (s_extract (d := (sb r12.2.2)) rfl rfl (s_assign (d := (st_ r12.1)) rfl ?_)))))
      refine s_assign (d := (si r12.2.1)) rfl (s_assign (d := (sb r12.2.2)) rfl (AWops.nil (AW.seq (AW.region (s_move (d := (D.one (C.own 1 0 r6.length 1))) rfl (s_move (d := (si x7)) rfl ?_))))))
      obtain ⟨v13, ev13, h⟩ := bnd h
      obtain ⟨pv13, qv13, gv13⟩ := rd_some ev13
      refine s_indexOwn (d := (D.one (C.ref 1 (0 + x7.toNat * 1)))) F.u_25 F.sz_9 rfl rfl pv13 qv13 rfl ?_
      obtain ⟨R14, hR14⟩ := row_at (f := e_str) (sz := 1) (o := 0) e_str_len gv13 (e_str_eq v13) (by decide)
      refine s_load1 (c' := (ct v13)) F.ag_9 (congrArg some hR14) rfl ?_
      obtain ⟨r15, er15, h⟩ := bnd h
      refine cc [] [(ow_ e_str r5), (ow_ e_str r6)] (D.tup [(st_ r15.1), (si r15.2.1), (sb r15.2.2)]) F.ca_25 rfl rfl (ac (.one .sc) an) an (dossierref12_part.meets _ v13 r15 er15) (s_move (d := (D.tup [(st_ r15.1), (si r15.2.1), (sb r15.2.2)])) rfl (s_extract (d := (st_ r15.1)) rfl rfl (s_extract (d := (si r15.2.1)) rfl rfl (s_extract (d := (sb r15.2.2)) rfl rfl (s_assign (d := (st_ r15.1)) rfl ?_)))))
      refine s_assign (d := (si r15.2.1)) rfl (s_assign (d := (sb r15.2.2)) rfl (AWops.nil (AW.seq (AW.seq (AW.region (s_move (d := (st_ r12.1)) rfl (s_move (d := (st_ r15.1)) rfl (s_binS (v := (.bool (!(r12.1.toList == r15.1.toList)))) rfl rfl rfl (AWops.nil ?_)))))))))
      rcases itH h with ⟨c16, h⟩ | ⟨c16, h⟩
      ·refine AW.cond_no rfl (by rw [c16] <;> rfl) (AW.skip (AW.seq (AW.seq (AW.region ?_))))
       refine s_move (d := (si r12.2.1)) rfl (s_move (d := (si r15.2.1)) rfl (s_binI (v := (.bool (decide (r12.2.1 < r15.2.1)))) rfl rfl rfl (AWops.nil ?_)))
       rcases itH h with ⟨c17, h⟩ | ⟨c17, h⟩
       ·refine AW.cond_yes rfl c17 (AW.seq (AW.region ?_))
        refine s_assign (d := (si (-1))) rfl (AWops.nil (AW.ret ?_))
        obtain rfl := Option.some.inj h
        exact ⟨_, rfl, (wg 0 [] [] rfl (le_upd (le_top _) (o1 .sc)) an)⟩
       ·refine AW.cond_no rfl c17 (AW.skip (AW.seq (AW.region ?_)))
        refine s_move (d := (si r12.2.1)) rfl (s_move (d := (si r15.2.1)) rfl (s_binI (v := (.bool (decide (r12.2.1 > r15.2.1)))) rfl rfl rfl (AWops.nil ?_)))
        rcases itH h with ⟨c18, h⟩ | ⟨c18, h⟩
        ·refine AW.cond_yes rfl c18 (AW.seq (AW.region ?_))
         refine s_assign (d := (si 1)) rfl (AWops.nil (AW.ret ?_))
         obtain rfl := Option.some.inj h
         exact ⟨_, rfl, (wg 0 [] [] rfl (le_upd (le_top _) (o1 .sc)) an)⟩
        ·refine AW.cond_no rfl c18 (AW.skip (AW.region ?_))
         refine s_move (d := (si x7)) rfl (s_binI (v := (.int .i64 (IntKind.i64.wrap (x7 + 1)))) rfl rfl rfl (s_assign (d := (si (IntKind.i64.wrap (x7 + 1)))) rfl (AWops.nil ?_)))
         exact ⟨_, ⟨90, (upd 90 (upd 90 (upd 90 topF 9 (D.one (C.own 0 0 r5.length 1))) 10 (D.one (C.own 1 0 r6.length 1))) 11 (si (IntKind.i64.wrap (x7 + 1)))), [(ow_ e_str r5), (ow_ e_str r6)]⟩, by omega, (wg 0 [0, 1] [] hx (le_upd (le_upd (le_upd (le_top _) (o1 (.own rfl))) (o1 (.own rfl))) (o1 .sc)) (ac (.cells (fun _ => rfl) (all2_row _)) (ac (.cells (fun _ => rfl) (all2_row _)) an))), by omega, IntKind.i64.wrap (x7 + 1), h, rfl⟩
      ·refine AW.cond_yes rfl (by rw [c16] <;> rfl) (AW.seq (AW.region ?_))
       refine s_move (d := (st_ r12.1)) rfl (s_move (d := (st_ r15.1)) rfl ?_)
       obtain ⟨r19, er19, h⟩ := bnd h
       refine cc [] [(ow_ e_str r5), (ow_ e_str r6)] (si r19) F.ca_23 rfl rfl (ac (.one .sc) (ac (.one .sc) an)) an (dossierref12_texts.meets _ r12.1 r15.1 r19 er19) (s_assign (d := (si r19)) rfl (AWops.nil (AW.ret ?_)))
       obtain rfl := Option.some.inj h
       exact ⟨_, rfl, (wg 0 [] [] rfl (le_upd (le_top _) (o1 .sc)) an)⟩
     ·refine AW.cond_no rfl c9 (AW.exit (AW.seq (AW.region ?_)))
      refine s_move (d := (D.one (C.own 0 0 r5.length 1))) rfl (s_len (n := r5.length) F.u_25 rfl (.inr ⟨(fun _ _ h => by cases h), ⟨_, rfl⟩⟩) (s_move (d := (D.one (C.own 1 0 r6.length 1))) rfl (s_len (n := r6.length) F.u_25 rfl (.inr ⟨(fun _ _ h => by cases h), ⟨_, rfl⟩⟩) (s_binI (v := (.int .i64 (IntKind.i64.wrap ((r5.length : Int) - (r6.length : Int))))) rfl rfl rfl (s_max2 (r := (if (IntKind.i64.wrap ((r5.length : Int) - (r6.length : Int))) > (-1) then (IntKind.i64.wrap ((r5.length : Int) - (r6.length : Int))) else (-1))) rfl rfl rfl ?_)))))
      refine s_min2 (r := (if (if (IntKind.i64.wrap ((r5.length : Int) - (r6.length : Int))) > (-1) then (IntKind.i64.wrap ((r5.length : Int) - (r6.length : Int))) else (-1)) < 1 then (if (IntKind.i64.wrap ((r5.length : Int) - (r6.length : Int))) > (-1) then (IntKind.i64.wrap ((r5.length : Int) - (r6.length : Int))) else (-1)) else 1)) rfl rfl rfl (s_assign (d := (si (if (if (IntKind.i64.wrap ((r5.length : Int) - (r6.length : Int))) > (-1) then (IntKind.i64.wrap ((r5.length : Int) - (r6.length : Int))) else (-1)) < 1 then (if (IntKind.i64.wrap ((r5.length : Int) - (r6.length : Int))) > (-1) then (IntKind.i64.wrap ((r5.length : Int) - (r6.length : Int))) else (-1)) else 1))) rfl (AWops.nil (AW.ret ?_)))
      obtain rfl := Option.some.inj h
      exact ⟨_, rfl, (wg 0 [] [] rfl (le_upd (le_top _) (o1 .sc)) an)⟩
    ·iterate 4 refine AWops.guard_no rfl (nl rfl) rfl c8 ?_
     refine s_pick_no (d := (sb false)) rfl c8 rfl (AWops.nil ?_)
     refine AW.cond_no rfl rfl (AW.exit (AW.seq (AW.region ?_)))
     refine s_move (d := (D.one (C.own 0 0 r5.length 1))) rfl (s_len (n := r5.length) F.u_25 rfl (.inr ⟨(fun _ _ h => by cases h), ⟨_, rfl⟩⟩) (s_move (d := (D.one (C.own 1 0 r6.length 1))) rfl (s_len (n := r6.length) F.u_25 rfl (.inr ⟨(fun _ _ h => by cases h), ⟨_, rfl⟩⟩) (s_binI (v := (.int .i64 (IntKind.i64.wrap ((r5.length : Int) - (r6.length : Int))))) rfl rfl rfl (s_max2 (r := (if (IntKind.i64.wrap ((r5.length : Int) - (r6.length : Int))) > (-1) then (IntKind.i64.wrap ((r5.length : Int) - (r6.length : Int))) else (-1))) rfl rfl rfl ?_)))))
     refine s_min2 (r := (if (if (IntKind.i64.wrap ((r5.length : Int) - (r6.length : Int))) > (-1) then (IntKind.i64.wrap ((r5.length : Int) - (r6.length : Int))) else (-1)) < 1 then (if (IntKind.i64.wrap ((r5.length : Int) - (r6.length : Int))) > (-1) then (IntKind.i64.wrap ((r5.length : Int) - (r6.length : Int))) else (-1)) else 1)) rfl rfl rfl (s_assign (d := (si (if (if (IntKind.i64.wrap ((r5.length : Int) - (r6.length : Int))) > (-1) then (IntKind.i64.wrap ((r5.length : Int) - (r6.length : Int))) else (-1)) < 1 then (if (IntKind.i64.wrap ((r5.length : Int) - (r6.length : Int))) > (-1) then (IntKind.i64.wrap ((r5.length : Int) - (r6.length : Int))) else (-1)) else 1))) rfl (AWops.nil (AW.ret ?_)))
     obtain rfl := Option.some.inj h
     exact ⟨_, rfl, (wg 0 [] [] rfl (le_upd (le_top _) (o1 .sc)) an)⟩
  ·refine AW.cond_yes rfl (by rw [c4] <;> rfl) (AW.seq (AW.region ?_))
   refine s_move (d := (st_ a0)) rfl (s_move (d := (st_ a1)) rfl ?_)
   obtain ⟨r20, er20, h⟩ := bnd h
   refine cc [] [] (si r20) F.ca_23 rfl rfl (ac (.one .sc) (ac (.one .sc) an)) an (dossierref12_texts.meets _ a0 a1 r20 er20) (s_assign (d := (si r20)) rfl (AWops.nil (AW.ret ?_)))
   obtain rfl := Option.some.inj h
   exact ⟨_, rfl, (wg 0 [] [] rfl (le_upd (le_top _) (o1 .sc)) an)⟩
 ·refine AWops.guard_no rfl (nl rfl) rfl (by rw [c3] <;> rfl) ?_
  refine AWops.guard_no rfl (nl rfl) rfl (by rw [c3] <;> rfl) ?_
  refine s_pick_yes (d := (sb true)) rfl (by rw [c3] <;> rfl) rfl (AWops.nil ?_)
  refine AW.cond_yes rfl rfl (AW.seq (AW.region ?_))
  refine s_move (d := (st_ a0)) rfl (s_move (d := (st_ a1)) rfl ?_)
  obtain ⟨r21, er21, h⟩ := bnd h
  refine cc [] [] (si r21) F.ca_23 rfl rfl (ac (.one .sc) (ac (.one .sc) an)) an (dossierref12_texts.meets _ a0 a1 r21 er21) (s_assign (d := (si r21)) rfl (AWops.nil (AW.ret ?_)))
  obtain rfl := Option.some.inj h
  exact ⟨_, rfl, (wg 0 [] [] rfl (le_upd (le_top _) (o1 .sc)) an)⟩
def dossierlaw12_awake.f (k : Nat) : Option Bool := if (decide ((⟨#[97, 35, 50, 46, 98, 35, 49]⟩ : ByteArray).size ≤ 1048576)) = true then (if ((sh_base (⟨#[97, 35, 50, 46, 98, 35, 49]⟩ : ByteArray)).2) = true then (if (((sh_base (⟨#[97, 35, 50, 46, 98, 35, 49]⟩ : ByteArray)).1).toList == (⟨#[97, 46, 98]⟩ : ByteArray).toList) = true then ((shape_Order.f k (⟨#[97, 35, 50]⟩ : ByteArray) (⟨#[97, 35, 49, 48]⟩ : ByteArray)).bind fun r4 => some (r4 == (-1))) else (some false)) else (some false)) else none
theorem dossierlaw12_awake.meets (k : Nat) (r : Bool) (h : dossierlaw12_awake.f k = some r) : Meets Tryd.prog 8 [] [] (sb r) [] := by
 unfold dossierlaw12_awake.f at h
 refine Meets.of_body (n := 16) Tryd.func8 rfl rfl (nl rfl) fun x hx => ?_
 replace hx : x.k = 0 := hx
 show AW _ x _ _ ⟨16, fr0 [], []⟩
 refine AW.seq (AW.region ?_)
 refine s_assign (d := (sb false)) rfl (AWops.nil (AW.seq (AW.region ?_)))
 obtain ⟨c1, h⟩ := gdH h
 refine cc [] [] (D.tup [(st_ ((sh_base (⟨#[97, 35, 50, 46, 98, 35, 49]⟩ : ByteArray)).1)), (sb ((sh_base (⟨#[97, 35, 50, 46, 98, 35, 49]⟩ : ByteArray)).2))]) F.ca_11 rfl rfl (ac (.one .sc) an) an (meets_base c1) (s_move (d := (D.tup [(st_ ((sh_base (⟨#[97, 35, 50, 46, 98, 35, 49]⟩ : ByteArray)).1)), (sb ((sh_base (⟨#[97, 35, 50, 46, 98, 35, 49]⟩ : ByteArray)).2))])) rfl (s_extract (d := (st_ ((sh_base (⟨#[97, 35, 50, 46, 98, 35, 49]⟩ : ByteArray)).1))) rfl rfl (s_extract (d := (sb ((sh_base (⟨#[97, 35, 50, 46, 98, 35, 49]⟩ : ByteArray)).2))) rfl rfl (s_assign (d := (st_ ((sh_base (⟨#[97, 35, 50, 46, 98, 35, 49]⟩ : ByteArray)).1))) rfl (s_assign (d := (sb ((sh_base (⟨#[97, 35, 50, 46, 98, 35, 49]⟩ : ByteArray)).2))) rfl (AWops.nil (AW.seq (AW.region ?_))))))))
 refine s_move (d := (sb ((sh_base (⟨#[97, 35, 50, 46, 98, 35, 49]⟩ : ByteArray)).2))) rfl (s_move (d := (sb ((sh_base (⟨#[97, 35, 50, 46, 98, 35, 49]⟩ : ByteArray)).2))) rfl ?_)
 rcases itH h with ⟨c2, h⟩ | ⟨c2, h⟩
 ·refine AWops.guard_yes rfl (nl rfl) rfl c2 ?_
  refine s_move (d := (st_ ((sh_base (⟨#[97, 35, 50, 46, 98, 35, 49]⟩ : ByteArray)).1))) rfl ?_
  refine AWops.guard_yes rfl (nl rfl) rfl c2 ?_
  refine s_binS (v := (.bool (((sh_base (⟨#[97, 35, 50, 46, 98, 35, 49]⟩ : ByteArray)).1).toList == (⟨#[97, 46, 98]⟩ : ByteArray).toList))) rfl rfl rfl (s_pick_yes (d := (sb (((sh_base (⟨#[97, 35, 50, 46, 98, 35, 49]⟩ : ByteArray)).1).toList == (⟨#[97, 46, 98]⟩ : ByteArray).toList))) rfl c2 rfl (s_move (d := (sb (((sh_base (⟨#[97, 35, 50, 46, 98, 35, 49]⟩ : ByteArray)).1).toList == (⟨#[97, 46, 98]⟩ : ByteArray).toList))) rfl ?_))
  rcases itH h with ⟨c3, h⟩ | ⟨c3, h⟩
  ·refine AWops.guard_yes rfl (nl rfl) rfl c3 ?_
   obtain ⟨r4, er4, h⟩ := bnd h
   refine cc [] [] (si r4) F.ca_6 rfl rfl (ac (.one .sc) (ac (.one .sc) an)) an (shape_Order.meets _ (⟨#[97, 35, 50]⟩ : ByteArray) (⟨#[97, 35, 49, 48]⟩ : ByteArray) r4 er4) ?_
   refine AWops.guard_yes rfl (nl rfl) rfl c3 ?_
   refine s_binI (v := (.bool (r4 == (-1)))) rfl rfl rfl (s_pick_yes (d := (sb (r4 == (-1)))) rfl c3 rfl (s_assign (d := (sb (r4 == (-1)))) rfl (AWops.nil (AW.ret ?_))))
   obtain rfl := Option.some.inj h
   exact ⟨_, rfl, (wg 0 [] [] rfl (le_upd (le_top _) (o1 .sc)) an)⟩
  ·refine AWops.guard_no rfl (nl rfl) rfl c3 ?_
   refine AWops.guard_no rfl (nl rfl) rfl c3 ?_
   refine s_pick_no (d := (sb false)) rfl c3 rfl (s_assign (d := (sb false)) rfl (AWops.nil (AW.ret ?_)))
   obtain rfl := Option.some.inj h
   exact ⟨_, rfl, (wg 0 [] [] rfl (le_upd (le_top _) (o1 .sc)) an)⟩
 ·refine AWops.guard_no rfl (nl rfl) rfl c2 ?_
  refine AWops.guard_no rfl (nl rfl) rfl c2 ?_
  refine s_pick_no (d := (sb false)) rfl c2 rfl (s_move (d := (sb false)) rfl ?_)
  refine AWops.guard_no rfl (nl rfl) rfl rfl ?_
  refine AWops.guard_no rfl (nl rfl) rfl rfl ?_
  refine s_pick_no (d := (sb false)) rfl rfl rfl (s_assign (d := (sb false)) rfl (AWops.nil (AW.ret ?_)))
  obtain rfl := Option.some.inj h
  exact ⟨_, rfl, (wg 0 [] [] rfl (le_upd (le_top _) (o1 .sc)) an)⟩
def dossierlaw12_ShapeOrders.f (k : Nat) (a0 : ByteArray) (a1 : ByteArray) : Option Bool := (shape_Order.f k a0 a1).bind fun r1 => (dossierref12_Order.f k a0 a1).bind fun r2 => if (r1 == r2) = true then ((shape_Order.f k a1 a0).bind fun r4 => (shape_Order.f k a0 a1).bind fun r5 => if (r4 == (IntKind.i64.wrap (0 - r5))) = true then ((shape_Order.f k a0 a1).bind fun r7 => if ((r7 == 0) == (a0.toList == a1.toList)) = true then ((dossierlaw12_awake.f k).bind fun r9 => some r9) else (some false)) else (some false)) else (some false)
theorem dossierlaw12_ShapeOrders.meets (k : Nat) (a0 : ByteArray) (a1 : ByteArray) (r : Bool) (h : dossierlaw12_ShapeOrders.f k a0 a1 = some r) : Meets Tryd.prog 3 [(st_ a0), (st_ a1)] [] (sb r) [] := by
 unfold dossierlaw12_ShapeOrders.f at h
 refine Meets.of_body (n := 35) Tryd.func3 rfl rfl (nl rfl) fun x hx => ?_
 replace hx : x.k = 0 := hx
 show AW _ x _ _ ⟨35, fr0 [(st_ a0), (st_ a1)], []⟩
 refine AW.seq (AW.region ?_)
 refine s_assign (d := (sb false)) rfl (AWops.nil (AW.seq (AW.region ?_)))
 refine s_move (d := (st_ a0)) rfl (s_move (d := (st_ a1)) rfl ?_)
 obtain ⟨r1, er1, h⟩ := bnd h
 refine cc [] [] (si r1) F.ca_6 rfl rfl (ac (.one .sc) (ac (.one .sc) an)) an (shape_Order.meets _ a0 a1 r1 er1) (s_move (d := (st_ a0)) rfl (s_move (d := (st_ a1)) rfl ?_))
 obtain ⟨r2, er2, h⟩ := bnd h
 refine cc [] [] (si r2) F.ca_7 rfl rfl (ac (.one .sc) (ac (.one .sc) an)) an (dossierref12_Order.meets _ a0 a1 r2 er2) (s_binI (v := (.bool (r1 == r2))) rfl rfl rfl (s_move (d := (sb (r1 == r2))) rfl ?_))
 rcases itH h with ⟨c3, h⟩ | ⟨c3, h⟩
 ·refine AWops.guard_yes rfl (nl rfl) rfl c3 ?_
  refine s_move (d := (st_ a1)) rfl ?_
  refine AWops.guard_yes rfl (nl rfl) rfl c3 ?_
  refine s_move (d := (st_ a0)) rfl ?_
  refine AWops.guard_yes rfl (nl rfl) rfl c3 ?_
  obtain ⟨r4, er4, h⟩ := bnd h
  refine cc [] [] (si r4) F.ca_6 rfl rfl (ac (.one .sc) (ac (.one .sc) an)) an (shape_Order.meets _ a1 a0 r4 er4) ?_
  refine AWops.guard_yes rfl (nl rfl) rfl c3 ?_
  refine s_move (d := (st_ a0)) rfl ?_
  refine AWops.guard_yes rfl (nl rfl) rfl c3 ?_
  refine s_move (d := (st_ a1)) rfl ?_
  refine AWops.guard_yes rfl (nl rfl) rfl c3 ?_
  obtain ⟨r5, er5, h⟩ := bnd h
  refine cc [] [] (si r5) F.ca_6 rfl rfl (ac (.one .sc) (ac (.one .sc) an)) an (shape_Order.meets _ a0 a1 r5 er5) ?_
  refine AWops.guard_yes rfl (nl rfl) rfl c3 ?_
  refine s_unI (v := (.int .i64 (IntKind.i64.wrap (0 - r5)))) rfl rfl ?_
  refine AWops.guard_yes rfl (nl rfl) rfl c3 ?_
  refine s_binI (v := (.bool (r4 == (IntKind.i64.wrap (0 - r5))))) rfl rfl rfl (s_pick_yes (d := (sb (r4 == (IntKind.i64.wrap (0 - r5))))) rfl c3 rfl (s_move (d := (sb (r4 == (IntKind.i64.wrap (0 - r5))))) rfl ?_))
  rcases itH h with ⟨c6, h⟩ | ⟨c6, h⟩
  ·refine AWops.guard_yes rfl (nl rfl) rfl c6 ?_
   refine s_move (d := (st_ a0)) rfl ?_
   refine AWops.guard_yes rfl (nl rfl) rfl c6 ?_
   refine s_move (d := (st_ a1)) rfl ?_
   refine AWops.guard_yes rfl (nl rfl) rfl c6 ?_
   obtain ⟨r7, er7, h⟩ := bnd h
   refine cc [] [] (si r7) F.ca_6 rfl rfl (ac (.one .sc) (ac (.one .sc) an)) an (shape_Order.meets _ a0 a1 r7 er7) ?_
   refine AWops.guard_yes rfl (nl rfl) rfl c6 ?_
   refine s_binI (v := (.bool (r7 == 0))) rfl rfl rfl ?_
   refine AWops.guard_yes rfl (nl rfl) rfl c6 ?_
   refine s_move (d := (st_ a0)) rfl ?_
   refine AWops.guard_yes rfl (nl rfl) rfl c6 ?_
   refine s_move (d := (st_ a1)) rfl ?_
   refine AWops.guard_yes rfl (nl rfl) rfl c6 ?_
   refine s_binS (v := (.bool (a0.toList == a1.toList))) rfl rfl rfl ?_
   refine AWops.guard_yes rfl (nl rfl) rfl c6 ?_
   refine s_binB (b := ((r7 == 0) == (a0.toList == a1.toList))) F.u_4 rfl rfl (.inl ⟨rfl, rfl⟩) (s_pick_yes (d := (sb ((r7 == 0) == (a0.toList == a1.toList)))) rfl c6 rfl (s_move (d := (sb ((r7 == 0) == (a0.toList == a1.toList)))) rfl ?_))
   rcases itH h with ⟨c8, h⟩ | ⟨c8, h⟩
   ·refine AWops.guard_yes rfl (nl rfl) rfl c8 ?_
    obtain ⟨r9, er9, h⟩ := bnd h
    refine cc [] [] (sb r9) F.ca_8 rfl rfl an an (dossierlaw12_awake.meets _  r9 er9) (s_pick_yes (d := (sb r9)) rfl c8 rfl (s_assign (d := (sb r9)) rfl (AWops.nil (AW.ret ?_))))
    obtain rfl := Option.some.inj h
    exact ⟨_, rfl, (wg 0 [] [] rfl (le_upd (le_top _) (o1 .sc)) an)⟩
   ·refine AWops.guard_no rfl (nl rfl) rfl c8 ?_
    refine s_pick_no (d := (sb false)) rfl c8 rfl (s_assign (d := (sb false)) rfl (AWops.nil (AW.ret ?_)))
    obtain rfl := Option.some.inj h
    exact ⟨_, rfl, (wg 0 [] [] rfl (le_upd (le_top _) (o1 .sc)) an)⟩
  ·iterate 8 refine AWops.guard_no rfl (nl rfl) rfl c6 ?_
   refine s_pick_no (d := (sb false)) rfl c6 rfl (s_move (d := (sb false)) rfl ?_)
   refine AWops.guard_no rfl (nl rfl) rfl rfl ?_
   refine s_pick_no (d := (sb false)) rfl rfl rfl (s_assign (d := (sb false)) rfl (AWops.nil (AW.ret ?_)))
   obtain rfl := Option.some.inj h
   exact ⟨_, rfl, (wg 0 [] [] rfl (le_upd (le_top _) (o1 .sc)) an)⟩
 ·iterate 8 refine AWops.guard_no rfl (nl rfl) rfl c3 ?_
  refine s_pick_no (d := (sb false)) rfl c3 rfl (s_move (d := (sb false)) rfl ?_)
  iterate 8 refine AWops.guard_no rfl (nl rfl) rfl rfl ?_
  refine s_pick_no (d := (sb false)) rfl rfl rfl (s_move (d := (sb false)) rfl ?_)
  refine AWops.guard_no rfl (nl rfl) rfl rfl ?_
  refine s_pick_no (d := (sb false)) rfl rfl rfl (s_assign (d := (sb false)) rfl (AWops.nil (AW.ret ?_)))
  obtain rfl := Option.some.inj h
  exact ⟨_, rfl, (wg 0 [] [] rfl (le_upd (le_top _) (o1 .sc)) an)⟩
mutual
def chars_Text.l0 : Nat → (List Int) → Int → Int → Int → Option ByteArray
 | 0, _, _, _, _ => none
 | k + 1, x1, x2, x3, a0 => if (decide ((IntKind.i64.wrap (x2 - 1)) < 20)) = true then ((rd x1 (IntKind.i64.wrap (x2 - 1))).bind fun v5 => if ((IntKind.i64.wrap (Int.tdiv x3 10)) == 0) = true then (if (decide (a0 < 0)) = true then (if (decide ((IntKind.i64.wrap ((IntKind.i64.wrap (x2 - 1)) - 1)) < 20)) = true then ((rd (x1.set (IntKind.i64.wrap (x2 - 1)).toNat (IntKind.u8.wrap (IntKind.i64.wrap (48 + (if (IntKind.i64.wrap (0 - (Int.tmod x3 10))) > (Int.tmod x3 10) then (IntKind.i64.wrap (0 - (Int.tmod x3 10))) else (Int.tmod x3 10)))))) (IntKind.i64.wrap ((IntKind.i64.wrap (x2 - 1)) - 1))).bind fun v9 => if (decide (0 ≤ (IntKind.i64.wrap ((IntKind.i64.wrap (x2 - 1)) - 1)) ∧ (IntKind.i64.wrap ((IntKind.i64.wrap (x2 - 1)) - 1)) < 20 ∧ 20 ≤ ((x1.set (IntKind.i64.wrap (x2 - 1)).toNat (IntKind.u8.wrap (IntKind.i64.wrap (48 + (if (IntKind.i64.wrap (0 - (Int.tmod x3 10))) > (Int.tmod x3 10) then (IntKind.i64.wrap (0 - (Int.tmod x3 10))) else (Int.tmod x3 10)))))).set (IntKind.i64.wrap ((IntKind.i64.wrap (x2 - 1)) - 1)).toNat 45).length)) = true then (some (ofNums ((((x1.set (IntKind.i64.wrap (x2 - 1)).toNat (IntKind.u8.wrap (IntKind.i64.wrap (48 + (if (IntKind.i64.wrap (0 - (Int.tmod x3 10))) > (Int.tmod x3 10) then (IntKind.i64.wrap (0 - (Int.tmod x3 10))) else (Int.tmod x3 10)))))).set (IntKind.i64.wrap ((IntKind.i64.wrap (x2 - 1)) - 1)).toNat 45).drop (IntKind.i64.wrap ((IntKind.i64.wrap (x2 - 1)) - 1)).toNat).take (20 - (IntKind.i64.wrap ((IntKind.i64.wrap (x2 - 1)) - 1)).toNat)))) else none) else none) else (if (decide (0 ≤ (IntKind.i64.wrap (x2 - 1)) ∧ (IntKind.i64.wrap (x2 - 1)) < 20 ∧ 20 ≤ (x1.set (IntKind.i64.wrap (x2 - 1)).toNat (IntKind.u8.wrap (IntKind.i64.wrap (48 + (if (IntKind.i64.wrap (0 - (Int.tmod x3 10))) > (Int.tmod x3 10) then (IntKind.i64.wrap (0 - (Int.tmod x3 10))) else (Int.tmod x3 10)))))).length)) = true then (some (ofNums (((x1.set (IntKind.i64.wrap (x2 - 1)).toNat (IntKind.u8.wrap (IntKind.i64.wrap (48 + (if (IntKind.i64.wrap (0 - (Int.tmod x3 10))) > (Int.tmod x3 10) then (IntKind.i64.wrap (0 - (Int.tmod x3 10))) else (Int.tmod x3 10)))))).drop (IntKind.i64.wrap (x2 - 1)).toNat).take (20 - (IntKind.i64.wrap (x2 - 1)).toNat)))) else none)) else (chars_Text.l0 k (x1.set (IntKind.i64.wrap (x2 - 1)).toNat (IntKind.u8.wrap (IntKind.i64.wrap (48 + (if (IntKind.i64.wrap (0 - (Int.tmod x3 10))) > (Int.tmod x3 10) then (IntKind.i64.wrap (0 - (Int.tmod x3 10))) else (Int.tmod x3 10)))))) (IntKind.i64.wrap (x2 - 1)) (IntKind.i64.wrap (Int.tdiv x3 10)) a0)) else none
end
def chars_Text.f (k : Nat) (a0 : Int) : Option ByteArray := chars_Text.l0 k (List.replicate 20 (0 : Int)) 20 a0 a0
theorem chars_Text.meets (k : Nat) (a0 : Int) (r : ByteArray) (h : chars_Text.f k a0 = some r) : Meets Tryd.prog 26 [(si a0)] [] (st_ r) [] := by
 unfold chars_Text.f at h
 refine Meets.of_body (n := 34) Tryd.func26 rfl rfl (nl rfl) fun x hx => ?_
 replace hx : x.k = 0 := hx
 show AW _ x _ _ ⟨34, fr0 [(si a0)], []⟩
 refine AW.seq (AW.region ?_)
 refine s_assign (d := (st_ (⟨#[]⟩ : ByteArray))) rfl (AWops.nil (AW.seq (AW.region ?_)))
 refine s_alloc (cs := rowC e_u8 (List.replicate 20 (0 : Int))) F.z_58 rfl rfl (AWops.nil (AW.seq (AW.region ?_)))
 refine s_assign (d := (si 20)) rfl (AWops.nil (AW.seq (AW.seq (AW.region ?_))))
 refine s_move (d := (si a0)) rfl (s_assign (d := (si a0)) rfl (AWops.nil (AW.block ?_)))
 refine AW.loopw (st0 := ⟨34, (upd 34 (upd 34 (upd 34 (upd 34 topF 0 (si a0)) 3 (rf 0 0)) 4 (si 20)) 5 (si a0)), [(some (AObj.cells true (rowC e_u8 (List.replicate 20 (0 : Int)))))]⟩) (fun kv st => kv ≤ k ∧ ∃ (x1 : List Int) (x2 : Int) (x3 : Int), chars_Text.l0 kv x1 x2 x3 a0 = some r ∧ st = ⟨34, (upd 34 (upd 34 (upd 34 (upd 34 topF 0 (si a0)) 3 (rf 0 0)) 4 (si x2)) 5 (si x3)), [(ow_ e_u8 x1)]⟩) (k := k) (wg 0 [0] [] hx (le_upd (le_upd (le_upd (le_upd (le_top _) (o1 .sc)) (o1 (.ref rfl))) (o1 .sc)) (o1 .sc)) (ac (.cells (fun _ => rfl) (all2_row _)) an)) ⟨Nat.le_refl _, (List.replicate 20 (0 : Int)), 20, a0, h, rfl⟩ ?_
 rintro ql0 st ⟨hkl0, x1, x2, x3, h, rfl⟩
 cases ql0 with
 | zero => exact absurd h (by simp [chars_Text.l0])
 | succ ql0 =>
  replace h := (chars_Text.l0.eq_2 _ _ _ _ _).symm.trans h
  refine AW.seq (AW.block (AW.seq (AW.region ?_)))
  refine s_move (d := (si x3)) rfl (s_binI (v := (.int .i64 (Int.tmod x3 10))) rfl rfl rfl (s_assign (d := (si (Int.tmod x3 10))) rfl (AWops.nil (AW.seq (AW.region (s_move (d := (si x2)) rfl (s_binI (v := (.int .i64 (IntKind.i64.wrap (x2 - 1)))) rfl rfl rfl (s_assign (d := (si (IntKind.i64.wrap (x2 - 1)))) rfl (AWops.nil (AW.seq (AW.region ?_)))))))))))
  refine s_move (d := (si (IntKind.i64.wrap (x2 - 1)))) rfl (s_move (d := (si (Int.tmod x3 10))) rfl (s_move (d := (si (Int.tmod x3 10))) rfl (s_unI (v := (.int .i64 (IntKind.i64.wrap (0 - (Int.tmod x3 10))))) rfl rfl (s_max2 (r := (if (IntKind.i64.wrap (0 - (Int.tmod x3 10))) > (Int.tmod x3 10) then (IntKind.i64.wrap (0 - (Int.tmod x3 10))) else (Int.tmod x3 10))) rfl rfl rfl (s_binI (v := (.int .i64 (IntKind.i64.wrap (48 + (if (IntKind.i64.wrap (0 - (Int.tmod x3 10))) > (Int.tmod x3 10) then (IntKind.i64.wrap (0 - (Int.tmod x3 10))) else (Int.tmod x3 10)))))) rfl rfl rfl ?_)))))
  refine s_convI F.u_3 F.u_5 rfl ?_
  obtain ⟨c4, h⟩ := gdH h
  obtain ⟨v5, ev5, h⟩ := bnd h
  obtain ⟨pv5, qv5, gv5⟩ := rd_some ev5
  refine s_indexArr (n := 20) (d := (D.one (C.ref 0 (0 + (IntKind.i64.wrap (x2 - 1)).toNat * 1)))) F.u_58 F.sz_5 rfl rfl pv5 (of_decide_eq_true c4) rfl ?_
  refine s_store (cs' := rowC e_u8 (x1.set (IntKind.i64.wrap (x2 - 1)).toNat (IntKind.u8.wrap (IntKind.i64.wrap (48 + (if (IntKind.i64.wrap (0 - (Int.tmod x3 10))) > (Int.tmod x3 10) then (IntKind.i64.wrap (0 - (Int.tmod x3 10))) else (Int.tmod x3 10))))))) rfl rfl rfl (List.cons_ne_nil _ _) rfl F.sz_5 (by rw [row_len e_u8_len]; have := (List.getElem?_eq_some_iff.mp gv5).1; show _ + 1 ≤ _; omega) (row_set (f := e_u8) (sz := 1) (o := 0) (ds := [P.v (.int .u8 (IntKind.u8.wrap (IntKind.i64.wrap (48 + (if (IntKind.i64.wrap (0 - (Int.tmod x3 10))) > (Int.tmod x3 10) then (IntKind.i64.wrap (0 - (Int.tmod x3 10))) else (Int.tmod x3 10))))))]) e_u8_len gv5 rfl (nl rfl) rfl) ?_
  refine AWops.nil (AW.seq (AW.region ?_))
  refine s_move (d := (si x3)) rfl (s_binI (v := (.int .i64 (IntKind.i64.wrap (Int.tdiv x3 10)))) rfl rfl rfl (s_binI (v := (.bool ((IntKind.i64.wrap (Int.tdiv x3 10)) == 0))) rfl rfl rfl (AWops.nil ?_)))
  rcases itH h with ⟨c6, h⟩ | ⟨c6, h⟩
  ·refine AW.cond_yes rfl c6 (AW.exit (AW.seq (AW.seq (AW.region ?_))))
   refine s_move (d := (si a0)) rfl (s_binI (v := (.bool (decide (a0 < 0)))) rfl rfl rfl (AWops.nil ?_))
   rcases itH h with ⟨c7, h⟩ | ⟨c7, h⟩
   ·refine AW.cond_yes rfl c7 (AW.seq (AW.region ?_))
    refine s_move (d := (si (IntKind.i64.wrap (x2 - 1)))) rfl (s_binI (v := (.int .i64 (IntKind.i64.wrap ((IntKind.i64.wrap (x2 - 1)) - 1)))) rfl rfl rfl (s_assign (d := (si (IntKind.i64.wrap ((IntKind.i64.wrap (x2 - 1)) - 1)))) rfl (AWops.nil (AW.region (s_move (d := (si (IntKind.i64.wrap ((IntKind.i64.wrap (x2 - 1)) - 1)))) rfl ?_)))))
    obtain ⟨c8, h⟩ := gdH h
    obtain ⟨v9, ev9, h⟩ := bnd h
    obtain ⟨pv9, qv9, gv9⟩ := rd_some ev9
    refine s_indexArr (n := 20) (d := (D.one (C.ref 0 (0 + (IntKind.i64.wrap ((IntKind.i64.wrap (x2 - 1)) - 1)).toNat * 1)))) F.u_58 F.sz_5 rfl rfl pv9 (of_decide_eq_true c8) rfl ?_
    refine s_store (cs' := rowC e_u8 ((x1.set (IntKind.i64.wrap (x2 - 1)).toNat (IntKind.u8.wrap (IntKind.i64.wrap (48 + (if (IntKind.i64.wrap (0 - (Int.tmod x3 10))) > (Int.tmod x3 10) then (IntKind.i64.wrap (0 - (Int.tmod x3 10))) else (Int.tmod x3 10)))))).set (IntKind.i64.wrap ((IntKind.i64.wrap (x2 - 1)) - 1)).toNat 45)) rfl rfl rfl (List.cons_ne_nil _ _) rfl F.sz_5 (by rw [row_len e_u8_len]; have := (List.getElem?_eq_some_iff.mp gv9).1; show _ + 1 ≤ _; omega) (row_set (f := e_u8) (sz := 1) (o := 0) (ds := [P.v (.int .u8 45)]) e_u8_len gv9 rfl (nl rfl) rfl) ?_
    refine AWops.nil (AW.seq (AW.region ?_))
    refine s_move (d := (si (IntKind.i64.wrap ((IntKind.i64.wrap (x2 - 1)) - 1)))) rfl ?_
    obtain ⟨c10, h⟩ := gdH h
    have dc10 := of_decide_eq_true c10
    refine s_sliceArr (n := 20) (l := (IntKind.i64.wrap ((IntKind.i64.wrap (x2 - 1)) - 1)).toNat) (h := 20) F.u_58 F.sz_5 rfl rfl (by rw [row_len e_u8_len]; omega) (.yes rfl (by omega) rfl) .no (by omega) (Nat.le_refl _) (by omega) rfl (t_toStrO (xs := (x1.set (IntKind.i64.wrap (x2 - 1)).toNat (IntKind.u8.wrap (IntKind.i64.wrap (48 + (if (IntKind.i64.wrap (0 - (Int.tmod x3 10))) > (Int.tmod x3 10) then (IntKind.i64.wrap (0 - (Int.tmod x3 10))) else (Int.tmod x3 10)))))).set (IntKind.i64.wrap ((IntKind.i64.wrap (x2 - 1)) - 1)).toNat 45) (l := (IntKind.i64.wrap ((IntKind.i64.wrap (x2 - 1)) - 1)).toNat) (n := 20 - (IntKind.i64.wrap ((IntKind.i64.wrap (x2 - 1)) - 1)).toNat) F.u_59 F.u_5 F.u_9 rfl rfl (by omega) (s_assign (d := (st_ (ofNums ((((x1.set (IntKind.i64.wrap (x2 - 1)).toNat (IntKind.u8.wrap (IntKind.i64.wrap (48 + (if (IntKind.i64.wrap (0 - (Int.tmod x3 10))) > (Int.tmod x3 10) then (IntKind.i64.wrap (0 - (Int.tmod x3 10))) else (Int.tmod x3 10)))))).set (IntKind.i64.wrap ((IntKind.i64.wrap (x2 - 1)) - 1)).toNat 45).drop (IntKind.i64.wrap ((IntKind.i64.wrap (x2 - 1)) - 1)).toNat).take (20 - (IntKind.i64.wrap ((IntKind.i64.wrap (x2 - 1)) - 1)).toNat))))) rfl (AWops.nil (AW.ret ?_))))
    obtain rfl := Option.some.inj h
    exact ⟨_, rfl, (wg 0 [] [] rfl (le_upd (le_top _) (o1 .sc)) an)⟩
   ·refine AW.cond_no rfl c7 (AW.skip (AW.seq (AW.region ?_)))
    refine s_move (d := (si (IntKind.i64.wrap (x2 - 1)))) rfl ?_
    obtain ⟨c11, h⟩ := gdH h
    have dc11 := of_decide_eq_true c11
    refine s_sliceArr (n := 20) (l := (IntKind.i64.wrap (x2 - 1)).toNat) (h := 20) F.u_58 F.sz_5 rfl rfl (by rw [row_len e_u8_len]; omega) (.yes rfl (by omega) rfl) .no (by omega) (Nat.le_refl _) (by omega) rfl (t_toStrO (xs := x1.set (IntKind.i64.wrap (x2 - 1)).toNat (IntKind.u8.wrap (IntKind.i64.wrap (48 + (if (IntKind.i64.wrap (0 - (Int.tmod x3 10))) > (Int.tmod x3 10) then (IntKind.i64.wrap (0 - (Int.tmod x3 10))) else (Int.tmod x3 10)))))) (l := (IntKind.i64.wrap (x2 - 1)).toNat) (n := 20 - (IntKind.i64.wrap (x2 - 1)).toNat) F.u_59 F.u_5 F.u_9 rfl rfl (by omega) (s_assign (d := (st_ (ofNums (((x1.set (IntKind.i64.wrap (x2 - 1)).toNat (IntKind.u8.wrap (IntKind.i64.wrap (48 + (if (IntKind.i64.wrap (0 - (Int.tmod x3 10))) > (Int.tmod x3 10) then (IntKind.i64.wrap (0 - (Int.tmod x3 10))) else (Int.tmod x3 10)))))).drop (IntKind.i64.wrap (x2 - 1)).toNat).take (20 - (IntKind.i64.wrap (x2 - 1)).toNat))))) rfl (AWops.nil (AW.ret ?_))))
    obtain rfl := Option.some.inj h
    exact ⟨_, rfl, (wg 0 [] [] rfl (le_upd (le_top _) (o1 .sc)) an)⟩
  ·refine AW.cond_no rfl c6 (AW.skip (AW.region ?_))
   refine s_move (d := (si x3)) rfl (s_binI (v := (.int .i64 (IntKind.i64.wrap (Int.tdiv x3 10)))) rfl rfl rfl (s_assign (d := (si (IntKind.i64.wrap (Int.tdiv x3 10)))) rfl (AWops.nil ?_)))
   exact ⟨_, ⟨34, (upd 34 (upd 34 (upd 34 (upd 34 topF 0 (si a0)) 3 (rf 0 0)) 4 (si (IntKind.i64.wrap (x2 - 1)))) 5 (si (IntKind.i64.wrap (Int.tdiv x3 10)))), [(some (AObj.cells true (rowC e_u8 (x1.set (IntKind.i64.wrap (x2 - 1)).toNat (IntKind.u8.wrap (IntKind.i64.wrap (48 + (if (IntKind.i64.wrap (0 - (Int.tmod x3 10))) > (Int.tmod x3 10) then (IntKind.i64.wrap (0 - (Int.tmod x3 10))) else (Int.tmod x3 10)))))))))]⟩, by omega, (wg 0 [0] [] hx (le_upd (le_upd (le_upd (le_upd (le_top _) (o1 .sc)) (o1 (.ref rfl))) (o1 .sc)) (o1 .sc)) (ac (.cells (fun _ => rfl) (all2_row _)) an)), by omega, x1.set (IntKind.i64.wrap (x2 - 1)).toNat (IntKind.u8.wrap (IntKind.i64.wrap (48 + (if (IntKind.i64.wrap (0 - (Int.tmod x3 10))) > (Int.tmod x3 10) then (IntKind.i64.wrap (0 - (Int.tmod x3 10))) else (Int.tmod x3 10))))), IntKind.i64.wrap (x2 - 1), IntKind.i64.wrap (Int.tdiv x3 10), h, rfl⟩
def shape_Join.f (k : Nat) (a0 : ByteArray) (a1 : ByteArray) (a2 : Int) : Option ByteArray := if (decide (a1.size + (⟨#[35]⟩ : ByteArray).size ≤ 9223372036854775807)) = true then ((chars_Text.f k a2).bind fun r2 => if (decide ((a1 ++ (⟨#[35]⟩ : ByteArray)).size + r2.size ≤ 9223372036854775807)) = true then (if (a0.toList == (⟨#[]⟩ : ByteArray).toList) = true then (some ((a1 ++ (⟨#[35]⟩ : ByteArray)) ++ r2)) else (if (decide (a0.size + (⟨#[46]⟩ : ByteArray).size ≤ 9223372036854775807)) = true then (if (decide ((a0 ++ (⟨#[46]⟩ : ByteArray)).size + ((a1 ++ (⟨#[35]⟩ : ByteArray)) ++ r2).size ≤ 9223372036854775807)) = true then (some ((a0 ++ (⟨#[46]⟩ : ByteArray)) ++ ((a1 ++ (⟨#[35]⟩ : ByteArray)) ++ r2))) else none) else none)) else none) else none
theorem shape_Join.meets (k : Nat) (a0 : ByteArray) (a1 : ByteArray) (a2 : Int) (r : ByteArray) (h : shape_Join.f k a0 a1 a2 = some r) : Meets Tryd.prog 10 [(st_ a0), (st_ a1), (si a2)] [] (st_ r) [] := by
 unfold shape_Join.f at h
 refine Meets.of_body (n := 20) Tryd.func10 rfl rfl (nl rfl) fun x hx => ?_
 replace hx : x.k = 0 := hx
 show AW _ x _ _ ⟨20, fr0 [(st_ a0), (st_ a1), (si a2)], []⟩
 refine AW.seq (AW.region ?_)
 refine s_assign (d := (st_ (⟨#[]⟩ : ByteArray))) rfl (AWops.nil (AW.seq (AW.region ?_)))
 refine s_move (d := (st_ a1)) rfl ?_
 obtain ⟨c1, h⟩ := gdH h
 refine s_binS (v := (.string (a1 ++ (⟨#[35]⟩ : ByteArray)))) rfl rfl (if_neg (by have := of_decide_eq_true c1; omega)) (s_move (d := (si a2)) rfl ?_)
 obtain ⟨r2, er2, h⟩ := bnd h
 refine cc [] [] (st_ r2) F.ca_26 rfl rfl (ac (.one .sc) an) an (chars_Text.meets _ a2 r2 er2) ?_
 obtain ⟨c3, h⟩ := gdH h
 refine s_binS (v := (.string ((a1 ++ (⟨#[35]⟩ : ByteArray)) ++ r2))) rfl rfl (if_neg (by have := of_decide_eq_true c3; omega)) (s_assign (d := (st_ ((a1 ++ (⟨#[35]⟩ : ByteArray)) ++ r2))) rfl (AWops.nil (AW.seq (AW.seq (AW.region (s_move (d := (st_ a0)) rfl (s_binS (v := (.bool (!(a0.toList == (⟨#[]⟩ : ByteArray).toList)))) rfl rfl rfl (AWops.nil ?_))))))))
 rcases itH h with ⟨c4, h⟩ | ⟨c4, h⟩
 ·refine AW.cond_no rfl (by rw [c4] <;> rfl) (AW.skip (AW.seq (AW.region ?_)))
  refine s_move (d := (st_ ((a1 ++ (⟨#[35]⟩ : ByteArray)) ++ r2))) rfl (s_assign (d := (st_ ((a1 ++ (⟨#[35]⟩ : ByteArray)) ++ r2))) rfl (AWops.nil (AW.ret ?_)))
  obtain rfl := Option.some.inj h
  exact ⟨_, rfl, (wg 0 [] [] rfl (le_upd (le_top _) (o1 .sc)) an)⟩
 ·refine AW.cond_yes rfl (by rw [c4] <;> rfl) (AW.region ?_)
  refine s_move (d := (st_ a0)) rfl ?_
  obtain ⟨c5, h⟩ := gdH h
  refine s_binS (v := (.string (a0 ++ (⟨#[46]⟩ : ByteArray)))) rfl rfl (if_neg (by have := of_decide_eq_true c5; omega)) (s_move (d := (st_ ((a1 ++ (⟨#[35]⟩ : ByteArray)) ++ r2))) rfl ?_)
  obtain ⟨c6, h⟩ := gdH h
  refine s_binS (v := (.string ((a0 ++ (⟨#[46]⟩ : ByteArray)) ++ ((a1 ++ (⟨#[35]⟩ : ByteArray)) ++ r2)))) rfl rfl (if_neg (by have := of_decide_eq_true c6; omega)) (s_assign (d := (st_ ((a0 ++ (⟨#[46]⟩ : ByteArray)) ++ ((a1 ++ (⟨#[35]⟩ : ByteArray)) ++ r2)))) rfl (AWops.nil (AW.seq (AW.region (s_move (d := (st_ ((a0 ++ (⟨#[46]⟩ : ByteArray)) ++ ((a1 ++ (⟨#[35]⟩ : ByteArray)) ++ r2)))) rfl (s_assign (d := (st_ ((a0 ++ (⟨#[46]⟩ : ByteArray)) ++ ((a1 ++ (⟨#[35]⟩ : ByteArray)) ++ r2)))) rfl (AWops.nil (AW.ret ?_))))))))
  obtain rfl := Option.some.inj h
  exact ⟨_, rfl, (wg 0 [] [] rfl (le_upd (le_top _) (o1 .sc)) an)⟩
mutual
def dossierlaw12_ShapeWay.l0 : Nat → Int → ByteArray → ByteArray → ByteArray → Option Bool
 | 0, _, _, _, _ => none
 | k + 1, x1, a0, a1, a2 => if (decide (x1 < (([a0, a1, a2] : List ByteArray).length : Int))) = true then ((rd ([a0, a1, a2] : List ByteArray) x1).bind fun v3 => (dossierref12_Base.f k v3).bind fun r5 => if r5.2 = true then (dossierlaw12_ShapeWay.l0 k (IntKind.i64.wrap (x1 + 1)) a0 a1 a2) else ((dossierlaw12_awake.f k).bind fun r7 => some r7)) else ((shape_Order.f k a0 a1).bind fun r8 => if (decide (r8 ≤ 0)) = true then ((shape_Order.f k a1 a2).bind fun r10 => if (decide (r10 ≤ 0)) = true then ((shape_Order.f k a0 a2).bind fun r12 => if (decide (r12 > 0)) = true then (some false) else ((shape_Join.f k a0 (⟨#[120]⟩ : ByteArray) 1).bind fun r14 => (shape_Order.f k a0 r14).bind fun r15 => if (r15 == (-1)) = true then ((dossierlaw12_awake.f k).bind fun r17 => some r17) else (some false))) else ((shape_Join.f k a0 (⟨#[120]⟩ : ByteArray) 1).bind fun r18 => (shape_Order.f k a0 r18).bind fun r19 => if (r19 == (-1)) = true then ((dossierlaw12_awake.f k).bind fun r21 => some r21) else (some false))) else ((shape_Join.f k a0 (⟨#[120]⟩ : ByteArray) 1).bind fun r22 => (shape_Order.f k a0 r22).bind fun r23 => if (r23 == (-1)) = true then ((dossierlaw12_awake.f k).bind fun r25 => some r25) else (some false)))
end
def dossierlaw12_ShapeWay.f (k : Nat) (a0 : ByteArray) (a1 : ByteArray) (a2 : ByteArray) : Option Bool := dossierlaw12_ShapeWay.l0 k 0 a0 a1 a2
theorem dossierlaw12_ShapeWay.meets (k : Nat) (a0 : ByteArray) (a1 : ByteArray) (a2 : ByteArray) (r : Bool) (h : dossierlaw12_ShapeWay.f k a0 a1 a2 = some r) : Meets Tryd.prog 4 [(st_ a0), (st_ a1), (st_ a2)] [] (sb r) [] := by
 unfold dossierlaw12_ShapeWay.f at h
 refine Meets.of_body (n := 53) Tryd.func4 rfl rfl (nl rfl) fun x hx => ?_
 replace hx : x.k = 0 := hx
 show AW _ x _ _ ⟨53, fr0 [(st_ a0), (st_ a1), (st_ a2)], []⟩
 refine AW.seq (AW.region ?_)
 refine s_assign (d := (sb false)) rfl (AWops.nil (AW.seq (AW.seq (AW.region ?_))))
 refine s_move (d := (st_ a0)) rfl (s_move (d := (st_ a1)) rfl (s_move (d := (st_ a2)) rfl (s_buildSlice (n := 3) (ps := [(0, (st_ a0)), (1, (st_ a1)), (2, (st_ a2))]) (cs := rowC e_str ([a0, a1, a2] : List ByteArray)) F.u_25 F.sz_9 F.z_9 rfl rfl (by decide) (by decide) rfl rfl (s_len (n := ([a0, a1, a2] : List ByteArray).length) F.u_25 rfl (.inr ⟨(fun _ _ h => by cases h), ⟨_, rfl⟩⟩) (s_move (d := (si 0)) rfl (AWops.nil (AW.block ?_)))))))
 refine AW.loopw (st0 := ⟨53, (upd 53 (upd 53 (upd 53 (upd 53 (upd 53 (upd 53 topF 0 (st_ a0)) 1 (st_ a1)) 2 (st_ a2)) 14 (D.one (C.own 0 0 (([a0, a1, a2] : List ByteArray).length) 1))) 15 (si (([a0, a1, a2] : List ByteArray).length : Int))) 16 (si 0)), [(some (AObj.cells true (rowC e_str ([a0, a1, a2] : List ByteArray))))]⟩) (fun kv st => kv ≤ k ∧ ∃ (x1 : Int), dossierlaw12_ShapeWay.l0 kv x1 a0 a1 a2 = some r ∧ st = ⟨53, (upd 53 (upd 53 (upd 53 (upd 53 (upd 53 (upd 53 topF 0 (st_ a0)) 1 (st_ a1)) 2 (st_ a2)) 14 (D.one (C.own 0 0 (([a0, a1, a2] : List ByteArray).length) 1))) 15 (si (([a0, a1, a2] : List ByteArray).length : Int))) 16 (si x1)), [(some (AObj.cells true (rowC e_str ([a0, a1, a2] : List ByteArray))))]⟩) (k := k) (wg 0 [0] [] hx (le_upd (le_upd (le_upd (le_upd (le_upd (le_upd (le_top _) (o1 .sc)) (o1 .sc)) (o1 .sc)) (o1 (.own rfl))) (o1 .sc)) (o1 .sc)) (ac (.cells (fun _ => rfl) (all2_row _)) an)) ⟨Nat.le_refl _, 0, h, rfl⟩ ?_
 rintro ql0 st ⟨hkl0, x1, h, rfl⟩
 cases ql0 with
 | zero => exact absurd h (by simp [dossierlaw12_ShapeWay.l0])
 | succ ql0 =>
  replace h := (dossierlaw12_ShapeWay.l0.eq_2 _ _ _ _ _).symm.trans h
  refine AW.seq (AW.region ?_)
  refine s_binI (v := (.bool (decide (x1 < (([a0, a1, a2] : List ByteArray).length : Int))))) rfl rfl rfl (AWops.nil (AW.seq ?_))
  rcases itH h with ⟨c2, h⟩ | ⟨c2, h⟩
  ·refine AW.cond_yes rfl c2 (AW.skip (AW.seq (AW.block (AW.seq (AW.region ?_)))))
   obtain ⟨v3, ev3, h⟩ := bnd h
   obtain ⟨pv3, qv3, gv3⟩ := rd_some ev3
   refine s_indexOwn (d := (D.one (C.ref 0 (0 + x1.toNat * 1)))) F.u_25 F.sz_9 rfl rfl pv3 qv3 rfl ?_
   obtain ⟨R4, hR4⟩ := row_at (f := e_str) (sz := 1) (o := 0) e_str_len gv3 (e_str_eq v3) (by decide)
   refine s_load1 (c' := (ct v3)) F.ag_9 (congrArg some hR4) rfl (s_assign (d := (st_ v3)) rfl (AWops.nil (AW.seq (AW.region (s_move (d := (st_ v3)) rfl ?_)))))
   obtain ⟨r5, er5, h⟩ := bnd h
   refine cc [] [(some (AObj.cells true (rowC e_str ([a0, a1, a2] : List ByteArray))))] (D.tup [(st_ r5.1), (sb r5.2)]) F.ca_9 rfl rfl (ac (.one .sc) an) an (dossierref12_Base.meets _ v3 r5 er5) (s_move (d := (D.tup [(st_ r5.1), (sb r5.2)])) rfl (s_extract (d := (st_ r5.1)) rfl rfl (s_extract (d := (sb r5.2)) rfl rfl (s_assign (d := (st_ r5.1)) rfl (s_assign (d := (sb r5.2)) rfl (AWops.nil (AW.seq (AW.region ?_))))))))
   refine s_move (d := (sb r5.2)) rfl (s_not rfl (AWops.nil ?_))
   rcases itH h with ⟨c6, h⟩ | ⟨c6, h⟩
   ·refine AW.cond_no rfl (by rw [c6] <;> rfl) (AW.skip (AW.region ?_))
    refine s_binI (v := (.int .i64 (IntKind.i64.wrap (x1 + 1)))) rfl rfl rfl (s_move (d := (si (IntKind.i64.wrap (x1 + 1)))) rfl (AWops.nil ?_))
    exact ⟨_, ⟨53, (upd 53 (upd 53 (upd 53 (upd 53 (upd 53 (upd 53 topF 0 (st_ a0)) 1 (st_ a1)) 2 (st_ a2)) 14 (D.one (C.own 0 0 (([a0, a1, a2] : List ByteArray).length) 1))) 15 (si (([a0, a1, a2] : List ByteArray).length : Int))) 16 (si (IntKind.i64.wrap (x1 + 1)))), [(some (AObj.cells true (rowC e_str ([a0, a1, a2] : List ByteArray))))]⟩, by omega, (wg 0 [0] [] hx (le_upd (le_upd (le_upd (le_upd (le_upd (le_upd (le_top _) (o1 .sc)) (o1 .sc)) (o1 .sc)) (o1 (.own rfl))) (o1 .sc)) (o1 .sc)) (ac (.cells (fun _ => rfl) (all2_row _)) an)), by omega, IntKind.i64.wrap (x1 + 1), h, rfl⟩
   ·refine AW.cond_yes rfl (by rw [c6] <;> rfl) (AW.seq (AW.region ?_))
    obtain ⟨r7, er7, h⟩ := bnd h
    refine cc [] [(some (AObj.cells true (rowC e_str ([a0, a1, a2] : List ByteArray))))] (sb r7) F.ca_8 rfl rfl an an (dossierlaw12_awake.meets _  r7 er7) (s_assign (d := (sb r7)) rfl (AWops.nil (AW.ret ?_)))
    obtain rfl := Option.some.inj h
    exact ⟨_, rfl, (wg 0 [] [] rfl (le_upd (le_top _) (o1 .sc)) an)⟩
  ·refine AW.cond_no rfl c2 (AW.exit (AW.seq (AW.seq (AW.region ?_))))
   refine s_move (d := (st_ a0)) rfl (s_move (d := (st_ a1)) rfl ?_)
   obtain ⟨r8, er8, h⟩ := bnd h
   refine cc [] [(some (AObj.cells true (rowC e_str ([a0, a1, a2] : List ByteArray))))] (si r8) F.ca_6 rfl rfl (ac (.one .sc) (ac (.one .sc) an)) an (shape_Order.meets _ a0 a1 r8 er8) (s_binI (v := (.bool (decide (r8 ≤ 0)))) rfl rfl rfl (s_move (d := (sb (decide (r8 ≤ 0)))) rfl ?_))
   rcases itH h with ⟨c9, h⟩ | ⟨c9, h⟩
   ·refine AWops.guard_yes rfl (nl rfl) rfl c9 ?_
    refine s_move (d := (st_ a1)) rfl ?_
    refine AWops.guard_yes rfl (nl rfl) rfl c9 ?_
    refine s_move (d := (st_ a2)) rfl ?_
    refine AWops.guard_yes rfl (nl rfl) rfl c9 ?_
    obtain ⟨r10, er10, h⟩ := bnd h
    refine cc [] [(some (AObj.cells true (rowC e_str ([a0, a1, a2] : List ByteArray))))] (si r10) F.ca_6 rfl rfl (ac (.one .sc) (ac (.one .sc) an)) an (shape_Order.meets _ a1 a2 r10 er10) ?_
    refine AWops.guard_yes rfl (nl rfl) rfl c9 ?_
    refine s_binI (v := (.bool (decide (r10 ≤ 0)))) rfl rfl rfl (s_pick_yes (d := (sb (decide (r10 ≤ 0)))) rfl c9 rfl (s_move (d := (sb (decide (r10 ≤ 0)))) rfl ?_))
    rcases itH h with ⟨c11, h⟩ | ⟨c11, h⟩
    ·refine AWops.guard_yes rfl (nl rfl) rfl c11 ?_
     refine s_move (d := (st_ a0)) rfl ?_
     refine AWops.guard_yes rfl (nl rfl) rfl c11 ?_
     refine s_move (d := (st_ a2)) rfl ?_
     refine AWops.guard_yes rfl (nl rfl) rfl c11 ?_
     obtain ⟨r12, er12, h⟩ := bnd h
     refine cc [] [(some (AObj.cells true (rowC e_str ([a0, a1, a2] : List ByteArray))))] (si r12) F.ca_6 rfl rfl (ac (.one .sc) (ac (.one .sc) an)) an (shape_Order.meets _ a0 a2 r12 er12) ?_
     refine AWops.guard_yes rfl (nl rfl) rfl c11 ?_
     refine s_binI (v := (.bool (decide (r12 > 0)))) rfl rfl rfl (s_pick_yes (d := (sb (decide (r12 > 0)))) rfl c11 rfl (AWops.nil ?_))
     rcases itH h with ⟨c13, h⟩ | ⟨c13, h⟩
     ·refine AW.cond_yes rfl c13 (AW.seq (AW.region ?_))
      refine s_assign (d := (sb false)) rfl (AWops.nil (AW.ret ?_))
      obtain rfl := Option.some.inj h
      exact ⟨_, rfl, (wg 0 [] [] rfl (le_upd (le_top _) (o1 .sc)) an)⟩
     ·refine AW.cond_no rfl c13 (AW.skip (AW.seq (AW.region ?_)))
      refine s_move (d := (st_ a0)) rfl (s_move (d := (st_ a0)) rfl ?_)
      obtain ⟨r14, er14, h⟩ := bnd h
      refine cc [] [(some (AObj.cells true (rowC e_str ([a0, a1, a2] : List ByteArray))))] (st_ r14) F.ca_10 rfl rfl (ac (.one .sc) (ac (.one .sc) (ac (.one .sc) an))) an (shape_Join.meets _ a0 (⟨#[120]⟩ : ByteArray) 1 r14 er14) ?_
      obtain ⟨r15, er15, h⟩ := bnd h
      refine cc [] [(some (AObj.cells true (rowC e_str ([a0, a1, a2] : List ByteArray))))] (si r15) F.ca_6 rfl rfl (ac (.one .sc) (ac (.one .sc) an)) an (shape_Order.meets _ a0 r14 r15 er15) (s_binI (v := (.bool (r15 == (-1)))) rfl rfl rfl (s_move (d := (sb (r15 == (-1)))) rfl ?_))
      rcases itH h with ⟨c16, h⟩ | ⟨c16, h⟩
      ·refine AWops.guard_yes rfl (nl rfl) rfl c16 ?_
       obtain ⟨r17, er17, h⟩ := bnd h
       refine cc [] [(some (AObj.cells true (rowC e_str ([a0, a1, a2] : List ByteArray))))] (sb r17) F.ca_8 rfl rfl an an (dossierlaw12_awake.meets _  r17 er17) (s_pick_yes (d := (sb r17)) rfl c16 rfl (s_assign (d := (sb r17)) rfl (AWops.nil (AW.ret ?_))))
       obtain rfl := Option.some.inj h
       exact ⟨_, rfl, (wg 0 [] [] rfl (le_upd (le_top _) (o1 .sc)) an)⟩
      ·refine AWops.guard_no rfl (nl rfl) rfl c16 ?_
       refine s_pick_no (d := (sb false)) rfl c16 rfl (s_assign (d := (sb false)) rfl (AWops.nil (AW.ret ?_)))
       obtain rfl := Option.some.inj h
       exact ⟨_, rfl, (wg 0 [] [] rfl (le_upd (le_top _) (o1 .sc)) an)⟩
    ·iterate 4 refine AWops.guard_no rfl (nl rfl) rfl c11 ?_
     refine s_pick_no (d := (sb false)) rfl c11 rfl (AWops.nil ?_)
     refine AW.cond_no rfl rfl (AW.skip (AW.seq (AW.region ?_)))
     refine s_move (d := (st_ a0)) rfl (s_move (d := (st_ a0)) rfl ?_)
     obtain ⟨r18, er18, h⟩ := bnd h
     refine cc [] [(some (AObj.cells true (rowC e_str ([a0, a1, a2] : List ByteArray))))] (st_ r18) F.ca_10 rfl rfl (ac (.one .sc) (ac (.one .sc) (ac (.one .sc) an))) an (shape_Join.meets _ a0 (⟨#[120]⟩ : ByteArray) 1 r18 er18) ?_
     obtain ⟨r19, er19, h⟩ := bnd h
     refine cc [] [(some (AObj.cells true (rowC e_str ([a0, a1, a2] : List ByteArray))))] (si r19) F.ca_6 rfl rfl (ac (.one .sc) (ac (.one .sc) an)) an (shape_Order.meets _ a0 r18 r19 er19) (s_binI (v := (.bool (r19 == (-1)))) rfl rfl rfl (s_move (d := (sb (r19 == (-1)))) rfl ?_))
     rcases itH h with ⟨c20, h⟩ | ⟨c20, h⟩
     ·refine AWops.guard_yes rfl (nl rfl) rfl c20 ?_
      obtain ⟨r21, er21, h⟩ := bnd h
      refine cc [] [(some (AObj.cells true (rowC e_str ([a0, a1, a2] : List ByteArray))))] (sb r21) F.ca_8 rfl rfl an an (dossierlaw12_awake.meets _  r21 er21) (s_pick_yes (d := (sb r21)) rfl c20 rfl (s_assign (d := (sb r21)) rfl (AWops.nil (AW.ret ?_))))
      obtain rfl := Option.some.inj h
      exact ⟨_, rfl, (wg 0 [] [] rfl (le_upd (le_top _) (o1 .sc)) an)⟩
     ·refine AWops.guard_no rfl (nl rfl) rfl c20 ?_
      refine s_pick_no (d := (sb false)) rfl c20 rfl (s_assign (d := (sb false)) rfl (AWops.nil (AW.ret ?_)))
      obtain rfl := Option.some.inj h
      exact ⟨_, rfl, (wg 0 [] [] rfl (le_upd (le_top _) (o1 .sc)) an)⟩
   ·iterate 4 refine AWops.guard_no rfl (nl rfl) rfl c9 ?_
    refine s_pick_no (d := (sb false)) rfl c9 rfl (s_move (d := (sb false)) rfl ?_)
    iterate 4 refine AWops.guard_no rfl (nl rfl) rfl rfl ?_
    refine s_pick_no (d := (sb false)) rfl rfl rfl (AWops.nil ?_)
    refine AW.cond_no rfl rfl (AW.skip (AW.seq (AW.region ?_)))
    refine s_move (d := (st_ a0)) rfl (s_move (d := (st_ a0)) rfl ?_)
    obtain ⟨r22, er22, h⟩ := bnd h
    refine cc [] [(some (AObj.cells true (rowC e_str ([a0, a1, a2] : List ByteArray))))] (st_ r22) F.ca_10 rfl rfl (ac (.one .sc) (ac (.one .sc) (ac (.one .sc) an))) an (shape_Join.meets _ a0 (⟨#[120]⟩ : ByteArray) 1 r22 er22) ?_
    obtain ⟨r23, er23, h⟩ := bnd h
    refine cc [] [(some (AObj.cells true (rowC e_str ([a0, a1, a2] : List ByteArray))))] (si r23) F.ca_6 rfl rfl (ac (.one .sc) (ac (.one .sc) an)) an (shape_Order.meets _ a0 r22 r23 er23) (s_binI (v := (.bool (r23 == (-1)))) rfl rfl rfl (s_move (d := (sb (r23 == (-1)))) rfl ?_))
    rcases itH h with ⟨c24, h⟩ | ⟨c24, h⟩
    ·refine AWops.guard_yes rfl (nl rfl) rfl c24 ?_
     obtain ⟨r25, er25, h⟩ := bnd h
     refine cc [] [(some (AObj.cells true (rowC e_str ([a0, a1, a2] : List ByteArray))))] (sb r25) F.ca_8 rfl rfl an an (dossierlaw12_awake.meets _  r25 er25) (s_pick_yes (d := (sb r25)) rfl c24 rfl (s_assign (d := (sb r25)) rfl (AWops.nil (AW.ret ?_))))
     obtain rfl := Option.some.inj h
     exact ⟨_, rfl, (wg 0 [] [] rfl (le_upd (le_top _) (o1 .sc)) an)⟩
    ·refine AWops.guard_no rfl (nl rfl) rfl c24 ?_
     refine s_pick_no (d := (sb false)) rfl c24 rfl (s_assign (d := (sb false)) rfl (AWops.nil (AW.ret ?_)))
     obtain rfl := Option.some.inj h
     exact ⟨_, rfl, (wg 0 [] [] rfl (le_upd (le_top _) (o1 .sc)) an)⟩
def dossierref12_Last.f (k : Nat) (a0 : ByteArray) : Option (ByteArray × Int) := (dossierref12_Base.f k a0).bind fun r1 => if r1.2 = true then ((dossierref12_last.f k a0 46).bind fun r3 => if (decide (0 ≤ (IntKind.i64.wrap (r3 + 1)) ∧ (IntKind.i64.wrap (r3 + 1)) ≤ (a0.size : Int) ∧ (a0.size : Int) ≤ (a0.size : Int))) = true then ((dossierref12_part.f k (a0.extract (IntKind.i64.wrap (r3 + 1)).toNat a0.size)).bind fun r5 => some (r5.1, r5.2.1)) else none) else (some ((⟨#[]⟩ : ByteArray), 0))
theorem dossierref12_Last.meets (k : Nat) (a0 : ByteArray) (r : ByteArray × Int) (h : dossierref12_Last.f k a0 = some r) : Meets Tryd.prog 13 [(st_ a0)] [] (D.tup [(st_ r.1), (si r.2)]) [] := by
 unfold dossierref12_Last.f at h
 refine Meets.of_body (n := 28) Tryd.func13 rfl rfl (nl rfl) fun x hx => ?_
 replace hx : x.k = 0 := hx
 show AW _ x _ _ ⟨28, fr0 [(st_ a0)], []⟩
 refine AW.seq (AW.region ?_)
 refine s_assign (d := (st_ (⟨#[]⟩ : ByteArray))) rfl (s_assign (d := (si 0)) rfl (AWops.nil (AW.seq (AW.seq (AW.region (s_move (d := (st_ a0)) rfl ?_))))))
 obtain ⟨r1, er1, h⟩ := bnd h
 refine cc [] [] (D.tup [(st_ r1.1), (sb r1.2)]) F.ca_9 rfl rfl (ac (.one .sc) an) an (dossierref12_Base.meets _ a0 r1 er1) (s_move (d := (D.tup [(st_ r1.1), (sb r1.2)])) rfl (s_extract (d := (st_ r1.1)) rfl rfl (s_extract (d := (sb r1.2)) rfl rfl (s_assign (d := (st_ r1.1)) rfl (s_assign (d := (sb r1.2)) rfl (AWops.nil (AW.seq (AW.region ?_))))))))
 refine s_move (d := (sb r1.2)) rfl (s_not rfl (AWops.nil ?_))
 rcases itH h with ⟨c2, h⟩ | ⟨c2, h⟩
 ·refine AW.cond_no rfl (by rw [c2] <;> rfl) (AW.skip (AW.seq (AW.region ?_)))
  refine s_move (d := (st_ a0)) rfl (s_move (d := (st_ a0)) rfl ?_)
  obtain ⟨r3, er3, h⟩ := bnd h
  refine cc [] [] (si r3) F.ca_29 rfl rfl (ac (.one .sc) (ac (.one .sc) an)) an (dossierref12_last.meets _ a0 46 r3 er3) (s_binI (v := (.int .i64 (IntKind.i64.wrap (r3 + 1)))) rfl rfl rfl ?_)
  obtain ⟨c4, h⟩ := gdH h
  have dc4 := of_decide_eq_true c4
  refine s_sliceStr F.u_9 rfl (.yes rfl (by omega) rfl) .no (by omega) (by omega) ?_
  obtain ⟨r5, er5, h⟩ := bnd h
  refine cc [] [] (D.tup [(st_ r5.1), (si r5.2.1), (sb r5.2.2)]) F.ca_25 rfl rfl (ac (.one .sc) an) an (dossierref12_part.meets _ (a0.extract (IntKind.i64.wrap (r3 + 1)).toNat a0.size) r5 er5) (s_move (d := (D.tup [(st_ r5.1), (si r5.2.1), (sb r5.2.2)])) rfl (s_extract (d := (st_ r5.1)) rfl rfl (s_extract (d := (si r5.2.1)) rfl rfl (s_extract (d := (sb r5.2.2)) rfl rfl (s_assign (d := (st_ r5.1)) rfl ?_)))))
  refine s_assign (d := (si r5.2.1)) rfl (s_assign (d := (sb r5.2.2)) rfl (AWops.nil (AW.seq (AW.region (s_move (d := (st_ r5.1)) rfl (s_move (d := (si r5.2.1)) rfl (s_assign (d := (st_ r5.1)) rfl (s_assign (d := (si r5.2.1)) rfl (AWops.nil (AW.ret ?_))))))))))
  obtain rfl := Option.some.inj h
  exact ⟨_, rfl, (wg 0 [] [] rfl (le_upd (le_top _) (DLe.tup (ac (TLe.one .sc) (ac (TLe.one .sc) an)))) an)⟩
 ·refine AW.cond_yes rfl (by rw [c2] <;> rfl) (AW.seq (AW.region ?_))
  refine s_assign (d := (st_ (⟨#[]⟩ : ByteArray))) rfl (s_assign (d := (si 0)) rfl (AWops.nil (AW.ret ?_)))
  obtain rfl := Option.some.inj h
  exact ⟨_, rfl, (wg 0 [] [] rfl (le_upd (le_top _) (DLe.tup (ac (TLe.one .sc) (ac (TLe.one .sc) an)))) an)⟩
def shape_Up.f (k : Nat) (a0 : ByteArray) : Option ByteArray := (strings_LastIndexByte.f k a0 46).bind fun r1 => if (decide (0 ≤ 0 ∧ 0 ≤ (if r1 > 0 then r1 else 0) ∧ (if r1 > 0 then r1 else 0) ≤ (a0.size : Int))) = true then (some (a0.extract 0 (if r1 > 0 then r1 else 0).toNat)) else none
theorem shape_Up.meets (k : Nat) (a0 : ByteArray) (r : ByteArray) (h : shape_Up.f k a0 = some r) : Meets Tryd.prog 14 [(st_ a0)] [] (st_ r) [] := by
 unfold shape_Up.f at h
 refine Meets.of_body (n := 8) Tryd.func14 rfl rfl (nl rfl) fun x hx => ?_
 replace hx : x.k = 0 := hx
 show AW _ x _ _ ⟨8, fr0 [(st_ a0)], []⟩
 refine AW.seq (AW.region ?_)
 refine s_assign (d := (st_ (⟨#[]⟩ : ByteArray))) rfl (AWops.nil (AW.seq (AW.region ?_)))
 refine s_move (d := (st_ a0)) rfl (s_move (d := (st_ a0)) rfl ?_)
 obtain ⟨r1, er1, h⟩ := bnd h
 refine cc [] [] (si r1) F.ca_30 rfl rfl (ac (.one .sc) (ac (.one .sc) an)) an (strings_LastIndexByte.meets _ a0 46 r1 er1) (s_max2 (r := (if r1 > 0 then r1 else 0)) rfl rfl rfl ?_)
 obtain ⟨c2, h⟩ := gdH h
 have dc2 := of_decide_eq_true c2
 refine s_sliceStr F.u_9 rfl .no (.yes rfl (by omega) rfl) (by omega) (by omega) (s_assign (d := (st_ (a0.extract 0 (if r1 > 0 then r1 else 0).toNat))) rfl (AWops.nil (AW.ret ?_)))
 obtain rfl := Option.some.inj h
 exact ⟨_, rfl, (wg 0 [] [] rfl (le_upd (le_top _) (o1 .sc)) an)⟩
def dossierref12_Up.f (k : Nat) (a0 : ByteArray) : Option ByteArray := (dossierref12_last.f k a0 46).bind fun r1 => if (decide (0 ≤ 0 ∧ 0 ≤ (if r1 > 0 then r1 else 0) ∧ (if r1 > 0 then r1 else 0) ≤ (a0.size : Int))) = true then (some (a0.extract 0 (if r1 > 0 then r1 else 0).toNat)) else none
theorem dossierref12_Up.meets (k : Nat) (a0 : ByteArray) (r : ByteArray) (h : dossierref12_Up.f k a0 = some r) : Meets Tryd.prog 15 [(st_ a0)] [] (st_ r) [] := by
 unfold dossierref12_Up.f at h
 refine Meets.of_body (n := 8) Tryd.func15 rfl rfl (nl rfl) fun x hx => ?_
 replace hx : x.k = 0 := hx
 show AW _ x _ _ ⟨8, fr0 [(st_ a0)], []⟩
 refine AW.seq (AW.region ?_)
 refine s_assign (d := (st_ (⟨#[]⟩ : ByteArray))) rfl (AWops.nil (AW.seq (AW.region ?_)))
 refine s_move (d := (st_ a0)) rfl (s_move (d := (st_ a0)) rfl ?_)
 obtain ⟨r1, er1, h⟩ := bnd h
 refine cc [] [] (si r1) F.ca_29 rfl rfl (ac (.one .sc) (ac (.one .sc) an)) an (dossierref12_last.meets _ a0 46 r1 er1) (s_max2 (r := (if r1 > 0 then r1 else 0)) rfl rfl rfl ?_)
 obtain ⟨c2, h⟩ := gdH h
 have dc2 := of_decide_eq_true c2
 refine s_sliceStr F.u_9 rfl .no (.yes rfl (by omega) rfl) (by omega) (by omega) (s_assign (d := (st_ (a0.extract 0 (if r1 > 0 then r1 else 0).toNat))) rfl (AWops.nil (AW.ret ?_)))
 obtain rfl := Option.some.inj h
 exact ⟨_, rfl, (wg 0 [] [] rfl (le_upd (le_top _) (o1 .sc)) an)⟩
def dossierref12_Join.f (k : Nat) (a0 : ByteArray) (a1 : ByteArray) (a2 : Int) : Option ByteArray := if (decide (a1.size + (⟨#[35]⟩ : ByteArray).size ≤ 9223372036854775807)) = true then ((dossierref01_Text.f k a2).bind fun r2 => if (decide ((a1 ++ (⟨#[35]⟩ : ByteArray)).size + r2.size ≤ 9223372036854775807)) = true then (if (a0.toList == (⟨#[]⟩ : ByteArray).toList) = true then (some ((a1 ++ (⟨#[35]⟩ : ByteArray)) ++ r2)) else (if (decide (a0.size + (⟨#[46]⟩ : ByteArray).size ≤ 9223372036854775807)) = true then (if (decide ((a0 ++ (⟨#[46]⟩ : ByteArray)).size + ((a1 ++ (⟨#[35]⟩ : ByteArray)) ++ r2).size ≤ 9223372036854775807)) = true then (some ((a0 ++ (⟨#[46]⟩ : ByteArray)) ++ ((a1 ++ (⟨#[35]⟩ : ByteArray)) ++ r2))) else none) else none)) else none) else none
theorem dossierref12_Join.meets (k : Nat) (a0 : ByteArray) (a1 : ByteArray) (a2 : Int) (r : ByteArray) (h : dossierref12_Join.f k a0 a1 a2 = some r) : Meets Tryd.prog 16 [(st_ a0), (st_ a1), (si a2)] [] (st_ r) [] := by
 unfold dossierref12_Join.f at h
 refine Meets.of_body (n := 20) Tryd.func16 rfl rfl (nl rfl) fun x hx => ?_
 replace hx : x.k = 0 := hx
 show AW _ x _ _ ⟨20, fr0 [(st_ a0), (st_ a1), (si a2)], []⟩
 refine AW.seq (AW.region ?_)
 refine s_assign (d := (st_ (⟨#[]⟩ : ByteArray))) rfl (AWops.nil (AW.seq (AW.region ?_)))
 refine s_move (d := (st_ a1)) rfl ?_
 obtain ⟨c1, h⟩ := gdH h
 refine s_binS (v := (.string (a1 ++ (⟨#[35]⟩ : ByteArray)))) rfl rfl (if_neg (by have := of_decide_eq_true c1; omega)) (s_move (d := (si a2)) rfl ?_)
 obtain ⟨r2, er2, h⟩ := bnd h
 refine cc [] [] (st_ r2) F.ca_31 rfl rfl (ac (.one .sc) an) an (dossierref01_Text.meets _ a2 r2 er2) ?_
 obtain ⟨c3, h⟩ := gdH h
 refine s_binS (v := (.string ((a1 ++ (⟨#[35]⟩ : ByteArray)) ++ r2))) rfl rfl (if_neg (by have := of_decide_eq_true c3; omega)) (s_assign (d := (st_ ((a1 ++ (⟨#[35]⟩ : ByteArray)) ++ r2))) rfl (AWops.nil (AW.seq (AW.seq (AW.region (s_move (d := (st_ a0)) rfl (s_binS (v := (.bool (a0.toList == (⟨#[]⟩ : ByteArray).toList))) rfl rfl rfl (AWops.nil ?_))))))))
 rcases itH h with ⟨c4, h⟩ | ⟨c4, h⟩
 ·refine AW.cond_yes rfl c4 (AW.seq (AW.region ?_))
  refine s_move (d := (st_ ((a1 ++ (⟨#[35]⟩ : ByteArray)) ++ r2))) rfl (s_assign (d := (st_ ((a1 ++ (⟨#[35]⟩ : ByteArray)) ++ r2))) rfl (AWops.nil (AW.ret ?_)))
  obtain rfl := Option.some.inj h
  exact ⟨_, rfl, (wg 0 [] [] rfl (le_upd (le_top _) (o1 .sc)) an)⟩
 ·refine AW.cond_no rfl c4 (AW.skip (AW.seq (AW.region ?_)))
  refine s_move (d := (st_ a0)) rfl ?_
  obtain ⟨c5, h⟩ := gdH h
  refine s_binS (v := (.string (a0 ++ (⟨#[46]⟩ : ByteArray)))) rfl rfl (if_neg (by have := of_decide_eq_true c5; omega)) (s_move (d := (st_ ((a1 ++ (⟨#[35]⟩ : ByteArray)) ++ r2))) rfl ?_)
  obtain ⟨c6, h⟩ := gdH h
  refine s_binS (v := (.string ((a0 ++ (⟨#[46]⟩ : ByteArray)) ++ ((a1 ++ (⟨#[35]⟩ : ByteArray)) ++ r2)))) rfl rfl (if_neg (by have := of_decide_eq_true c6; omega)) (s_assign (d := (st_ ((a0 ++ (⟨#[46]⟩ : ByteArray)) ++ ((a1 ++ (⟨#[35]⟩ : ByteArray)) ++ r2)))) rfl (AWops.nil (AW.ret ?_)))
  obtain rfl := Option.some.inj h
  exact ⟨_, rfl, (wg 0 [] [] rfl (le_upd (le_top _) (o1 .sc)) an)⟩
def dossierlaw12_ShapePaths.f (k : Nat) (a0 : ByteArray) (a1 : ByteArray) (a2 : Int) : Option Bool := if (decide (a0.size ≤ 1048576)) = true then ((dossierref12_Base.f k a0).bind fun r2 => (dossierref12_Last.f k a0).bind fun r3 => if (((sh_base a0).1).toList == r2.1.toList) = true then (if (((sh_base a0).2) == r2.2) = true then (if (((sh_last a0).1).toList == r3.1.toList) = true then (if (((sh_last a0).2) == r3.2) = true then ((shape_Up.f k a0).bind fun r8 => (dossierref12_Up.f k a0).bind fun r9 => if (r8.toList == r9.toList) = true then ((shape_Join.f k a0 a1 a2).bind fun r11 => (dossierref12_Join.f k a0 a1 a2).bind fun r12 => if (r11.toList == r12.toList) = true then ((dossierlaw12_awake.f k).bind fun r14 => some r14) else (some false)) else (some false)) else (some false)) else (some false)) else (some false)) else (some false)) else none
theorem dossierlaw12_ShapePaths.meets (k : Nat) (a0 : ByteArray) (a1 : ByteArray) (a2 : Int) (r : Bool) (h : dossierlaw12_ShapePaths.f k a0 a1 a2 = some r) : Meets Tryd.prog 5 [(st_ a0), (st_ a1), (si a2)] [] (sb r) [] := by
 unfold dossierlaw12_ShapePaths.f at h
 refine Meets.of_body (n := 74) Tryd.func5 rfl rfl (nl rfl) fun x hx => ?_
 replace hx : x.k = 0 := hx
 show AW _ x _ _ ⟨74, fr0 [(st_ a0), (st_ a1), (si a2)], []⟩
 refine AW.seq (AW.region ?_)
 refine s_assign (d := (sb false)) rfl (AWops.nil (AW.seq (AW.region ?_)))
 refine s_move (d := (st_ a0)) rfl ?_
 obtain ⟨c1, h⟩ := gdH h
 refine cc [] [] (D.tup [(st_ ((sh_base a0).1)), (sb ((sh_base a0).2))]) F.ca_11 rfl rfl (ac (.one .sc) an) an (meets_base c1) (s_move (d := (D.tup [(st_ ((sh_base a0).1)), (sb ((sh_base a0).2))])) rfl (s_extract (d := (st_ ((sh_base a0).1))) rfl rfl (s_extract (d := (sb ((sh_base a0).2))) rfl rfl (s_assign (d := (st_ ((sh_base a0).1))) rfl (s_assign (d := (sb ((sh_base a0).2))) rfl (AWops.nil (AW.seq (AW.region ?_))))))))
 refine s_move (d := (st_ a0)) rfl ?_
 obtain ⟨r2, er2, h⟩ := bnd h
 refine cc [] [] (D.tup [(st_ r2.1), (sb r2.2)]) F.ca_9 rfl rfl (ac (.one .sc) an) an (dossierref12_Base.meets _ a0 r2 er2) (s_move (d := (D.tup [(st_ r2.1), (sb r2.2)])) rfl (s_extract (d := (st_ r2.1)) rfl rfl (s_extract (d := (sb r2.2)) rfl rfl (s_assign (d := (st_ r2.1)) rfl (s_assign (d := (sb r2.2)) rfl (AWops.nil (AW.seq (AW.region ?_))))))))
 refine s_move (d := (st_ a0)) rfl (cc [] [] (D.tup [(st_ ((sh_last a0).1)), (si ((sh_last a0).2))]) F.ca_12 rfl rfl (ac (.one .sc) an) an (meets_last c1) (s_move (d := (D.tup [(st_ ((sh_last a0).1)), (si ((sh_last a0).2))])) rfl (s_extract (d := (st_ ((sh_last a0).1))) rfl rfl (s_extract (d := (si ((sh_last a0).2))) rfl rfl (s_assign (d := (st_ ((sh_last a0).1))) rfl ?_)))))
 refine s_assign (d := (si ((sh_last a0).2))) rfl (AWops.nil (AW.seq (AW.region ?_)))
 refine s_move (d := (st_ a0)) rfl ?_
 obtain ⟨r3, er3, h⟩ := bnd h
 refine cc [] [] (D.tup [(st_ r3.1), (si r3.2)]) F.ca_13 rfl rfl (ac (.one .sc) an) an (dossierref12_Last.meets _ a0 r3 er3) (s_move (d := (D.tup [(st_ r3.1), (si r3.2)])) rfl (s_extract (d := (st_ r3.1)) rfl rfl (s_extract (d := (si r3.2)) rfl rfl (s_assign (d := (st_ r3.1)) rfl (s_assign (d := (si r3.2)) rfl (AWops.nil (AW.seq (AW.region ?_))))))))
 refine s_move (d := (st_ ((sh_base a0).1))) rfl (s_move (d := (st_ r2.1)) rfl (s_binS (v := (.bool (((sh_base a0).1).toList == r2.1.toList))) rfl rfl rfl (s_move (d := (sb (((sh_base a0).1).toList == r2.1.toList))) rfl ?_)))
 rcases itH h with ⟨c4, h⟩ | ⟨c4, h⟩
 ·refine AWops.guard_yes rfl (nl rfl) rfl c4 ?_
  refine s_move (d := (sb ((sh_base a0).2))) rfl ?_
  refine AWops.guard_yes rfl (nl rfl) rfl c4 ?_
  refine s_move (d := (sb r2.2)) rfl ?_
  refine AWops.guard_yes rfl (nl rfl) rfl c4 ?_
  refine s_binB (b := (((sh_base a0).2) == r2.2)) F.u_4 rfl rfl (.inl ⟨rfl, rfl⟩) (s_pick_yes (d := (sb (((sh_base a0).2) == r2.2))) rfl c4 rfl (s_move (d := (sb (((sh_base a0).2) == r2.2))) rfl ?_))
  rcases itH h with ⟨c5, h⟩ | ⟨c5, h⟩
  ·refine AWops.guard_yes rfl (nl rfl) rfl c5 ?_
   refine s_move (d := (st_ ((sh_last a0).1))) rfl ?_
   refine AWops.guard_yes rfl (nl rfl) rfl c5 ?_
   refine s_move (d := (st_ r3.1)) rfl ?_
   refine AWops.guard_yes rfl (nl rfl) rfl c5 ?_
   refine s_binS (v := (.bool (((sh_last a0).1).toList == r3.1.toList))) rfl rfl rfl (s_pick_yes (d := (sb (((sh_last a0).1).toList == r3.1.toList))) rfl c5 rfl (s_move (d := (sb (((sh_last a0).1).toList == r3.1.toList))) rfl ?_))
   rcases itH h with ⟨c6, h⟩ | ⟨c6, h⟩
   ·refine AWops.guard_yes rfl (nl rfl) rfl c6 ?_
    refine s_move (d := (si ((sh_last a0).2))) rfl ?_
    refine AWops.guard_yes rfl (nl rfl) rfl c6 ?_
    refine s_move (d := (si r3.2)) rfl ?_
    refine AWops.guard_yes rfl (nl rfl) rfl c6 ?_
    refine s_binI (v := (.bool (((sh_last a0).2) == r3.2))) rfl rfl rfl (s_pick_yes (d := (sb (((sh_last a0).2) == r3.2))) rfl c6 rfl (s_move (d := (sb (((sh_last a0).2) == r3.2))) rfl ?_))
    rcases itH h with ⟨c7, h⟩ | ⟨c7, h⟩
    ·refine AWops.guard_yes rfl (nl rfl) rfl c7 ?_
     refine s_move (d := (st_ a0)) rfl ?_
     refine AWops.guard_yes rfl (nl rfl) rfl c7 ?_
     obtain ⟨r8, er8, h⟩ := bnd h
     refine cc [] [] (st_ r8) F.ca_14 rfl rfl (ac (.one .sc) an) an (shape_Up.meets _ a0 r8 er8) ?_
     refine AWops.guard_yes rfl (nl rfl) rfl c7 ?_
     refine s_move (d := (st_ a0)) rfl ?_
     refine AWops.guard_yes rfl (nl rfl) rfl c7 ?_
     obtain ⟨r9, er9, h⟩ := bnd h
     refine cc [] [] (st_ r9) F.ca_15 rfl rfl (ac (.one .sc) an) an (dossierref12_Up.meets _ a0 r9 er9) ?_
     refine AWops.guard_yes rfl (nl rfl) rfl c7 ?_
     refine s_binS (v := (.bool (r8.toList == r9.toList))) rfl rfl rfl (s_pick_yes (d := (sb (r8.toList == r9.toList))) rfl c7 rfl (s_move (d := (sb (r8.toList == r9.toList))) rfl ?_))
     rcases itH h with ⟨c10, h⟩ | ⟨c10, h⟩
     ·refine AWops.guard_yes rfl (nl rfl) rfl c10 ?_
      refine s_move (d := (st_ a0)) rfl ?_
      refine AWops.guard_yes rfl (nl rfl) rfl c10 ?_
      refine s_move (d := (st_ a1)) rfl ?_
      refine AWops.guard_yes rfl (nl rfl) rfl c10 ?_
      refine s_move (d := (si a2)) rfl ?_
      refine AWops.guard_yes rfl (nl rfl) rfl c10 ?_
      obtain ⟨r11, er11, h⟩ := bnd h
      refine cc [] [] (st_ r11) F.ca_10 rfl rfl (ac (.one .sc) (ac (.one .sc) (ac (.one .sc) an))) an (shape_Join.meets _ a0 a1 a2 r11 er11) ?_
      refine AWops.guard_yes rfl (nl rfl) rfl c10 ?_
      refine s_move (d := (st_ a0)) rfl ?_
      refine AWops.guard_yes rfl (nl rfl) rfl c10 ?_
      refine s_move (d := (st_ a1)) rfl ?_
      refine AWops.guard_yes rfl (nl rfl) rfl c10 ?_
      refine s_move (d := (si a2)) rfl ?_
      refine AWops.guard_yes rfl (nl rfl) rfl c10 ?_
      obtain ⟨r12, er12, h⟩ := bnd h
      refine cc [] [] (st_ r12) F.ca_16 rfl rfl (ac (.one .sc) (ac (.one .sc) (ac (.one .sc) an))) an (dossierref12_Join.meets _ a0 a1 a2 r12 er12) ?_
      refine AWops.guard_yes rfl (nl rfl) rfl c10 ?_
      refine s_binS (v := (.bool (r11.toList == r12.toList))) rfl rfl rfl (s_pick_yes (d := (sb (r11.toList == r12.toList))) rfl c10 rfl (s_move (d := (sb (r11.toList == r12.toList))) rfl ?_))
      rcases itH h with ⟨c13, h⟩ | ⟨c13, h⟩
      ·refine AWops.guard_yes rfl (nl rfl) rfl c13 ?_
       obtain ⟨r14, er14, h⟩ := bnd h
       refine cc [] [] (sb r14) F.ca_8 rfl rfl an an (dossierlaw12_awake.meets _  r14 er14) (s_pick_yes (d := (sb r14)) rfl c13 rfl (s_assign (d := (sb r14)) rfl (AWops.nil (AW.ret ?_))))
       obtain rfl := Option.some.inj h
       exact ⟨_, rfl, (wg 0 [] [] rfl (le_upd (le_top _) (o1 .sc)) an)⟩
      ·refine AWops.guard_no rfl (nl rfl) rfl c13 ?_
       refine s_pick_no (d := (sb false)) rfl c13 rfl (s_assign (d := (sb false)) rfl (AWops.nil (AW.ret ?_)))
       obtain rfl := Option.some.inj h
       exact ⟨_, rfl, (wg 0 [] [] rfl (le_upd (le_top _) (o1 .sc)) an)⟩
     ·iterate 9 refine AWops.guard_no rfl (nl rfl) rfl c10 ?_
      refine s_pick_no (d := (sb false)) rfl c10 rfl (s_move (d := (sb false)) rfl ?_)
      refine AWops.guard_no rfl (nl rfl) rfl rfl ?_
      refine s_pick_no (d := (sb false)) rfl rfl rfl (s_assign (d := (sb false)) rfl (AWops.nil (AW.ret ?_)))
      obtain rfl := Option.some.inj h
      exact ⟨_, rfl, (wg 0 [] [] rfl (le_upd (le_top _) (o1 .sc)) an)⟩
    ·iterate 5 refine AWops.guard_no rfl (nl rfl) rfl c7 ?_
     refine s_pick_no (d := (sb false)) rfl c7 rfl (s_move (d := (sb false)) rfl ?_)
     iterate 9 refine AWops.guard_no rfl (nl rfl) rfl rfl ?_
     refine s_pick_no (d := (sb false)) rfl rfl rfl (s_move (d := (sb false)) rfl ?_)
     refine AWops.guard_no rfl (nl rfl) rfl rfl ?_
     refine s_pick_no (d := (sb false)) rfl rfl rfl (s_assign (d := (sb false)) rfl (AWops.nil (AW.ret ?_)))
     obtain rfl := Option.some.inj h
     exact ⟨_, rfl, (wg 0 [] [] rfl (le_upd (le_top _) (o1 .sc)) an)⟩
   ·iterate 3 refine AWops.guard_no rfl (nl rfl) rfl c6 ?_
    refine s_pick_no (d := (sb false)) rfl c6 rfl (s_move (d := (sb false)) rfl ?_)
    iterate 5 refine AWops.guard_no rfl (nl rfl) rfl rfl ?_
    refine s_pick_no (d := (sb false)) rfl rfl rfl (s_move (d := (sb false)) rfl ?_)
    iterate 9 refine AWops.guard_no rfl (nl rfl) rfl rfl ?_
    refine s_pick_no (d := (sb false)) rfl rfl rfl (s_move (d := (sb false)) rfl ?_)
    refine AWops.guard_no rfl (nl rfl) rfl rfl ?_
    refine s_pick_no (d := (sb false)) rfl rfl rfl (s_assign (d := (sb false)) rfl (AWops.nil (AW.ret ?_)))
    obtain rfl := Option.some.inj h
    exact ⟨_, rfl, (wg 0 [] [] rfl (le_upd (le_top _) (o1 .sc)) an)⟩
  ·iterate 3 refine AWops.guard_no rfl (nl rfl) rfl c5 ?_
   refine s_pick_no (d := (sb false)) rfl c5 rfl (s_move (d := (sb false)) rfl ?_)
   iterate 3 refine AWops.guard_no rfl (nl rfl) rfl rfl ?_
   refine s_pick_no (d := (sb false)) rfl rfl rfl (s_move (d := (sb false)) rfl ?_)
   iterate 5 refine AWops.guard_no rfl (nl rfl) rfl rfl ?_
   refine s_pick_no (d := (sb false)) rfl rfl rfl (s_move (d := (sb false)) rfl ?_)
   iterate 9 refine AWops.guard_no rfl (nl rfl) rfl rfl ?_
   refine s_pick_no (d := (sb false)) rfl rfl rfl (s_move (d := (sb false)) rfl ?_)
   refine AWops.guard_no rfl (nl rfl) rfl rfl ?_
   refine s_pick_no (d := (sb false)) rfl rfl rfl (s_assign (d := (sb false)) rfl (AWops.nil (AW.ret ?_)))
   obtain rfl := Option.some.inj h
   exact ⟨_, rfl, (wg 0 [] [] rfl (le_upd (le_top _) (o1 .sc)) an)⟩
 ·iterate 3 refine AWops.guard_no rfl (nl rfl) rfl c4 ?_
  refine s_pick_no (d := (sb false)) rfl c4 rfl (s_move (d := (sb false)) rfl ?_)
  iterate 3 refine AWops.guard_no rfl (nl rfl) rfl rfl ?_
  refine s_pick_no (d := (sb false)) rfl rfl rfl (s_move (d := (sb false)) rfl ?_)
  iterate 3 refine AWops.guard_no rfl (nl rfl) rfl rfl ?_
  refine s_pick_no (d := (sb false)) rfl rfl rfl (s_move (d := (sb false)) rfl ?_)
  iterate 5 refine AWops.guard_no rfl (nl rfl) rfl rfl ?_
  refine s_pick_no (d := (sb false)) rfl rfl rfl (s_move (d := (sb false)) rfl ?_)
  iterate 9 refine AWops.guard_no rfl (nl rfl) rfl rfl ?_
  refine s_pick_no (d := (sb false)) rfl rfl rfl (s_move (d := (sb false)) rfl ?_)
  refine AWops.guard_no rfl (nl rfl) rfl rfl ?_
  refine s_pick_no (d := (sb false)) rfl rfl rfl (s_assign (d := (sb false)) rfl (AWops.nil (AW.ret ?_)))
  obtain rfl := Option.some.inj h
  exact ⟨_, rfl, (wg 0 [] [] rfl (le_upd (le_top _) (o1 .sc)) an)⟩
end Go.Abs.GenS
