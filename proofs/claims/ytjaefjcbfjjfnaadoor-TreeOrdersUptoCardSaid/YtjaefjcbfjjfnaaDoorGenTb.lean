import Derived.Test.YtjaefjcbfjjfnaaDoorGenTa
set_option linter.unusedVariables false
set_option linter.unusedSimpArgs false
set_option maxRecDepth 100000
set_option maxHeartbeats 4000000
namespace Go.Abs.GenT
open Go.Abs Go.Proofs
mutual
def dossierref01_Number.j3 : Nat → Int → ByteArray → Option (Int × Int)
 | 0, _, _ => none
 | k + 1, x17, a0 => (dossierref01_Text.f k x17).bind fun r18 => if (r18.toList == a0.toList) = true then (some (x17, 0)) else (some (0, 4))
def dossierref01_Number.l2 : Nat → Int → Int → ByteArray → ByteArray → Option (Int × Int)
 | 0, _, _, _, _ => none
 | k + 1, x13, x14, a0, x1 => if (decide (x14 < (x1.size : Int))) = true then ((bt x1 x14).bind fun v16 => dossierref01_Number.l2 k (IntKind.i64.wrap ((IntKind.i64.wrap (10 * x13)) - (IntKind.i64.wrap (IntKind.u8.wrap (v16 - 48))))) (IntKind.i64.wrap (x14 + 1)) a0 x1) else (if ((x1.size : Int) == (a0.size : Int)) = true then (dossierref01_Number.j3 k (IntKind.i64.wrap (0 - x13)) a0) else (dossierref01_Number.j3 k x13 a0))
def dossierref01_Number.l1 : Nat → Int → ByteArray → ByteArray → Option (Int × Int)
 | 0, _, _, _ => none
 | k + 1, x6, a0, x1 => if (decide (x6 < (x1.size : Int))) = true then ((bt x1 x6).bind fun v8 => if (decide (v8 < 48)) = true then (some (0, 5)) else ((bt x1 x6).bind fun v10 => if (decide (v10 > 57)) = true then (some (0, 5)) else (dossierref01_Number.l1 k (IntKind.i64.wrap (x6 + 1)) a0 x1))) else (if (decide ((x1.size : Int) > 19)) = true then (some (0, 4)) else (dossierref01_Number.l2 k 0 0 a0 x1))
def dossierref01_Number.j6 : Nat → Int → ByteArray → Option (Int × Int)
 | 0, _, _ => none
 | k + 1, x31, a0 => (dossierref01_Text.f k x31).bind fun r32 => if (r32.toList == a0.toList) = true then (some (x31, 0)) else (some (0, 4))
def dossierref01_Number.l5 : Nat → Int → Int → ByteArray → ByteArray → Option (Int × Int)
 | 0, _, _, _, _ => none
 | k + 1, x27, x28, a0, x1 => if (decide (x28 < (x1.size : Int))) = true then ((bt x1 x28).bind fun v30 => dossierref01_Number.l5 k (IntKind.i64.wrap ((IntKind.i64.wrap (10 * x27)) - (IntKind.i64.wrap (IntKind.u8.wrap (v30 - 48))))) (IntKind.i64.wrap (x28 + 1)) a0 x1) else (if ((x1.size : Int) == (a0.size : Int)) = true then (dossierref01_Number.j6 k (IntKind.i64.wrap (0 - x27)) a0) else (dossierref01_Number.j6 k x27 a0))
def dossierref01_Number.l4 : Nat → Int → ByteArray → ByteArray → Option (Int × Int)
 | 0, _, _, _ => none
 | k + 1, x20, a0, x1 => if (decide (x20 < (x1.size : Int))) = true then ((bt x1 x20).bind fun v22 => if (decide (v22 < 48)) = true then (some (0, 5)) else ((bt x1 x20).bind fun v24 => if (decide (v24 > 57)) = true then (some (0, 5)) else (dossierref01_Number.l4 k (IntKind.i64.wrap (x20 + 1)) a0 x1))) else (if (decide ((x1.size : Int) > 19)) = true then (some (0, 4)) else (dossierref01_Number.l5 k 0 0 a0 x1))
def dossierref01_Number.j0 : Nat → ByteArray → ByteArray → Option (Int × Int)
 | 0, _, _ => none
 | k + 1, x1, a0 => if ((x1.size : Int) == 0) = true then (some (0, 5)) else ((bt x1 0).bind fun v3 => if (v3 == 48) = true then (if (decide ((a0.size : Int) > 1)) = true then (some (0, 5)) else (dossierref01_Number.l1 k 0 a0 x1)) else (dossierref01_Number.l4 k 0 a0 x1))
end
def dossierref01_Number.f (k : Nat) (a0 : ByteArray) : Option (Int × Int) := if (decide ((a0.size : Int) > 0)) = true then ((bt a0 0).bind fun v2 => if (v2 == 45) = true then (if (decide (0 ≤ 1 ∧ 1 ≤ (a0.size : Int) ∧ (a0.size : Int) ≤ (a0.size : Int))) = true then (dossierref01_Number.j0 k (a0.extract 1 a0.size) a0) else none) else (dossierref01_Number.j0 k a0 a0)) else (dossierref01_Number.j0 k a0 a0)
theorem dossierref01_Number.meets (k : Nat) (a0 : ByteArray) (r : Int × Int) (h : dossierref01_Number.f k a0 = some r) : Meets Tryd.prog 70 [(sc (.string a0))] [] (D.tup [(sc (.int .i64 r.1)), (sc (.int .i64 r.2))]) [] := by
 unfold dossierref01_Number.f at h
 refine Meets.of_body (n := 77) Tryd.func70 rfl rfl (nl rfl) fun x hx => ?_
 replace hx : x.k = 0 := hx
 show AW _ x _ _ ⟨77, fr0 [(sc (.string a0))], []⟩
 refine AW.seq (AW.region ?_)
 refine s_assign (d := (sc (.int .i64 0))) rfl ?_
 refine s_assign (d := (sc (.int .i64 0))) rfl (AWops.nil (AW.seq (AW.region ?_)))
 refine s_move (d := (sc (.string a0))) rfl ?_
 refine s_assign (d := (sc (.string a0))) rfl (AWops.nil ?_)
 refine AW.seqJ (fun st => ∃ (x1 : ByteArray), dossierref01_Number.j0 k x1 a0 = some r ∧ st = ⟨77, (upd 77 (upd 77 topF 0 (sc (.string a0))) 4 (sc (.string x1))), []⟩) ?_ ?_
 ·refine AW.seq (AW.region ?_)
  refine s_move (d := (sc (.string a0))) rfl ?_
  refine s_len (n := a0.size) F.u_9 rfl (.inl ⟨⟨_, _, rfl⟩, rfl⟩) ?_
  refine s_binI (v := (.bool (decide ((a0.size : Int) > 0)))) rfl rfl rfl ?_
  refine s_move (d := (sc (.bool (decide ((a0.size : Int) > 0))))) rfl ?_
  rcases itH h with ⟨c1, h⟩ | ⟨c1, h⟩
  ·refine AWops.guard_yes rfl (nl rfl) rfl c1 ?_
   refine s_move (d := (sc (.string a0))) rfl ?_
   refine AWops.guard_yes rfl (nl rfl) rfl c1 ?_
   obtain ⟨v2, ev2, h⟩ := bnd h
   obtain ⟨pv2, bv2, gv2, rfl⟩ := bt_some ev2
   refine s_indexStr F.u_9 rfl rfl pv2 gv2 ?_
   generalize hzv2 : ((bv2.toNat : Nat) : Int) = v2 at *
   refine AWops.guard_yes rfl (nl rfl) rfl c1 ?_
   refine s_binI (v := (.bool (v2 == 45))) rfl rfl rfl ?_
   refine s_pick_yes (d := (sc (.bool (v2 == 45)))) rfl c1 rfl (AWops.nil ?_)
   rcases itH h with ⟨c3, h⟩ | ⟨c3, h⟩
   ·refine AW.cond_yes rfl c3 (AW.region ?_)
    refine s_move (d := (sc (.string a0))) rfl ?_
    obtain ⟨c4, h⟩ := gdH h
    have dc4 := of_decide_eq_true c4
    refine s_sliceStr F.u_9 rfl (.yes rfl (by omega) rfl) .no (by omega) (by omega) ?_
    refine s_assign (d := (sc (.string (a0.extract 1 a0.size)))) rfl (AWops.nil ?_)
    exact ⟨⟨77, (upd 77 (upd 77 topF 0 (sc (.string a0))) 4 (sc (.string (a0.extract 1 a0.size)))), []⟩, (Weak.gen (kk := 0) [] [] hx rfl (by decide) (by decide) rfl rfl rfl (le_upd (le_upd (le_top _) (.t (.one .sc))) (.t (.one .sc))) an), a0.extract 1 a0.size, h, rfl⟩
   ·refine AW.cond_no rfl c3 (AW.skip ?_)
    exact ⟨⟨77, (upd 77 (upd 77 topF 0 (sc (.string a0))) 4 (sc (.string a0))), []⟩, (Weak.gen (kk := 0) [] [] hx rfl (by decide) (by decide) rfl rfl rfl (le_upd (le_upd (le_top _) (.t (.one .sc))) (.t (.one .sc))) an), a0, h, rfl⟩
  ·iterate 3 refine AWops.guard_no rfl (nl rfl) rfl c1 ?_
   refine s_pick_no (d := (sc (.bool false))) rfl c1 rfl (AWops.nil ?_)
   refine AW.cond_no rfl rfl (AW.skip ?_)
   exact ⟨⟨77, (upd 77 (upd 77 topF 0 (sc (.string a0))) 4 (sc (.string a0))), []⟩, (Weak.gen (kk := 0) [] [] hx rfl (by decide) (by decide) rfl rfl rfl (le_upd (le_upd (le_top _) (.t (.one .sc))) (.t (.one .sc))) an), a0, h, rfl⟩
 ·rintro st ⟨x1, h, rfl⟩
  cases k with
  | zero => exact absurd h (by simp [dossierref01_Number.j0])
  | succ qj0 =>
   replace h := (dossierref01_Number.j0.eq_2 _ _ _).symm.trans h
   refine AW.seq (AW.seq (AW.region ?_))
   refine s_move (d := (sc (.string x1))) rfl ?_
   refine s_len (n := x1.size) F.u_9 rfl (.inl ⟨⟨_, _, rfl⟩, rfl⟩) ?_
   refine s_binI (v := (.bool ((x1.size : Int) == 0))) rfl rfl rfl ?_
   refine s_move (d := (sc (.bool ((x1.size : Int) == 0)))) rfl ?_
   rcases itH h with ⟨c2, h⟩ | ⟨c2, h⟩
   ·iterate 4 refine AWops.guard_no rfl (nl rfl) rfl c2 ?_
    iterate 3 refine AWops.guard_undef rfl rfl ?_
    refine AWops.guard_no rfl (nl rfl) rfl c2 ?_
    refine s_pick_yes (d := (sc (.bool true))) rfl c2 rfl (AWops.nil ?_)
    refine AW.cond_yes rfl rfl (AW.seq (AW.region ?_))
    refine s_assign (d := (sc (.int .i64 0))) rfl ?_
    refine s_assign (d := (sc (.int .i64 5))) rfl (AWops.nil (AW.ret ?_))
    obtain rfl := Option.some.inj h
    exact ⟨_, rfl, (Weak.gen (kk := 0) [] [] rfl rfl (by decide) (by decide) rfl rfl rfl (le_upd (le_top _) (DLe.tup (ac (TLe.one .sc) (ac (TLe.one .sc) an)))) an)⟩
   ·refine AWops.guard_yes rfl (nl rfl) rfl c2 ?_
    refine s_move (d := (sc (.string x1))) rfl ?_
    refine AWops.guard_yes rfl (nl rfl) rfl c2 ?_
    obtain ⟨v3, ev3, h⟩ := bnd h
    obtain ⟨pv3, bv3, gv3, rfl⟩ := bt_some ev3
    refine s_indexStr F.u_9 rfl rfl pv3 gv3 ?_
    generalize hzv3 : ((bv3.toNat : Nat) : Int) = v3 at *
    refine AWops.guard_yes rfl (nl rfl) rfl c2 ?_
    refine s_binI (v := (.bool (v3 == 48))) rfl rfl rfl ?_
    refine AWops.guard_yes rfl (nl rfl) rfl c2 ?_
    refine s_move (d := (sc (.bool (v3 == 48)))) rfl ?_
    rcases itH h with ⟨c4, h⟩ | ⟨c4, h⟩
    ·refine AWops.guard_yes rfl (nl rfl) rfl c4 ?_
     refine s_move (d := (sc (.string a0))) rfl ?_
     refine AWops.guard_yes rfl (nl rfl) rfl c4 ?_
     refine s_len (n := a0.size) F.u_9 rfl (.inl ⟨⟨_, _, rfl⟩, rfl⟩) ?_
     refine AWops.guard_yes rfl (nl rfl) rfl c4 ?_
     refine s_binI (v := (.bool (decide ((a0.size : Int) > 1)))) rfl rfl rfl ?_
     refine AWops.guard_yes rfl (nl rfl) rfl c2 ?_
     refine s_pick_yes (d := (sc (.bool (decide ((a0.size : Int) > 1))))) rfl c4 rfl ?_
     refine s_pick_no (d := (sc (.bool (decide ((a0.size : Int) > 1))))) rfl c2 rfl (AWops.nil ?_)
     rcases itH h with ⟨c5, h⟩ | ⟨c5, h⟩
     ·refine AW.cond_yes rfl c5 (AW.seq (AW.region ?_))
      refine s_assign (d := (sc (.int .i64 0))) rfl ?_
      refine s_assign (d := (sc (.int .i64 5))) rfl (AWops.nil (AW.ret ?_))
      obtain rfl := Option.some.inj h
      exact ⟨_, rfl, (Weak.gen (kk := 0) [] [] rfl rfl (by decide) (by decide) rfl rfl rfl (le_upd (le_top _) (DLe.tup (ac (TLe.one .sc) (ac (TLe.one .sc) an)))) an)⟩
     ·refine AW.cond_no rfl c5 (AW.skip (AW.seq (AW.seq (AW.region ?_))))
      refine s_move (d := (sc (.string x1))) rfl ?_
      refine s_len (n := x1.size) F.u_9 rfl (.inl ⟨⟨_, _, rfl⟩, rfl⟩) ?_
      refine s_move (d := (sc (.int .i64 0))) rfl (AWops.nil (AW.block ?_))
      refine AW.loopw (st0 := ⟨77, (upd 77 (upd 77 (upd 77 (upd 77 topF 0 (sc (.string a0))) 4 (sc (.string x1))) 33 (sc (.int .i64 (x1.size : Int)))) 34 (sc (.int .i64 0))), []⟩) (fun kv st => kv ≤ qj0 ∧ ∃ (x6 : Int), dossierref01_Number.l1 kv x6 a0 x1 = some r ∧ st = ⟨77, (upd 77 (upd 77 (upd 77 (upd 77 topF 0 (sc (.string a0))) 4 (sc (.string x1))) 33 (sc (.int .i64 (x1.size : Int)))) 34 (sc (.int .i64 x6))), []⟩) (k := qj0) (Weak.gen (kk := 0) [] [] hx rfl (by decide) (by decide) rfl rfl rfl (le_upd (le_upd (le_upd (le_upd (le_top _) (.t (.one .sc))) (.t (.one .sc))) (.t (.one .sc))) (.t (.one .sc))) an) ⟨Nat.le_refl _, 0, h, rfl⟩ ?_
      rintro ql1 st ⟨hkl1, x6, h, rfl⟩
      cases ql1 with
      | zero => exact absurd h (by simp [dossierref01_Number.l1])
      | succ ql1 =>
       replace h := (dossierref01_Number.l1.eq_2 _ _ _ _).symm.trans h
       refine AW.seq (AW.region ?_)
       refine s_binI (v := (.bool (decide (x6 < (x1.size : Int))))) rfl rfl rfl (AWops.nil (AW.seq ?_))
       rcases itH h with ⟨c7, h⟩ | ⟨c7, h⟩
       ·refine AW.cond_yes rfl c7 (AW.skip (AW.seq (AW.block (AW.seq (AW.region ?_)))))
        refine s_move (d := (sc (.int .i64 x6))) rfl ?_
        refine s_assign (d := (sc (.int .i64 x6))) rfl (AWops.nil (AW.seq (AW.region ?_)))
        refine s_move (d := (sc (.string x1))) rfl ?_
        refine s_move (d := (sc (.int .i64 x6))) rfl ?_
        obtain ⟨v8, ev8, h⟩ := bnd h
        obtain ⟨pv8, bv8, gv8, rfl⟩ := bt_some ev8
        refine s_indexStr F.u_9 rfl rfl pv8 gv8 ?_
        generalize hzv8 : ((bv8.toNat : Nat) : Int) = v8 at *
        refine s_binI (v := (.bool (decide (v8 < 48)))) rfl rfl rfl ?_
        refine s_move (d := (sc (.bool (decide (v8 < 48))))) rfl ?_
        rcases itH h with ⟨c9, h⟩ | ⟨c9, h⟩
        ·iterate 4 refine AWops.guard_no rfl (nl rfl) rfl c9 ?_
         refine s_pick_yes (d := (sc (.bool true))) rfl c9 rfl (AWops.nil ?_)
         refine AW.cond_yes rfl rfl (AW.seq (AW.region ?_))
         refine s_assign (d := (sc (.int .i64 0))) rfl ?_
         refine s_assign (d := (sc (.int .i64 5))) rfl (AWops.nil (AW.ret ?_))
         obtain rfl := Option.some.inj h
         exact ⟨_, rfl, (Weak.gen (kk := 0) [] [] rfl rfl (by decide) (by decide) rfl rfl rfl (le_upd (le_top _) (DLe.tup (ac (TLe.one .sc) (ac (TLe.one .sc) an)))) an)⟩
        ·refine AWops.guard_yes rfl (nl rfl) rfl c9 ?_
         refine s_move (d := (sc (.string x1))) rfl ?_
         refine AWops.guard_yes rfl (nl rfl) rfl c9 ?_
         refine s_move (d := (sc (.int .i64 x6))) rfl ?_
         refine AWops.guard_yes rfl (nl rfl) rfl c9 ?_
         obtain ⟨v10, ev10, h⟩ := bnd h
         obtain ⟨pv10, bv10, gv10, rfl⟩ := bt_some ev10
         refine s_indexStr F.u_9 rfl rfl pv10 gv10 ?_
         generalize hzv10 : ((bv10.toNat : Nat) : Int) = v10 at *
         refine AWops.guard_yes rfl (nl rfl) rfl c9 ?_
         refine s_binI (v := (.bool (decide (v10 > 57)))) rfl rfl rfl ?_
         refine s_pick_no (d := (sc (.bool (decide (v10 > 57))))) rfl c9 rfl (AWops.nil ?_)
         rcases itH h with ⟨c11, h⟩ | ⟨c11, h⟩
         ·refine AW.cond_yes rfl c11 (AW.seq (AW.region ?_))
          refine s_assign (d := (sc (.int .i64 0))) rfl ?_
          refine s_assign (d := (sc (.int .i64 5))) rfl (AWops.nil (AW.ret ?_))
          obtain rfl := Option.some.inj h
          exact ⟨_, rfl, (Weak.gen (kk := 0) [] [] rfl rfl (by decide) (by decide) rfl rfl rfl (le_upd (le_top _) (DLe.tup (ac (TLe.one .sc) (ac (TLe.one .sc) an)))) an)⟩
         ·refine AW.cond_no rfl c11 (AW.skip (AW.region ?_))
          refine s_binI (v := (.int .i64 (IntKind.i64.wrap (x6 + 1)))) rfl rfl rfl ?_
          refine s_move (d := (sc (.int .i64 (IntKind.i64.wrap (x6 + 1))))) rfl (AWops.nil ?_)
          exact ⟨_, ⟨77, (upd 77 (upd 77 (upd 77 (upd 77 topF 0 (sc (.string a0))) 4 (sc (.string x1))) 33 (sc (.int .i64 (x1.size : Int)))) 34 (sc (.int .i64 (IntKind.i64.wrap (x6 + 1))))), []⟩, by omega, (Weak.gen (kk := 0) [] [] hx rfl (by decide) (by decide) rfl rfl rfl (le_upd (le_upd (le_upd (le_upd (le_top _) (.t (.one .sc))) (.t (.one .sc))) (.t (.one .sc))) (.t (.one .sc))) an), by omega, IntKind.i64.wrap (x6 + 1), h, rfl⟩
       ·refine AW.cond_no rfl c7 (AW.exit (AW.seq (AW.seq (AW.region ?_))))
        refine s_move (d := (sc (.string x1))) rfl ?_
        refine s_len (n := x1.size) F.u_9 rfl (.inl ⟨⟨_, _, rfl⟩, rfl⟩) ?_
        refine s_binI (v := (.bool (decide ((x1.size : Int) > 19)))) rfl rfl rfl (AWops.nil ?_)
        rcases itH h with ⟨c12, h⟩ | ⟨c12, h⟩
        ·refine AW.cond_yes rfl c12 (AW.seq (AW.region ?_))
         refine s_assign (d := (sc (.int .i64 0))) rfl ?_
         refine s_assign (d := (sc (.int .i64 4))) rfl (AWops.nil (AW.ret ?_))
         obtain rfl := Option.some.inj h
         exact ⟨_, rfl, (Weak.gen (kk := 0) [] [] rfl rfl (by decide) (by decide) rfl rfl rfl (le_upd (le_top _) (DLe.tup (ac (TLe.one .sc) (ac (TLe.one .sc) an)))) an)⟩
        ·refine AW.cond_no rfl c12 (AW.skip (AW.seq (AW.region ?_)))
         refine s_assign (d := (sc (.int .i64 0))) rfl (AWops.nil (AW.seq (AW.seq (AW.region ?_))))
         refine s_move (d := (sc (.string x1))) rfl ?_
         refine s_len (n := x1.size) F.u_9 rfl (.inl ⟨⟨_, _, rfl⟩, rfl⟩) ?_
         refine s_move (d := (sc (.int .i64 0))) rfl (AWops.nil (AW.block ?_))
         refine AW.loopw (st0 := ⟨77, (upd 77 (upd 77 (upd 77 (upd 77 (upd 77 topF 0 (sc (.string a0))) 4 (sc (.string x1))) 6 (sc (.int .i64 0))) 52 (sc (.int .i64 (x1.size : Int)))) 53 (sc (.int .i64 0))), []⟩) (fun kv st => kv ≤ ql1 ∧ ∃ (x13 : Int) (x14 : Int), dossierref01_Number.l2 kv x13 x14 a0 x1 = some r ∧ st = ⟨77, (upd 77 (upd 77 (upd 77 (upd 77 (upd 77 topF 0 (sc (.string a0))) 4 (sc (.string x1))) 6 (sc (.int .i64 x13))) 52 (sc (.int .i64 (x1.size : Int)))) 53 (sc (.int .i64 x14))), []⟩) (k := ql1) (Weak.gen (kk := 0) [] [] hx rfl (by decide) (by decide) rfl rfl rfl (le_upd (le_upd (le_upd (le_upd (le_upd (le_top _) (.t (.one .sc))) (.t (.one .sc))) (.t (.one .sc))) (.t (.one .sc))) (.t (.one .sc))) an) ⟨Nat.le_refl _, 0, 0, h, rfl⟩ ?_
         rintro ql2 st ⟨hkl2, x13, x14, h, rfl⟩
         cases ql2 with
         | zero => exact absurd h (by simp [dossierref01_Number.l2])
         | succ ql2 =>
          replace h := (dossierref01_Number.l2.eq_2 _ _ _ _ _).symm.trans h
          refine AW.seq (AW.region ?_)
          refine s_binI (v := (.bool (decide (x14 < (x1.size : Int))))) rfl rfl rfl (AWops.nil (AW.seq ?_))
          rcases itH h with ⟨c15, h⟩ | ⟨c15, h⟩
          ·refine AW.cond_yes rfl c15 (AW.skip (AW.seq (AW.block (AW.seq (AW.region ?_)))))
           refine s_move (d := (sc (.int .i64 x14))) rfl ?_
           refine s_assign (d := (sc (.int .i64 x14))) rfl (AWops.nil (AW.region ?_))
           refine s_move (d := (sc (.int .i64 x13))) rfl ?_
           refine s_binI (v := (.int .i64 (IntKind.i64.wrap (10 * x13)))) rfl rfl rfl ?_
           refine s_move (d := (sc (.string x1))) rfl ?_
           refine s_move (d := (sc (.int .i64 x14))) rfl ?_
           obtain ⟨v16, ev16, h⟩ := bnd h
           obtain ⟨pv16, bv16, gv16, rfl⟩ := bt_some ev16
           refine s_indexStr F.u_9 rfl rfl pv16 gv16 ?_
           generalize hzv16 : ((bv16.toNat : Nat) : Int) = v16 at *
           refine s_binI (v := (.int .u8 (IntKind.u8.wrap (v16 - 48)))) rfl rfl rfl ?_
           refine s_convI F.u_5 F.u_3 rfl ?_
           refine s_binI (v := (.int .i64 (IntKind.i64.wrap ((IntKind.i64.wrap (10 * x13)) - (IntKind.i64.wrap (IntKind.u8.wrap (v16 - 48))))))) rfl rfl rfl ?_
           refine s_assign (d := (sc (.int .i64 (IntKind.i64.wrap ((IntKind.i64.wrap (10 * x13)) - (IntKind.i64.wrap (IntKind.u8.wrap (v16 - 48)))))))) rfl (AWops.nil (AW.region ?_))
           refine s_binI (v := (.int .i64 (IntKind.i64.wrap (x14 + 1)))) rfl rfl rfl ?_
           refine s_move (d := (sc (.int .i64 (IntKind.i64.wrap (x14 + 1))))) rfl (AWops.nil ?_)
           exact ⟨_, ⟨77, (upd 77 (upd 77 (upd 77 (upd 77 (upd 77 topF 0 (sc (.string a0))) 4 (sc (.string x1))) 6 (sc (.int .i64 (IntKind.i64.wrap ((IntKind.i64.wrap (10 * x13)) - (IntKind.i64.wrap (IntKind.u8.wrap (v16 - 48)))))))) 52 (sc (.int .i64 (x1.size : Int)))) 53 (sc (.int .i64 (IntKind.i64.wrap (x14 + 1))))), []⟩, by omega, (Weak.gen (kk := 0) [] [] hx rfl (by decide) (by decide) rfl rfl rfl (le_upd (le_upd (le_upd (le_upd (le_upd (le_top _) (.t (.one .sc))) (.t (.one .sc))) (.t (.one .sc))) (.t (.one .sc))) (.t (.one .sc))) an), by omega, IntKind.i64.wrap ((IntKind.i64.wrap (10 * x13)) - (IntKind.i64.wrap (IntKind.u8.wrap (v16 - 48)))), IntKind.i64.wrap (x14 + 1), h, rfl⟩
          ·refine AW.cond_no rfl c15 (AW.exit ?_)
           refine AW.seqJ (fun st => ∃ (x17 : Int), dossierref01_Number.j3 ql2 x17 a0 = some r ∧ st = ⟨77, (upd 77 (upd 77 topF 0 (sc (.string a0))) 6 (sc (.int .i64 x17))), []⟩) ?_ ?_
           ·refine AW.seq (AW.region ?_)
            refine s_move (d := (sc (.string x1))) rfl ?_
            refine s_len (n := x1.size) F.u_9 rfl (.inl ⟨⟨_, _, rfl⟩, rfl⟩) ?_
            refine s_move (d := (sc (.string a0))) rfl ?_
            refine s_len (n := a0.size) F.u_9 rfl (.inl ⟨⟨_, _, rfl⟩, rfl⟩) ?_
            refine s_binI (v := (.bool ((x1.size : Int) == (a0.size : Int)))) rfl rfl rfl (AWops.nil ?_)
            rcases itH h with ⟨c17, h⟩ | ⟨c17, h⟩
            ·refine AW.cond_yes rfl c17 (AW.region ?_)
             refine s_move (d := (sc (.int .i64 x13))) rfl ?_
             refine s_unI (v := (.int .i64 (IntKind.i64.wrap (0 - x13)))) rfl rfl ?_
             refine s_assign (d := (sc (.int .i64 (IntKind.i64.wrap (0 - x13))))) rfl (AWops.nil ?_)
             exact ⟨⟨77, (upd 77 (upd 77 topF 0 (sc (.string a0))) 6 (sc (.int .i64 (IntKind.i64.wrap (0 - x13))))), []⟩, (Weak.gen (kk := 0) [] [] hx rfl (by decide) (by decide) rfl rfl rfl (le_upd (le_upd (le_top _) (.t (.one .sc))) (.t (.one .sc))) an), IntKind.i64.wrap (0 - x13), h, rfl⟩
            ·refine AW.cond_no rfl c17 (AW.skip ?_)
             exact ⟨⟨77, (upd 77 (upd 77 topF 0 (sc (.string a0))) 6 (sc (.int .i64 x13))), []⟩, (Weak.gen (kk := 0) [] [] hx rfl (by decide) (by decide) rfl rfl rfl (le_upd (le_upd (le_top _) (.t (.one .sc))) (.t (.one .sc))) an), x13, h, rfl⟩
           ·rintro st ⟨x17, h, rfl⟩
            cases ql2 with
            | zero => exact absurd h (by simp [dossierref01_Number.j3])
            | succ qj3 =>
             replace h := (dossierref01_Number.j3.eq_2 _ _ _).symm.trans h
             refine AW.seq (AW.seq (AW.region ?_))
             refine s_move (d := (sc (.int .i64 x17))) rfl ?_
             obtain ⟨r18, er18, h⟩ := bnd h
             refine s_call2 (ρ := []) (br := false) (H2 := []) (d := (sc (.string r18))) F.ca_55 rfl rfl (ac (.one .sc) an) an (by decide) rfl (dossierref01_Text.meets _ x17 r18 er18) (.inl rfl) rfl rfl ?_
             refine s_move (d := (sc (.string a0))) rfl ?_
             refine s_binS (v := (.bool (!(r18.toList == a0.toList)))) rfl rfl rfl (AWops.nil ?_)
             rcases itH h with ⟨c19, h⟩ | ⟨c19, h⟩
             ·refine AW.cond_no rfl (by rw [c19] <;> rfl) (AW.skip (AW.seq (AW.region ?_)))
              refine s_move (d := (sc (.int .i64 x17))) rfl ?_
              refine s_assign (d := (sc (.int .i64 x17))) rfl ?_
              refine s_assign (d := (sc (.int .i64 0))) rfl (AWops.nil (AW.ret ?_))
              obtain rfl := Option.some.inj h
              exact ⟨_, rfl, (Weak.gen (kk := 0) [] [] rfl rfl (by decide) (by decide) rfl rfl rfl (le_upd (le_top _) (DLe.tup (ac (TLe.one .sc) (ac (TLe.one .sc) an)))) an)⟩
             ·refine AW.cond_yes rfl (by rw [c19] <;> rfl) (AW.seq (AW.region ?_))
              refine s_assign (d := (sc (.int .i64 0))) rfl ?_
              refine s_assign (d := (sc (.int .i64 4))) rfl (AWops.nil (AW.ret ?_))
              obtain rfl := Option.some.inj h
              exact ⟨_, rfl, (Weak.gen (kk := 0) [] [] rfl rfl (by decide) (by decide) rfl rfl rfl (le_upd (le_top _) (DLe.tup (ac (TLe.one .sc) (ac (TLe.one .sc) an)))) an)⟩
    ·iterate 3 refine AWops.guard_no rfl (nl rfl) rfl c4 ?_
     refine AWops.guard_yes rfl (nl rfl) rfl c2 ?_
     refine s_pick_no (d := (sc (.bool false))) rfl c4 rfl ?_
     refine s_pick_no (d := (sc (.bool false))) rfl c2 rfl (AWops.nil ?_)
     refine AW.cond_no rfl rfl (AW.skip (AW.seq (AW.seq (AW.region ?_))))
     refine s_move (d := (sc (.string x1))) rfl ?_
     refine s_len (n := x1.size) F.u_9 rfl (.inl ⟨⟨_, _, rfl⟩, rfl⟩) ?_
     refine s_move (d := (sc (.int .i64 0))) rfl (AWops.nil (AW.block ?_))
     refine AW.loopw (st0 := ⟨77, (upd 77 (upd 77 (upd 77 (upd 77 topF 0 (sc (.string a0))) 4 (sc (.string x1))) 33 (sc (.int .i64 (x1.size : Int)))) 34 (sc (.int .i64 0))), []⟩) (fun kv st => kv ≤ qj0 ∧ ∃ (x20 : Int), dossierref01_Number.l4 kv x20 a0 x1 = some r ∧ st = ⟨77, (upd 77 (upd 77 (upd 77 (upd 77 topF 0 (sc (.string a0))) 4 (sc (.string x1))) 33 (sc (.int .i64 (x1.size : Int)))) 34 (sc (.int .i64 x20))), []⟩) (k := qj0) (Weak.gen (kk := 0) [] [] hx rfl (by decide) (by decide) rfl rfl rfl (le_upd (le_upd (le_upd (le_upd (le_top _) (.t (.one .sc))) (.t (.one .sc))) (.t (.one .sc))) (.t (.one .sc))) an) ⟨Nat.le_refl _, 0, h, rfl⟩ ?_
     rintro ql4 st ⟨hkl4, x20, h, rfl⟩
     cases ql4 with
     | zero => exact absurd h (by simp [dossierref01_Number.l4])
     | succ ql4 =>
      replace h := (dossierref01_Number.l4.eq_2 _ _ _ _).symm.trans h
      refine AW.seq (AW.region ?_)
      refine s_binI (v := (.bool (decide (x20 < (x1.size : Int))))) rfl rfl rfl (AWops.nil (AW.seq ?_))
      rcases itH h with ⟨c21, h⟩ | ⟨c21, h⟩
      ·refine AW.cond_yes rfl c21 (AW.skip (AW.seq (AW.block (AW.seq (AW.region ?_)))))
       refine s_move (d := (sc (.int .i64 x20))) rfl ?_
       refine s_assign (d := (sc (.int .i64 x20))) rfl (AWops.nil (AW.seq (AW.region ?_)))
       refine s_move (d := (sc (.string x1))) rfl ?_
       refine s_move (d := (sc (.int .i64 x20))) rfl ?_
       obtain ⟨v22, ev22, h⟩ := bnd h
       obtain ⟨pv22, bv22, gv22, rfl⟩ := bt_some ev22
       refine s_indexStr F.u_9 rfl rfl pv22 gv22 ?_
       generalize hzv22 : ((bv22.toNat : Nat) : Int) = v22 at *
       refine s_binI (v := (.bool (decide (v22 < 48)))) rfl rfl rfl ?_
       refine s_move (d := (sc (.bool (decide (v22 < 48))))) rfl ?_
       rcases itH h with ⟨c23, h⟩ | ⟨c23, h⟩
       ·iterate 4 refine AWops.guard_no rfl (nl rfl) rfl c23 ?_
        refine s_pick_yes (d := (sc (.bool true))) rfl c23 rfl (AWops.nil ?_)
        refine AW.cond_yes rfl rfl (AW.seq (AW.region ?_))
        refine s_assign (d := (sc (.int .i64 0))) rfl ?_
        refine s_assign (d := (sc (.int .i64 5))) rfl (AWops.nil (AW.ret ?_))
        obtain rfl := Option.some.inj h
        exact ⟨_, rfl, (Weak.gen (kk := 0) [] [] rfl rfl (by decide) (by decide) rfl rfl rfl (le_upd (le_top _) (DLe.tup (ac (TLe.one .sc) (ac (TLe.one .sc) an)))) an)⟩
       ·refine AWops.guard_yes rfl (nl rfl) rfl c23 ?_
        refine s_move (d := (sc (.string x1))) rfl ?_
        refine AWops.guard_yes rfl (nl rfl) rfl c23 ?_
        refine s_move (d := (sc (.int .i64 x20))) rfl ?_
        refine AWops.guard_yes rfl (nl rfl) rfl c23 ?_
        obtain ⟨v24, ev24, h⟩ := bnd h
        obtain ⟨pv24, bv24, gv24, rfl⟩ := bt_some ev24
        refine s_indexStr F.u_9 rfl rfl pv24 gv24 ?_
        generalize hzv24 : ((bv24.toNat : Nat) : Int) = v24 at *
        refine AWops.guard_yes rfl (nl rfl) rfl c23 ?_
        refine s_binI (v := (.bool (decide (v24 > 57)))) rfl rfl rfl ?_
        refine s_pick_no (d := (sc (.bool (decide (v24 > 57))))) rfl c23 rfl (AWops.nil ?_)
        rcases itH h with ⟨c25, h⟩ | ⟨c25, h⟩
        ·refine AW.cond_yes rfl c25 (AW.seq (AW.region ?_))
         refine s_assign (d := (sc (.int .i64 0))) rfl ?_
         refine s_assign (d := (sc (.int .i64 5))) rfl (AWops.nil (AW.ret ?_))
         obtain rfl := Option.some.inj h
         exact ⟨_, rfl, (Weak.gen (kk := 0) [] [] rfl rfl (by decide) (by decide) rfl rfl rfl (le_upd (le_top _) (DLe.tup (ac (TLe.one .sc) (ac (TLe.one .sc) an)))) an)⟩
        ·refine AW.cond_no rfl c25 (AW.skip (AW.region ?_))
         refine s_binI (v := (.int .i64 (IntKind.i64.wrap (x20 + 1)))) rfl rfl rfl ?_
         refine s_move (d := (sc (.int .i64 (IntKind.i64.wrap (x20 + 1))))) rfl (AWops.nil ?_)
         exact ⟨_, ⟨77, (upd 77 (upd 77 (upd 77 (upd 77 topF 0 (sc (.string a0))) 4 (sc (.string x1))) 33 (sc (.int .i64 (x1.size : Int)))) 34 (sc (.int .i64 (IntKind.i64.wrap (x20 + 1))))), []⟩, by omega, (Weak.gen (kk := 0) [] [] hx rfl (by decide) (by decide) rfl rfl rfl (le_upd (le_upd (le_upd (le_upd (le_top _) (.t (.one .sc))) (.t (.one .sc))) (.t (.one .sc))) (.t (.one .sc))) an), by omega, IntKind.i64.wrap (x20 + 1), h, rfl⟩
      ·refine AW.cond_no rfl c21 (AW.exit (AW.seq (AW.seq (AW.region ?_))))
       refine s_move (d := (sc (.string x1))) rfl ?_
       refine s_len (n := x1.size) F.u_9 rfl (.inl ⟨⟨_, _, rfl⟩, rfl⟩) ?_
       refine s_binI (v := (.bool (decide ((x1.size : Int) > 19)))) rfl rfl rfl (AWops.nil ?_)
       rcases itH h with ⟨c26, h⟩ | ⟨c26, h⟩
       ·refine AW.cond_yes rfl c26 (AW.seq (AW.region ?_))
        refine s_assign (d := (sc (.int .i64 0))) rfl ?_
        refine s_assign (d := (sc (.int .i64 4))) rfl (AWops.nil (AW.ret ?_))
        obtain rfl := Option.some.inj h
        exact ⟨_, rfl, (Weak.gen (kk := 0) [] [] rfl rfl (by decide) (by decide) rfl rfl rfl (le_upd (le_top _) (DLe.tup (ac (TLe.one .sc) (ac (TLe.one .sc) an)))) an)⟩
       ·refine AW.cond_no rfl c26 (AW.skip (AW.seq (AW.region ?_)))
        refine s_assign (d := (sc (.int .i64 0))) rfl (AWops.nil (AW.seq (AW.seq (AW.region ?_))))
        refine s_move (d := (sc (.string x1))) rfl ?_
        refine s_len (n := x1.size) F.u_9 rfl (.inl ⟨⟨_, _, rfl⟩, rfl⟩) ?_
        refine s_move (d := (sc (.int .i64 0))) rfl (AWops.nil (AW.block ?_))
        refine AW.loopw (st0 := ⟨77, (upd 77 (upd 77 (upd 77 (upd 77 (upd 77 topF 0 (sc (.string a0))) 4 (sc (.string x1))) 6 (sc (.int .i64 0))) 52 (sc (.int .i64 (x1.size : Int)))) 53 (sc (.int .i64 0))), []⟩) (fun kv st => kv ≤ ql4 ∧ ∃ (x27 : Int) (x28 : Int), dossierref01_Number.l5 kv x27 x28 a0 x1 = some r ∧ st = ⟨77, (upd 77 (upd 77 (upd 77 (upd 77 (upd 77 topF 0 (sc (.string a0))) 4 (sc (.string x1))) 6 (sc (.int .i64 x27))) 52 (sc (.int .i64 (x1.size : Int)))) 53 (sc (.int .i64 x28))), []⟩) (k := ql4) (Weak.gen (kk := 0) [] [] hx rfl (by decide) (by decide) rfl rfl rfl (le_upd (le_upd (le_upd (le_upd (le_upd (le_top _) (.t (.one .sc))) (.t (.one .sc))) (.t (.one .sc))) (.t (.one .sc))) (.t (.one .sc))) an) ⟨Nat.le_refl _, 0, 0, h, rfl⟩ ?_
        rintro ql5 st ⟨hkl5, x27, x28, h, rfl⟩
        cases ql5 with
        | zero => exact absurd h (by simp [dossierref01_Number.l5])
        | succ ql5 =>
         replace h := (dossierref01_Number.l5.eq_2 _ _ _ _ _).symm.trans h
         refine AW.seq (AW.region ?_)
         refine s_binI (v := (.bool (decide (x28 < (x1.size : Int))))) rfl rfl rfl (AWops.nil (AW.seq ?_))
         rcases itH h with ⟨c29, h⟩ | ⟨c29, h⟩
         ·refine AW.cond_yes rfl c29 (AW.skip (AW.seq (AW.block (AW.seq (AW.region ?_)))))
          refine s_move (d := (sc (.int .i64 x28))) rfl ?_
          refine s_assign (d := (sc (.int .i64 x28))) rfl (AWops.nil (AW.region ?_))
          refine s_move (d := (sc (.int .i64 x27))) rfl ?_
          refine s_binI (v := (.int .i64 (IntKind.i64.wrap (10 * x27)))) rfl rfl rfl ?_
          refine s_move (d := (sc (.string x1))) rfl ?_
          refine s_move (d := (sc (.int .i64 x28))) rfl ?_
          obtain ⟨v30, ev30, h⟩ := bnd h
          obtain ⟨pv30, bv30, gv30, rfl⟩ := bt_some ev30
          refine s_indexStr F.u_9 rfl rfl pv30 gv30 ?_
          generalize hzv30 : ((bv30.toNat : Nat) : Int) = v30 at *
          refine s_binI (v := (.int .u8 (IntKind.u8.wrap (v30 - 48)))) rfl rfl rfl ?_
          refine s_convI F.u_5 F.u_3 rfl ?_
          refine s_binI (v := (.int .i64 (IntKind.i64.wrap ((IntKind.i64.wrap (10 * x27)) - (IntKind.i64.wrap (IntKind.u8.wrap (v30 - 48))))))) rfl rfl rfl ?_
          refine s_assign (d := (sc (.int .i64 (IntKind.i64.wrap ((IntKind.i64.wrap (10 * x27)) - (IntKind.i64.wrap (IntKind.u8.wrap (v30 - 48)))))))) rfl (AWops.nil (AW.region ?_))
          refine s_binI (v := (.int .i64 (IntKind.i64.wrap (x28 + 1)))) rfl rfl rfl ?_
          refine s_move (d := (sc (.int .i64 (IntKind.i64.wrap (x28 + 1))))) rfl (AWops.nil ?_)
          exact ⟨_, ⟨77, (upd 77 (upd 77 (upd 77 (upd 77 (upd 77 topF 0 (sc (.string a0))) 4 (sc (.string x1))) 6 (sc (.int .i64 (IntKind.i64.wrap ((IntKind.i64.wrap (10 * x27)) - (IntKind.i64.wrap (IntKind.u8.wrap (v30 - 48)))))))) 52 (sc (.int .i64 (x1.size : Int)))) 53 (sc (.int .i64 (IntKind.i64.wrap (x28 + 1))))), []⟩, by omega, (Weak.gen (kk := 0) [] [] hx rfl (by decide) (by decide) rfl rfl rfl (le_upd (le_upd (le_upd (le_upd (le_upd (le_top _) (.t (.one .sc))) (.t (.one .sc))) (.t (.one .sc))) (.t (.one .sc))) (.t (.one .sc))) an), by omega, IntKind.i64.wrap ((IntKind.i64.wrap (10 * x27)) - (IntKind.i64.wrap (IntKind.u8.wrap (v30 - 48)))), IntKind.i64.wrap (x28 + 1), h, rfl⟩
         ·refine AW.cond_no rfl c29 (AW.exit ?_)
          refine AW.seqJ (fun st => ∃ (x31 : Int), dossierref01_Number.j6 ql5 x31 a0 = some r ∧ st = ⟨77, (upd 77 (upd 77 topF 0 (sc (.string a0))) 6 (sc (.int .i64 x31))), []⟩) ?_ ?_
          ·refine AW.seq (AW.region ?_)
           refine s_move (d := (sc (.string x1))) rfl ?_
           refine s_len (n := x1.size) F.u_9 rfl (.inl ⟨⟨_, _, rfl⟩, rfl⟩) ?_
           refine s_move (d := (sc (.string a0))) rfl ?_
           refine s_len (n := a0.size) F.u_9 rfl (.inl ⟨⟨_, _, rfl⟩, rfl⟩) ?_
           refine s_binI (v := (.bool ((x1.size : Int) == (a0.size : Int)))) rfl rfl rfl (AWops.nil ?_)
           rcases itH h with ⟨c31, h⟩ | ⟨c31, h⟩
           ·refine AW.cond_yes rfl c31 (AW.region ?_)
            refine s_move (d := (sc (.int .i64 x27))) rfl ?_
            refine s_unI (v := (.int .i64 (IntKind.i64.wrap (0 - x27)))) rfl rfl ?_
            refine s_assign (d := (sc (.int .i64 (IntKind.i64.wrap (0 - x27))))) rfl (AWops.nil ?_)
            exact ⟨⟨77, (upd 77 (upd 77 topF 0 (sc (.string a0))) 6 (sc (.int .i64 (IntKind.i64.wrap (0 - x27))))), []⟩, (Weak.gen (kk := 0) [] [] hx rfl (by decide) (by decide) rfl rfl rfl (le_upd (le_upd (le_top _) (.t (.one .sc))) (.t (.one .sc))) an), IntKind.i64.wrap (0 - x27), h, rfl⟩
           ·refine AW.cond_no rfl c31 (AW.skip ?_)
            exact ⟨⟨77, (upd 77 (upd 77 topF 0 (sc (.string a0))) 6 (sc (.int .i64 x27))), []⟩, (Weak.gen (kk := 0) [] [] hx rfl (by decide) (by decide) rfl rfl rfl (le_upd (le_upd (le_top _) (.t (.one .sc))) (.t (.one .sc))) an), x27, h, rfl⟩
          ·rintro st ⟨x31, h, rfl⟩
           cases ql5 with
           | zero => exact absurd h (by simp [dossierref01_Number.j6])
           | succ qj6 =>
            replace h := (dossierref01_Number.j6.eq_2 _ _ _).symm.trans h
            refine AW.seq (AW.seq (AW.region ?_))
            refine s_move (d := (sc (.int .i64 x31))) rfl ?_
            obtain ⟨r32, er32, h⟩ := bnd h
            refine s_call2 (ρ := []) (br := false) (H2 := []) (d := (sc (.string r32))) F.ca_55 rfl rfl (ac (.one .sc) an) an (by decide) rfl (dossierref01_Text.meets _ x31 r32 er32) (.inl rfl) rfl rfl ?_
            refine s_move (d := (sc (.string a0))) rfl ?_
            refine s_binS (v := (.bool (!(r32.toList == a0.toList)))) rfl rfl rfl (AWops.nil ?_)
            rcases itH h with ⟨c33, h⟩ | ⟨c33, h⟩
            ·refine AW.cond_no rfl (by rw [c33] <;> rfl) (AW.skip (AW.seq (AW.region ?_)))
             refine s_move (d := (sc (.int .i64 x31))) rfl ?_
             refine s_assign (d := (sc (.int .i64 x31))) rfl ?_
             refine s_assign (d := (sc (.int .i64 0))) rfl (AWops.nil (AW.ret ?_))
             obtain rfl := Option.some.inj h
             exact ⟨_, rfl, (Weak.gen (kk := 0) [] [] rfl rfl (by decide) (by decide) rfl rfl rfl (le_upd (le_top _) (DLe.tup (ac (TLe.one .sc) (ac (TLe.one .sc) an)))) an)⟩
            ·refine AW.cond_yes rfl (by rw [c33] <;> rfl) (AW.seq (AW.region ?_))
             refine s_assign (d := (sc (.int .i64 0))) rfl ?_
             refine s_assign (d := (sc (.int .i64 4))) rfl (AWops.nil (AW.ret ?_))
             obtain rfl := Option.some.inj h
             exact ⟨_, rfl, (Weak.gen (kk := 0) [] [] rfl rfl (by decide) (by decide) rfl rfl rfl (le_upd (le_top _) (DLe.tup (ac (TLe.one .sc) (ac (TLe.one .sc) an)))) an)⟩
def dossierref18_part.f (k : Nat) (a0 : ByteArray) : Option (ByteArray × Int) := (dossierref18_last.f k a0 46).bind fun r1 => if (decide (r1 < 1)) = true then (some ((⟨#[]⟩ : ByteArray), 0)) else (if (decide (0 ≤ (IntKind.i64.wrap (r1 + 1)) ∧ (IntKind.i64.wrap (r1 + 1)) ≤ (a0.size : Int) ∧ (a0.size : Int) ≤ (a0.size : Int))) = true then ((dossierref01_Number.f k (a0.extract (IntKind.i64.wrap (r1 + 1)).toNat a0.size)).bind fun r4 => if (r4.2 != 0) = true then (some ((⟨#[]⟩ : ByteArray), 0)) else (if (decide (r4.1 < 1)) = true then (some ((⟨#[]⟩ : ByteArray), 0)) else (if (decide (0 ≤ 0 ∧ 0 ≤ r1 ∧ r1 ≤ (a0.size : Int))) = true then (some (a0.extract 0 r1.toNat, r4.1)) else none))) else none)
theorem dossierref18_part.meets (k : Nat) (a0 : ByteArray) (r : ByteArray × Int) (h : dossierref18_part.f k a0 = some r) : Meets Tryd.prog 40 [(sc (.string a0))] [] (D.tup [(sc (.string r.1)), (sc (.int .i64 r.2))]) [] := by
 unfold dossierref18_part.f at h
 refine Meets.of_body (n := 29) Tryd.func40 rfl rfl (nl rfl) fun x hx => ?_
 replace hx : x.k = 0 := hx
 show AW _ x _ _ ⟨29, fr0 [(sc (.string a0))], []⟩
 refine AW.seq (AW.region ?_)
 refine s_assign (d := (sc (.string (⟨#[]⟩ : ByteArray)))) rfl ?_
 refine s_assign (d := (sc (.int .i64 0))) rfl (AWops.nil (AW.seq (AW.region ?_)))
 refine s_move (d := (sc (.string a0))) rfl ?_
 obtain ⟨r1, er1, h⟩ := bnd h
 refine s_call2 (ρ := []) (br := false) (H2 := []) (d := (sc (.int .i64 r1))) F.ca_69 rfl rfl (ac (.one .sc) (ac (.one .sc) an)) an (by decide) rfl (dossierref18_last.meets _ a0 46 r1 er1) (.inl rfl) rfl rfl ?_
 refine s_assign (d := (sc (.int .i64 r1))) rfl (AWops.nil (AW.seq (AW.seq (AW.region ?_))))
 refine s_move (d := (sc (.int .i64 r1))) rfl ?_
 refine s_binI (v := (.bool (decide (r1 < 1)))) rfl rfl rfl (AWops.nil ?_)
 rcases itH h with ⟨c2, h⟩ | ⟨c2, h⟩
 ·refine AW.cond_yes rfl c2 (AW.seq (AW.region ?_))
  refine s_assign (d := (sc (.string (⟨#[]⟩ : ByteArray)))) rfl ?_
  refine s_assign (d := (sc (.int .i64 0))) rfl (AWops.nil (AW.ret ?_))
  obtain rfl := Option.some.inj h
  exact ⟨_, rfl, (Weak.gen (kk := 0) [] [] rfl rfl (by decide) (by decide) rfl rfl rfl (le_upd (le_top _) (DLe.tup (ac (TLe.one .sc) (ac (TLe.one .sc) an)))) an)⟩
 ·refine AW.cond_no rfl c2 (AW.skip (AW.seq (AW.region ?_)))
  refine s_move (d := (sc (.string a0))) rfl ?_
  refine s_move (d := (sc (.int .i64 r1))) rfl ?_
  refine s_binI (v := (.int .i64 (IntKind.i64.wrap (r1 + 1)))) rfl rfl rfl ?_
  obtain ⟨c3, h⟩ := gdH h
  have dc3 := of_decide_eq_true c3
  refine s_sliceStr F.u_9 rfl (.yes rfl (by omega) rfl) .no (by omega) (by omega) ?_
  obtain ⟨r4, er4, h⟩ := bnd h
  refine s_call2 (ρ := []) (br := false) (H2 := []) (d := (D.tup [(sc (.int .i64 r4.1)), (sc (.int .i64 r4.2))])) F.ca_70 rfl rfl (ac (.one .sc) an) an (by decide) rfl (dossierref01_Number.meets _ (a0.extract (IntKind.i64.wrap (r1 + 1)).toNat a0.size) r4 er4) (.inl rfl) rfl rfl ?_
  refine s_move (d := (D.tup [(sc (.int .i64 r4.1)), (sc (.int .i64 r4.2))])) rfl ?_
  refine s_extract (d := (sc (.int .i64 r4.1))) rfl rfl ?_
  refine s_extract (d := (sc (.int .i64 r4.2))) rfl rfl ?_
  refine s_assign (d := (sc (.int .i64 r4.1))) rfl ?_
  refine s_assign (d := (sc (.int .i64 r4.2))) rfl (AWops.nil (AW.seq (AW.seq (AW.region ?_))))
  refine s_move (d := (sc (.int .i64 r4.2))) rfl ?_
  refine s_binI (v := (.bool (r4.2 != 0))) rfl rfl rfl ?_
  refine s_move (d := (sc (.bool (r4.2 != 0)))) rfl ?_
  rcases itH h with ⟨c5, h⟩ | ⟨c5, h⟩
  ·refine AWops.guard_no rfl (nl rfl) rfl c5 ?_
   refine AWops.guard_no rfl (nl rfl) rfl c5 ?_
   refine s_pick_yes (d := (sc (.bool true))) rfl c5 rfl (AWops.nil ?_)
   refine AW.cond_yes rfl rfl (AW.seq (AW.region ?_))
   refine s_assign (d := (sc (.string (⟨#[]⟩ : ByteArray)))) rfl ?_
   refine s_assign (d := (sc (.int .i64 0))) rfl (AWops.nil (AW.ret ?_))
   obtain rfl := Option.some.inj h
   exact ⟨_, rfl, (Weak.gen (kk := 0) [] [] rfl rfl (by decide) (by decide) rfl rfl rfl (le_upd (le_top _) (DLe.tup (ac (TLe.one .sc) (ac (TLe.one .sc) an)))) an)⟩
  ·refine AWops.guard_yes rfl (nl rfl) rfl c5 ?_
   refine s_move (d := (sc (.int .i64 r4.1))) rfl ?_
   refine AWops.guard_yes rfl (nl rfl) rfl c5 ?_
   refine s_binI (v := (.bool (decide (r4.1 < 1)))) rfl rfl rfl ?_
   refine s_pick_no (d := (sc (.bool (decide (r4.1 < 1))))) rfl c5 rfl (AWops.nil ?_)
   rcases itH h with ⟨c6, h⟩ | ⟨c6, h⟩
   ·refine AW.cond_yes rfl c6 (AW.seq (AW.region ?_))
    refine s_assign (d := (sc (.string (⟨#[]⟩ : ByteArray)))) rfl ?_
    refine s_assign (d := (sc (.int .i64 0))) rfl (AWops.nil (AW.ret ?_))
    obtain rfl := Option.some.inj h
    exact ⟨_, rfl, (Weak.gen (kk := 0) [] [] rfl rfl (by decide) (by decide) rfl rfl rfl (le_upd (le_top _) (DLe.tup (ac (TLe.one .sc) (ac (TLe.one .sc) an)))) an)⟩
   ·refine AW.cond_no rfl c6 (AW.skip (AW.seq (AW.region ?_)))
    refine s_move (d := (sc (.string a0))) rfl ?_
    refine s_move (d := (sc (.int .i64 r1))) rfl ?_
    obtain ⟨c7, h⟩ := gdH h
    have dc7 := of_decide_eq_true c7
    refine s_sliceStr F.u_9 rfl .no (.yes rfl (by omega) rfl) (by omega) (by omega) ?_
    refine s_move (d := (sc (.int .i64 r4.1))) rfl ?_
    refine s_assign (d := (sc (.string (a0.extract 0 r1.toNat)))) rfl ?_
    refine s_assign (d := (sc (.int .i64 r4.1))) rfl (AWops.nil (AW.ret ?_))
    obtain rfl := Option.some.inj h
    exact ⟨_, rfl, (Weak.gen (kk := 0) [] [] rfl rfl (by decide) (by decide) rfl rfl rfl (le_upd (le_top _) (DLe.tup (ac (TLe.one .sc) (ac (TLe.one .sc) an)))) an)⟩
def dossierref18_texts.f (k : Nat) (a0 : ByteArray) (a1 : ByteArray) : Option Int := if (Op.bytesLess a0.toList a1.toList) = true then (some (-1)) else (if (Op.bytesLess a0.toList a1.toList || a0.toList == a1.toList) = true then (some 0) else (some 1))
theorem dossierref18_texts.meets (k : Nat) (a0 : ByteArray) (a1 : ByteArray) (r : Int) (h : dossierref18_texts.f k a0 a1 = some r) : Meets Tryd.prog 41 [(sc (.string a0)), (sc (.string a1))] [] (sc (.int .i64 r)) [] := by
 unfold dossierref18_texts.f at h
 refine Meets.of_body (n := 13) Tryd.func41 rfl rfl (nl rfl) fun x hx => ?_
 replace hx : x.k = 0 := hx
 show AW _ x _ _ ⟨13, fr0 [(sc (.string a0)), (sc (.string a1))], []⟩
 refine AW.seq (AW.region ?_)
 refine s_assign (d := (sc (.int .i64 0))) rfl (AWops.nil (AW.seq (AW.block (AW.seq (AW.region ?_)))))
 refine s_move (d := (sc (.string a0))) rfl ?_
 refine s_move (d := (sc (.string a1))) rfl ?_
 refine s_binS (v := (.bool (Op.bytesLess a0.toList a1.toList))) rfl rfl rfl ?_
 refine s_assign (d := (sc (.bool (Op.bytesLess a0.toList a1.toList)))) rfl (AWops.nil ?_)
 rcases itH h with ⟨c1, h⟩ | ⟨c1, h⟩
 ·refine AW.cond_yes rfl c1 (AW.seq (AW.region ?_))
  refine s_assign (d := (sc (.int .i64 (-1)))) rfl (AWops.nil (AW.ret ?_))
  obtain rfl := Option.some.inj h
  exact ⟨_, rfl, (Weak.gen (kk := 0) [] [] rfl rfl (by decide) (by decide) rfl rfl rfl (le_upd (le_top _) (.t (.one .sc))) an)⟩
 ·refine AW.cond_no rfl c1 (AW.seq (AW.region ?_))
  refine s_move (d := (sc (.string a0))) rfl ?_
  refine s_move (d := (sc (.string a1))) rfl ?_
  refine s_binS (v := (.bool (!(Op.bytesLess a0.toList a1.toList || a0.toList == a1.toList)))) rfl rfl rfl ?_
  refine s_assign (d := (sc (.bool (!(Op.bytesLess a0.toList a1.toList || a0.toList == a1.toList))))) rfl (AWops.nil ?_)
  rcases itH h with ⟨c2, h⟩ | ⟨c2, h⟩
  ·refine AW.cond_no rfl (by rw [c2] <;> rfl) (AW.skip (AW.seq (AW.region ?_)))
   refine s_assign (d := (sc (.int .i64 0))) rfl (AWops.nil (AW.ret ?_))
   obtain rfl := Option.some.inj h
   exact ⟨_, rfl, (Weak.gen (kk := 0) [] [] rfl rfl (by decide) (by decide) rfl rfl rfl (le_upd (le_top _) (.t (.one .sc))) an)⟩
  ·refine AW.cond_yes rfl (by rw [c2] <;> rfl) (AW.seq (AW.region ?_))
   refine s_assign (d := (sc (.int .i64 1))) rfl (AWops.nil (AW.ret ?_))
   obtain rfl := Option.some.inj h
   exact ⟨_, rfl, (Weak.gen (kk := 0) [] [] rfl rfl (by decide) (by decide) rfl rfl rfl (le_upd (le_top _) (.t (.one .sc))) an)⟩
mutual
def dossierref18_Order.l0 : Nat → Int → (List ByteArray) → (List ByteArray) → Option Int
 | 0, _, _, _ => none
 | k + 1, x3, r1, r2 => if (decide (x3 < (r1.length : Int))) = true then (if (decide (x3 < (r2.length : Int))) = true then ((rd r1 x3).bind fun v6 => (dossierref18_part.f k v6).bind fun r8 => (rd r2 x3).bind fun v9 => (dossierref18_part.f k v9).bind fun r11 => (dossierref18_texts.f k r8.1 r11.1).bind fun r12 => if (r12 != 0) = true then (some r12) else (if (r8.2 != r11.2) = true then (if (decide (r8.2 < r11.2)) = true then (some (-1)) else (some 1)) else ((rd r1 x3).bind fun v16 => (rd r2 x3).bind fun v18 => (dossierref18_texts.f k v16 v18).bind fun r20 => if (r20 != 0) = true then (some r20) else (dossierref18_Order.l0 k (IntKind.i64.wrap (x3 + 1)) r1 r2)))) else (some (if (if (IntKind.i64.wrap ((r1.length : Int) - (r2.length : Int))) < 1 then (IntKind.i64.wrap ((r1.length : Int) - (r2.length : Int))) else 1) > (-1) then (if (IntKind.i64.wrap ((r1.length : Int) - (r2.length : Int))) < 1 then (IntKind.i64.wrap ((r1.length : Int) - (r2.length : Int))) else 1) else (-1)))) else (some (if (if (IntKind.i64.wrap ((r1.length : Int) - (r2.length : Int))) < 1 then (IntKind.i64.wrap ((r1.length : Int) - (r2.length : Int))) else 1) > (-1) then (if (IntKind.i64.wrap ((r1.length : Int) - (r2.length : Int))) < 1 then (IntKind.i64.wrap ((r1.length : Int) - (r2.length : Int))) else 1) else (-1)))
end
def dossierref18_Order.f (k : Nat) (a0 : ByteArray) (a1 : ByteArray) : Option Int := (dossierref18_parts.f k a0).bind fun r1 => (dossierref18_parts.f k a1).bind fun r2 => dossierref18_Order.l0 k 0 r1 r2
theorem dossierref18_Order.meets (k : Nat) (a0 : ByteArray) (a1 : ByteArray) (r : Int) (h : dossierref18_Order.f k a0 a1 = some r) : Meets Tryd.prog 10 [(sc (.string a0)), (sc (.string a1))] [] (sc (.int .i64 r)) [] := by
 unfold dossierref18_Order.f at h
 refine Meets.of_body (n := 77) Tryd.func10 rfl rfl (nl rfl) fun x hx => ?_
 replace hx : x.k = 0 := hx
 show AW _ x _ _ ⟨77, fr0 [(sc (.string a0)), (sc (.string a1))], []⟩
 refine AW.seq (AW.region ?_)
 refine s_assign (d := (sc (.int .i64 0))) rfl (AWops.nil (AW.seq (AW.region ?_)))
 refine s_move (d := (sc (.string a0))) rfl ?_
 obtain ⟨r1, er1, h⟩ := bnd h
 refine s_call2 (ρ := []) (br := false) (H2 := [(some (AObj.cells true (rowC e_str r1)))]) (d := (D.one (C.own 0 0 r1.length 1))) F.ca_39 rfl rfl (ac (.one .sc) an) an (by decide) rfl (dossierref18_parts.meets _ a0 r1 er1) (.inl rfl) (by first | rfl | (simp only [mergeH2, orF, Bool.false_or, Bool.or_false, Bool.true_or, Bool.or_true, mergeAt, mergeObj, renO, ren_row, List.drop_succ_cons, List.drop_zero, List.map_cons, List.map_nil, Option.map_some, Option.map_none, List.length_cons, List.length_nil, Nat.zero_add, List.append_assoc, List.cons_append, List.nil_append]; done) | (simp only [mergeH2, orF, Bool.false_or, Bool.or_false, Bool.true_or, Bool.or_true, mergeAt, mergeObj, renO, ren_row, List.drop_succ_cons, List.drop_zero, List.map_cons, List.map_nil, Option.map_some, Option.map_none, List.length_cons, List.length_nil, Nat.zero_add, List.append_assoc, List.cons_append, List.nil_append]; rfl)) rfl ?_
 refine s_move (d := (sc (.string a1))) rfl ?_
 obtain ⟨r2, er2, h⟩ := bnd h
 refine s_call2 (ρ := []) (br := false) (H2 := [(some (AObj.cells true (rowC e_str r1))), (some (AObj.cells true (rowC e_str r2)))]) (d := (D.one (C.own 1 0 r2.length 1))) F.ca_39 rfl rfl (ac (.one .sc) an) an (by decide) rfl (dossierref18_parts.meets _ a1 r2 er2) (.inl rfl) (by first | rfl | (simp only [mergeH2, orF, Bool.false_or, Bool.or_false, Bool.true_or, Bool.or_true, mergeAt, mergeObj, renO, ren_row, List.drop_succ_cons, List.drop_zero, List.map_cons, List.map_nil, Option.map_some, Option.map_none, List.length_cons, List.length_nil, Nat.zero_add, List.append_assoc, List.cons_append, List.nil_append]; done) | (simp only [mergeH2, orF, Bool.false_or, Bool.or_false, Bool.true_or, Bool.or_true, mergeAt, mergeObj, renO, ren_row, List.drop_succ_cons, List.drop_zero, List.map_cons, List.map_nil, Option.map_some, Option.map_none, List.length_cons, List.length_nil, Nat.zero_add, List.append_assoc, List.cons_append, List.nil_append]; rfl)) rfl ?_
 refine s_assign (d := (D.one (C.own 0 0 r1.length 1))) rfl ?_
 refine s_assign (d := (D.one (C.own 1 0 r2.length 1))) rfl (AWops.nil (AW.seq (AW.seq (AW.region ?_))))
 refine s_assign (d := (sc (.int .i64 0))) rfl (AWops.nil (AW.block ?_))
 refine AW.loopw (st0 := ⟨77, (upd 77 (upd 77 (upd 77 topF 5 (D.one (C.own 0 0 r1.length 1))) 6 (D.one (C.own 1 0 r2.length 1))) 7 (sc (.int .i64 0))), [(some (AObj.cells true (rowC e_str r1))), (some (AObj.cells true (rowC e_str r2)))]⟩) (fun kv st => kv ≤ k ∧ ∃ (x3 : Int), dossierref18_Order.l0 kv x3 r1 r2 = some r ∧ st = ⟨77, (upd 77 (upd 77 (upd 77 topF 5 (D.one (C.own 0 0 r1.length 1))) 6 (D.one (C.own 1 0 r2.length 1))) 7 (sc (.int .i64 x3))), [(some (AObj.cells true (rowC e_str r1))), (some (AObj.cells true (rowC e_str r2)))]⟩) (k := k) (Weak.gen (kk := 0) [0, 1] [] hx rfl (by decide) (by decide) rfl rfl rfl (le_upd (le_upd (le_upd (le_top _) (.t (.one (.own rfl)))) (.t (.one (.own rfl)))) (.t (.one .sc))) (ac (.cells (fun h => h) (all2_row _)) (ac (.cells (fun h => h) (all2_row _)) an))) ⟨Nat.le_refl _, 0, h, rfl⟩ ?_
 rintro ql0 st ⟨hkl0, x3, h, rfl⟩
 cases ql0 with
 | zero => exact absurd h (by simp [dossierref18_Order.l0])
 | succ ql0 =>
  replace h := (dossierref18_Order.l0.eq_2 _ _ _ _).symm.trans h
  refine AW.seq (AW.seq (AW.region ?_))
  refine s_move (d := (sc (.int .i64 x3))) rfl ?_
  refine s_move (d := (D.one (C.own 0 0 r1.length 1))) rfl ?_
  refine s_len (n := r1.length) F.u_26 rfl (.inr ⟨(fun _ _ h => by cases h), ⟨_, rfl⟩⟩) ?_
  refine s_binI (v := (.bool (decide (x3 < (r1.length : Int))))) rfl rfl rfl ?_
  refine s_move (d := (sc (.bool (decide (x3 < (r1.length : Int)))))) rfl ?_
  rcases itH h with ⟨c4, h⟩ | ⟨c4, h⟩
  ·refine AWops.guard_yes rfl (nl rfl) rfl c4 ?_
   refine s_move (d := (sc (.int .i64 x3))) rfl ?_
   refine AWops.guard_yes rfl (nl rfl) rfl c4 ?_
   refine s_move (d := (D.one (C.own 1 0 r2.length 1))) rfl ?_
   refine AWops.guard_yes rfl (nl rfl) rfl c4 ?_
   refine s_len (n := r2.length) F.u_26 rfl (.inr ⟨(fun _ _ h => by cases h), ⟨_, rfl⟩⟩) ?_
   refine AWops.guard_yes rfl (nl rfl) rfl c4 ?_
   refine s_binI (v := (.bool (decide (x3 < (r2.length : Int))))) rfl rfl rfl ?_
   refine s_pick_yes (d := (sc (.bool (decide (x3 < (r2.length : Int)))))) rfl c4 rfl (AWops.nil ?_)
   rcases itH h with ⟨c5, h⟩ | ⟨c5, h⟩
   ·refine AW.cond_yes rfl c5 (AW.skip (AW.seq (AW.block (AW.seq (AW.region ?_)))))
    refine s_move (d := (D.one (C.own 0 0 r1.length 1))) rfl ?_
    refine s_move (d := (sc (.int .i64 x3))) rfl ?_
    obtain ⟨v6, ev6, h⟩ := bnd h
    obtain ⟨pv6, qv6, gv6⟩ := rd_some ev6
    refine s_indexOwn (d := (D.one (C.ref 0 (0 + x3.toNat * 1)))) F.u_26 F.sz_9 rfl rfl pv6 qv6 rfl ?_
    obtain ⟨R7, hR7⟩ := row_at (f := e_str) (sz := 1) (o := 0) e_str_len gv6 (e_str_eq v6) (by decide)
    refine s_load1 (c' := (C.p true (.v (.string v6)))) F.ag_9 (congrArg some hR7) rfl ?_
    obtain ⟨r8, er8, h⟩ := bnd h
    refine s_call2 (ρ := []) (br := false) (H2 := [(some (AObj.cells true (rowC e_str r1))), (some (AObj.cells true (rowC e_str r2)))]) (d := (D.tup [(sc (.string r8.1)), (sc (.int .i64 r8.2))])) F.ca_40 rfl rfl (ac (.one .sc) an) an (by decide) rfl (dossierref18_part.meets _ v6 r8 er8) (.inl rfl) rfl rfl ?_
    refine s_move (d := (D.tup [(sc (.string r8.1)), (sc (.int .i64 r8.2))])) rfl ?_
    refine s_extract (d := (sc (.string r8.1))) rfl rfl ?_
    refine s_extract (d := (sc (.int .i64 r8.2))) rfl rfl ?_
    refine s_assign (d := (sc (.string r8.1))) rfl ?_
    refine s_assign (d := (sc (.int .i64 r8.2))) rfl (AWops.nil (AW.seq (AW.region ?_)))
    refine s_move (d := (D.one (C.own 1 0 r2.length 1))) rfl ?_
    refine s_move (d := (sc (.int .i64 x3))) rfl ?_
    obtain ⟨v9, ev9, h⟩ := bnd h
    obtain ⟨pv9, qv9, gv9⟩ := rd_some ev9
    refine s_indexOwn (d := (D.one (C.ref 1 (0 + x3.toNat * 1)))) F.u_26 F.sz_9 rfl rfl pv9 qv9 rfl ?_
    obtain ⟨R10, hR10⟩ := row_at (f := e_str) (sz := 1) (o := 0) e_str_len gv9 (e_str_eq v9) (by decide)
    refine s_load1 (c' := (C.p true (.v (.string v9)))) F.ag_9 (congrArg some hR10) rfl ?_
    obtain ⟨r11, er11, h⟩ := bnd h
    refine s_call2 (ρ := []) (br := false) (H2 := [(some (AObj.cells true (rowC e_str r1))), (some (AObj.cells true (rowC e_str r2)))]) (d := (D.tup [(sc (.string r11.1)), (sc (.int .i64 r11.2))])) F.ca_40 rfl rfl (ac (.one .sc) an) an (by decide) rfl (dossierref18_part.meets _ v9 r11 er11) (.inl rfl) rfl rfl ?_
    refine s_move (d := (D.tup [(sc (.string r11.1)), (sc (.int .i64 r11.2))])) rfl ?_
    refine s_extract (d := (sc (.string r11.1))) rfl rfl ?_
    refine s_extract (d := (sc (.int .i64 r11.2))) rfl rfl ?_
    refine s_assign (d := (sc (.string r11.1))) rfl ?_
    refine s_assign (d := (sc (.int .i64 r11.2))) rfl (AWops.nil (AW.seq (AW.seq (AW.region ?_))))
    refine s_move (d := (sc (.string r8.1))) rfl ?_
    refine s_move (d := (sc (.string r11.1))) rfl ?_
    obtain ⟨r12, er12, h⟩ := bnd h
    refine s_call2 (ρ := []) (br := false) (H2 := [(some (AObj.cells true (rowC e_str r1))), (some (AObj.cells true (rowC e_str r2)))]) (d := (sc (.int .i64 r12))) F.ca_41 rfl rfl (ac (.one .sc) (ac (.one .sc) an)) an (by decide) rfl (dossierref18_texts.meets _ r8.1 r11.1 r12 er12) (.inl rfl) rfl rfl ?_
    refine s_assign (d := (sc (.int .i64 r12))) rfl (AWops.nil (AW.seq (AW.region ?_)))
    refine s_move (d := (sc (.int .i64 r12))) rfl ?_
    refine s_binI (v := (.bool (r12 != 0))) rfl rfl rfl (AWops.nil ?_)
    rcases itH h with ⟨c13, h⟩ | ⟨c13, h⟩
    ·refine AW.cond_yes rfl c13 (AW.seq (AW.region ?_))
     refine s_move (d := (sc (.int .i64 r12))) rfl ?_
     refine s_assign (d := (sc (.int .i64 r12))) rfl (AWops.nil (AW.ret ?_))
     obtain rfl := Option.some.inj h
     exact ⟨_, rfl, (Weak.gen (kk := 0) [] [] rfl rfl (by decide) (by decide) rfl rfl rfl (le_upd (le_top _) (.t (.one .sc))) an)⟩
    ·refine AW.cond_no rfl c13 (AW.skip (AW.seq (AW.seq (AW.region ?_))))
     refine s_move (d := (sc (.int .i64 r8.2))) rfl ?_
     refine s_move (d := (sc (.int .i64 r11.2))) rfl ?_
     refine s_binI (v := (.bool (r8.2 != r11.2))) rfl rfl rfl (AWops.nil ?_)
     rcases itH h with ⟨c14, h⟩ | ⟨c14, h⟩
     ·refine AW.cond_yes rfl c14 (AW.seq (AW.seq (AW.region ?_)))
      refine s_move (d := (sc (.int .i64 r8.2))) rfl ?_
      refine s_move (d := (sc (.int .i64 r11.2))) rfl ?_
      refine s_binI (v := (.bool (decide (r8.2 < r11.2)))) rfl rfl rfl (AWops.nil ?_)
      rcases itH h with ⟨c15, h⟩ | ⟨c15, h⟩
      ·refine AW.cond_yes rfl c15 (AW.seq (AW.region ?_))
       refine s_assign (d := (sc (.int .i64 (-1)))) rfl (AWops.nil (AW.ret ?_))
       obtain rfl := Option.some.inj h
       exact ⟨_, rfl, (Weak.gen (kk := 0) [] [] rfl rfl (by decide) (by decide) rfl rfl rfl (le_upd (le_top _) (.t (.one .sc))) an)⟩
      ·refine AW.cond_no rfl c15 (AW.skip (AW.seq (AW.region ?_)))
       refine s_assign (d := (sc (.int .i64 1))) rfl (AWops.nil (AW.ret ?_))
       obtain rfl := Option.some.inj h
       exact ⟨_, rfl, (Weak.gen (kk := 0) [] [] rfl rfl (by decide) (by decide) rfl rfl rfl (le_upd (le_top _) (.t (.one .sc))) an)⟩
     ·refine AW.cond_no rfl c14 (AW.skip (AW.seq ?_))
      refine AW.weak (st' := ⟨77, (upd 77 (upd 77 (upd 77 (upd 77 (upd 77 (upd 77 (upd 77 topF 5 (D.one (C.own 0 0 r1.length 1))) 6 (D.one (C.own 1 0 r2.length 1))) 7 (sc (.int .i64 x3))) 23 (sc (.int .i64 x3))) 24 (D.one (C.own 1 0 r2.length 1))) 25 (sc (.int .i64 (r2.length : Int)))) 26 (sc (.bool (decide (x3 < (r2.length : Int)))))), [(some (AObj.cells true (rowC e_str r1))), (some (AObj.cells true (rowC e_str r2)))]⟩) (Weak.gen (kk := 0) [0, 1] [] hx rfl (by decide) (by decide) rfl rfl rfl (le_upd (le_upd (le_upd (le_upd (le_upd (le_upd (le_upd (le_top _) (.t (.one (.own rfl)))) (.t (.one (.own rfl)))) (.t (.one .sc))) (.t (.one .sc))) (.t (.one (.own rfl)))) (.t (.one .sc))) (.t (.one .sc))) (ac (.cells (fun h => h) (all2_row _)) (ac (.cells (fun h => h) (all2_row _)) an))) ?_
      obtain ⟨v16, ev16, h⟩ := bnd h
      obtain ⟨pv16, qv16, gv16⟩ := rd_some ev16
      obtain ⟨R17, hR17⟩ := row_at (f := e_str) (sz := 1) (o := 0) e_str_len gv16 (e_str_eq v16) (by decide)
      obtain ⟨v18, ev18, h⟩ := bnd h
      obtain ⟨pv18, qv18, gv18⟩ := rd_some ev18
      obtain ⟨R19, hR19⟩ := row_at (f := e_str) (sz := 1) (o := 0) e_str_len gv18 (e_str_eq v18) (by decide)
      obtain ⟨r20, er20, h⟩ := bnd h
      refine AW.draw (n := 77) (L := 3) [(0, ⟨some 58, (D.one (C.own 0 0 r1.length 1)), [(5, (D.one (C.own 0 0 r1.length 1)))], [], [], none⟩), (1, ⟨some 59, (sc (.int .i64 x3)), [(7, (sc (.int .i64 x3)))], [], [], none⟩), (2, ⟨some 60, (D.one (C.ref 0 (0 + x3.toNat * 1))), [(58, (D.one (C.own 0 0 r1.length 1))), (59, (sc (.int .i64 x3)))], [(0, (some (AObj.cells true (rowC e_str r1))))], [], none⟩), (3, ⟨some 61, (sc (.string v16)), [(60, (D.one (C.ref 0 (0 + x3.toNat * 1))))], [(0, (some (AObj.cells true (rowC e_str r1))))], [], none⟩), (4, ⟨some 62, (D.one (C.own 1 0 r2.length 1)), [(6, (D.one (C.own 1 0 r2.length 1)))], [], [], none⟩), (5, ⟨some 63, (sc (.int .i64 x3)), [(7, (sc (.int .i64 x3)))], [], [], none⟩), (6, ⟨some 64, (D.one (C.ref 1 (0 + x3.toNat * 1))), [(62, (D.one (C.own 1 0 r2.length 1))), (63, (sc (.int .i64 x3)))], [(1, (some (AObj.cells true (rowC e_str r2))))], [], none⟩), (7, ⟨some 65, (sc (.string v18)), [(64, (D.one (C.ref 1 (0 + x3.toNat * 1))))], [(1, (some (AObj.cells true (rowC e_str r2))))], [], none⟩), (8, ⟨some 66, (sc (.int .i64 r20)), [(61, (sc (.string v16))), (65, (sc (.string v18)))], [], [], none⟩), (9, ⟨some 13, (sc (.int .i64 r20)), [(66, (sc (.int .i64 r20)))], [], [], none⟩)] [[], [], [0, 1], [0, 1, 2], [], [], [4, 5], [4, 5, 6], [0, 1, 2, 3, 4, 5, 6, 7], [0, 1, 2, 3, 4, 5, 6, 7, 8]] (nl rfl) [0, 0, 1, 2, 0, 0, 1, 2, 3, 4] rfl (TK := []) rfl AllK.nil' (fC ⟨(sC rfl AllS.nil'), AllH.nil'⟩ (fC ⟨(sC rfl AllS.nil'), AllH.nil'⟩ (fC ⟨(sC rfl (sC rfl AllS.nil')), (hC rfl AllH.nil')⟩ (fC ⟨(sC rfl AllS.nil'), (hC rfl AllH.nil')⟩ (fC ⟨(sC rfl AllS.nil'), AllH.nil'⟩ (fC ⟨(sC rfl AllS.nil'), AllH.nil'⟩ (fC ⟨(sC rfl (sC rfl AllS.nil')), (hC rfl AllH.nil')⟩ (fC ⟨(sC rfl AllS.nil'), (hC rfl AllH.nil')⟩ (fC ⟨(sC rfl (sC rfl AllS.nil')), AllH.nil'⟩ (fC ⟨(sC rfl AllS.nil'), AllH.nil'⟩ AllF.nil')))))))))) ?_ ?_
      ·refine (pC ?_ (pC ?_ (pC ?_ (pC ?_ (pC ?_ (pC ?_ (pC ?_ (pC ?_ (pC ?_ (pC ?_ AllStep.nil'))))))))))
       ·intro K rest fr hv htk k
        show AWops _ x _ _ K ⟨77, (upd 77 fr 5 (D.one (C.own 0 0 r1.length 1))), _⟩
        refine s_move (d := (D.one (C.own 0 0 r1.length 1))) rfl k
       ·intro K rest fr hv htk k
        show AWops _ x _ _ K ⟨77, (upd 77 fr 7 (sc (.int .i64 x3))), _⟩
        refine s_move (d := (sc (.int .i64 x3))) rfl k
       ·intro K rest fr hv htk k
        show AWops _ x _ _ K ⟨77, (upd 77 (upd 77 fr 59 (sc (.int .i64 x3))) 58 (D.one (C.own 0 0 r1.length 1))), [(some (AObj.cells true (rowC e_str r1))), (hv 1), (hv 2)]⟩
        refine s_indexOwn (d := (D.one (C.ref 0 (0 + x3.toNat * 1)))) F.u_26 F.sz_9 rfl rfl pv16 qv16 rfl k
       ·intro K rest fr hv htk k
        show AWops _ x _ _ K ⟨77, (upd 77 fr 60 (D.one (C.ref 0 (0 + x3.toNat * 1)))), [(some (AObj.cells true (rowC e_str r1))), (hv 1), (hv 2)]⟩
        refine s_load1 (c' := (C.p true (.v (.string v16)))) F.ag_9 (congrArg some hR17) rfl k
       ·intro K rest fr hv htk k
        show AWops _ x _ _ K ⟨77, (upd 77 fr 6 (D.one (C.own 1 0 r2.length 1))), _⟩
        refine s_move (d := (D.one (C.own 1 0 r2.length 1))) rfl k
       ·intro K rest fr hv htk k
        show AWops _ x _ _ K ⟨77, (upd 77 fr 7 (sc (.int .i64 x3))), _⟩
        refine s_move (d := (sc (.int .i64 x3))) rfl k
       ·intro K rest fr hv htk k
        show AWops _ x _ _ K ⟨77, (upd 77 (upd 77 fr 63 (sc (.int .i64 x3))) 62 (D.one (C.own 1 0 r2.length 1))), [(hv 0), (some (AObj.cells true (rowC e_str r2))), (hv 2)]⟩
        refine s_indexOwn (d := (D.one (C.ref 1 (0 + x3.toNat * 1)))) F.u_26 F.sz_9 rfl rfl pv18 qv18 rfl k
       ·intro K rest fr hv htk k
        show AWops _ x _ _ K ⟨77, (upd 77 fr 64 (D.one (C.ref 1 (0 + x3.toNat * 1)))), [(hv 0), (some (AObj.cells true (rowC e_str r2))), (hv 2)]⟩
        refine s_load1 (c' := (C.p true (.v (.string v18)))) F.ag_9 (congrArg some hR19) rfl k
       ·intro K rest fr hv htk k
        show AWops _ x _ _ K ⟨77, (upd 77 (upd 77 fr 65 (sc (.string v18))) 61 (sc (.string v16))), [(hv 0), (hv 1), (hv 2)]⟩
        refine s_call2 (ρ := []) (br := false) (H2 := [(hv 0), (hv 1), (hv 2)]) (d := (sc (.int .i64 r20))) F.ca_41 rfl rfl (ac (.one .sc) (ac (.one .sc) an)) an (by decide) rfl (dossierref18_texts.meets _ v16 v18 r20 er20) (.inl rfl) rfl rfl k
       ·intro K rest fr hv htk k
        show AWops _ x _ _ K ⟨77, (upd 77 fr 66 (sc (.int .i64 r20))), _⟩
        refine s_assign (d := (sc (.int .i64 r20))) rfl k
      ·refine AWops.weak (st' := ⟨77, (upd 77 (upd 77 (upd 77 (upd 77 (upd 77 (upd 77 (upd 77 (upd 77 topF 5 (D.one (C.own 0 0 r1.length 1))) 6 (D.one (C.own 1 0 r2.length 1))) 7 (sc (.int .i64 x3))) 13 (sc (.int .i64 r20))) 23 (sc (.int .i64 x3))) 24 (D.one (C.own 1 0 r2.length 1))) 25 (sc (.int .i64 (r2.length : Int)))) 26 (sc (.bool (decide (x3 < (r2.length : Int)))))), [(some (AObj.cells true (rowC e_str r1))), (some (AObj.cells true (rowC e_str r2)))]⟩) (Weak.gen (kk := 0) [0, 1] [] hx rfl (by decide) (by decide) rfl rfl rfl (le_upd (le_upd (le_upd (le_upd (le_upd (le_upd (le_upd (le_upd (le_top _) (.t (.one (.own rfl)))) (.t (.one (.own rfl)))) (.t (.one .sc))) (.t (.one .sc))) (.t (.one .sc))) (.t (.one (.own rfl)))) (.t (.one .sc))) (.t (.one .sc))) (ac (.cells (fun h => h) (all2_row _)) (ac (.cells (fun h => h) (all2_row _)) an))) (AWops.nil (AW.seq (AW.region ?_)))
       refine s_move (d := (sc (.int .i64 r20))) rfl ?_
       refine s_binI (v := (.bool (r20 != 0))) rfl rfl rfl (AWops.nil ?_)
       rcases itH h with ⟨c21, h⟩ | ⟨c21, h⟩
       ·refine AW.cond_yes rfl c21 (AW.seq (AW.region ?_))
        refine s_move (d := (sc (.int .i64 r20))) rfl ?_
        refine s_assign (d := (sc (.int .i64 r20))) rfl (AWops.nil (AW.ret ?_))
        obtain rfl := Option.some.inj h
        exact ⟨_, rfl, (Weak.gen (kk := 0) [] [] rfl rfl (by decide) (by decide) rfl rfl rfl (le_upd (le_top _) (.t (.one .sc))) an)⟩
       ·refine AW.cond_no rfl c21 (AW.skip (AW.region ?_))
        refine s_move (d := (sc (.int .i64 x3))) rfl ?_
        refine s_binI (v := (.int .i64 (IntKind.i64.wrap (x3 + 1)))) rfl rfl rfl ?_
        refine s_assign (d := (sc (.int .i64 (IntKind.i64.wrap (x3 + 1))))) rfl (AWops.nil ?_)
        exact ⟨_, ⟨77, (upd 77 (upd 77 (upd 77 topF 5 (D.one (C.own 0 0 r1.length 1))) 6 (D.one (C.own 1 0 r2.length 1))) 7 (sc (.int .i64 (IntKind.i64.wrap (x3 + 1))))), [(some (AObj.cells true (rowC e_str r1))), (some (AObj.cells true (rowC e_str r2)))]⟩, by omega, (Weak.gen (kk := 0) [0, 1] [] hx rfl (by decide) (by decide) rfl rfl rfl (le_upd (le_upd (le_upd (le_top _) (.t (.one (.own rfl)))) (.t (.one (.own rfl)))) (.t (.one .sc))) (ac (.cells (fun h => h) (all2_row _)) (ac (.cells (fun h => h) (all2_row _)) an))), by omega, IntKind.i64.wrap (x3 + 1), h, rfl⟩
   ·refine AW.cond_no rfl c5 (AW.exit (AW.seq (AW.region ?_)))
    refine s_move (d := (D.one (C.own 0 0 r1.length 1))) rfl ?_
    refine s_len (n := r1.length) F.u_26 rfl (.inr ⟨(fun _ _ h => by cases h), ⟨_, rfl⟩⟩) ?_
    refine s_move (d := (D.one (C.own 1 0 r2.length 1))) rfl ?_
    refine s_len (n := r2.length) F.u_26 rfl (.inr ⟨(fun _ _ h => by cases h), ⟨_, rfl⟩⟩) ?_
    refine s_binI (v := (.int .i64 (IntKind.i64.wrap ((r1.length : Int) - (r2.length : Int))))) rfl rfl rfl ?_
    refine s_min2 (r := (if (IntKind.i64.wrap ((r1.length : Int) - (r2.length : Int))) < 1 then (IntKind.i64.wrap ((r1.length : Int) - (r2.length : Int))) else 1)) rfl rfl rfl ?_
    refine s_max2 (r := (if (if (IntKind.i64.wrap ((r1.length : Int) - (r2.length : Int))) < 1 then (IntKind.i64.wrap ((r1.length : Int) - (r2.length : Int))) else 1) > (-1) then (if (IntKind.i64.wrap ((r1.length : Int) - (r2.length : Int))) < 1 then (IntKind.i64.wrap ((r1.length : Int) - (r2.length : Int))) else 1) else (-1))) rfl rfl rfl ?_
    refine s_assign (d := (sc (.int .i64 (if (if (IntKind.i64.wrap ((r1.length : Int) - (r2.length : Int))) < 1 then (IntKind.i64.wrap ((r1.length : Int) - (r2.length : Int))) else 1) > (-1) then (if (IntKind.i64.wrap ((r1.length : Int) - (r2.length : Int))) < 1 then (IntKind.i64.wrap ((r1.length : Int) - (r2.length : Int))) else 1) else (-1))))) rfl (AWops.nil (AW.ret ?_))
    obtain rfl := Option.some.inj h
    exact ⟨_, rfl, (Weak.gen (kk := 0) [] [] rfl rfl (by decide) (by decide) rfl rfl rfl (le_upd (le_top _) (.t (.one .sc))) an)⟩
  ·iterate 4 refine AWops.guard_no rfl (nl rfl) rfl c4 ?_
   refine s_pick_no (d := (sc (.bool false))) rfl c4 rfl (AWops.nil ?_)
   refine AW.cond_no rfl rfl (AW.exit (AW.seq (AW.region ?_)))
   refine s_move (d := (D.one (C.own 0 0 r1.length 1))) rfl ?_
   refine s_len (n := r1.length) F.u_26 rfl (.inr ⟨(fun _ _ h => by cases h), ⟨_, rfl⟩⟩) ?_
   refine s_move (d := (D.one (C.own 1 0 r2.length 1))) rfl ?_
   refine s_len (n := r2.length) F.u_26 rfl (.inr ⟨(fun _ _ h => by cases h), ⟨_, rfl⟩⟩) ?_
   refine s_binI (v := (.int .i64 (IntKind.i64.wrap ((r1.length : Int) - (r2.length : Int))))) rfl rfl rfl ?_
   refine s_min2 (r := (if (IntKind.i64.wrap ((r1.length : Int) - (r2.length : Int))) < 1 then (IntKind.i64.wrap ((r1.length : Int) - (r2.length : Int))) else 1)) rfl rfl rfl ?_
   refine s_max2 (r := (if (if (IntKind.i64.wrap ((r1.length : Int) - (r2.length : Int))) < 1 then (IntKind.i64.wrap ((r1.length : Int) - (r2.length : Int))) else 1) > (-1) then (if (IntKind.i64.wrap ((r1.length : Int) - (r2.length : Int))) < 1 then (IntKind.i64.wrap ((r1.length : Int) - (r2.length : Int))) else 1) else (-1))) rfl rfl rfl ?_
   refine s_assign (d := (sc (.int .i64 (if (if (IntKind.i64.wrap ((r1.length : Int) - (r2.length : Int))) < 1 then (IntKind.i64.wrap ((r1.length : Int) - (r2.length : Int))) else 1) > (-1) then (if (IntKind.i64.wrap ((r1.length : Int) - (r2.length : Int))) < 1 then (IntKind.i64.wrap ((r1.length : Int) - (r2.length : Int))) else 1) else (-1))))) rfl (AWops.nil (AW.ret ?_))
   obtain rfl := Option.some.inj h
   exact ⟨_, rfl, (Weak.gen (kk := 0) [] [] rfl rfl (by decide) (by decide) rfl rfl rfl (le_upd (le_top _) (.t (.one .sc))) an)⟩
mutual
def chars_Text.l0 : Nat → (List Int) → Int → Int → Int → Option ByteArray
 | 0, _, _, _, _ => none
 | k + 1, x1, x2, x3, a0 => if (decide ((IntKind.i64.wrap (x2 - 1)) < 20)) = true then ((rd x1 (IntKind.i64.wrap (x2 - 1))).bind fun v5 => if ((IntKind.i64.wrap (Int.tdiv x3 10)) == 0) = true then (if (decide (a0 < 0)) = true then (if (decide ((IntKind.i64.wrap ((IntKind.i64.wrap (x2 - 1)) - 1)) < 20)) = true then ((rd (x1.set (IntKind.i64.wrap (x2 - 1)).toNat (IntKind.u8.wrap (IntKind.i64.wrap (48 + (if (IntKind.i64.wrap (0 - (Int.tmod x3 10))) > (Int.tmod x3 10) then (IntKind.i64.wrap (0 - (Int.tmod x3 10))) else (Int.tmod x3 10)))))) (IntKind.i64.wrap ((IntKind.i64.wrap (x2 - 1)) - 1))).bind fun v9 => if (decide (0 ≤ (IntKind.i64.wrap ((IntKind.i64.wrap (x2 - 1)) - 1)) ∧ (IntKind.i64.wrap ((IntKind.i64.wrap (x2 - 1)) - 1)) < 20 ∧ 20 ≤ ((x1.set (IntKind.i64.wrap (x2 - 1)).toNat (IntKind.u8.wrap (IntKind.i64.wrap (48 + (if (IntKind.i64.wrap (0 - (Int.tmod x3 10))) > (Int.tmod x3 10) then (IntKind.i64.wrap (0 - (Int.tmod x3 10))) else (Int.tmod x3 10)))))).set (IntKind.i64.wrap ((IntKind.i64.wrap (x2 - 1)) - 1)).toNat 45).length)) = true then (some (ofNums ((((x1.set (IntKind.i64.wrap (x2 - 1)).toNat (IntKind.u8.wrap (IntKind.i64.wrap (48 + (if (IntKind.i64.wrap (0 - (Int.tmod x3 10))) > (Int.tmod x3 10) then (IntKind.i64.wrap (0 - (Int.tmod x3 10))) else (Int.tmod x3 10)))))).set (IntKind.i64.wrap ((IntKind.i64.wrap (x2 - 1)) - 1)).toNat 45).drop (IntKind.i64.wrap ((IntKind.i64.wrap (x2 - 1)) - 1)).toNat).take (20 - (IntKind.i64.wrap ((IntKind.i64.wrap (x2 - 1)) - 1)).toNat)))) else none) else none) else (if (decide (0 ≤ (IntKind.i64.wrap (x2 - 1)) ∧ (IntKind.i64.wrap (x2 - 1)) < 20 ∧ 20 ≤ (x1.set (IntKind.i64.wrap (x2 - 1)).toNat (IntKind.u8.wrap (IntKind.i64.wrap (48 + (if (IntKind.i64.wrap (0 - (Int.tmod x3 10))) > (Int.tmod x3 10) then (IntKind.i64.wrap (0 - (Int.tmod x3 10))) else (Int.tmod x3 10)))))).length)) = true then (some (ofNums (((x1.set (IntKind.i64.wrap (x2 - 1)).toNat (IntKind.u8.wrap (IntKind.i64.wrap (48 + (if (IntKind.i64.wrap (0 - (Int.tmod x3 10))) > (Int.tmod x3 10) then (IntKind.i64.wrap (0 - (Int.tmod x3 10))) else (Int.tmod x3 10)))))).drop (IntKind.i64.wrap (x2 - 1)).toNat).take (20 - (IntKind.i64.wrap (x2 - 1)).toNat)))) else none)) else (chars_Text.l0 k (x1.set (IntKind.i64.wrap (x2 - 1)).toNat (IntKind.u8.wrap (IntKind.i64.wrap (48 + (if (IntKind.i64.wrap (0 - (Int.tmod x3 10))) > (Int.tmod x3 10) then (IntKind.i64.wrap (0 - (Int.tmod x3 10))) else (Int.tmod x3 10)))))) (IntKind.i64.wrap (x2 - 1)) (IntKind.i64.wrap (Int.tdiv x3 10)) a0)) else none
end
def chars_Text.f (k : Nat) (a0 : Int) : Option ByteArray := chars_Text.l0 k (List.replicate 20 (0 : Int)) 20 a0 a0
theorem chars_Text.meets (k : Nat) (a0 : Int) (r : ByteArray) (h : chars_Text.f k a0 = some r) : Meets Tryd.prog 50 [(sc (.int .i64 a0))] [] (sc (.string r)) [] := by
 unfold chars_Text.f at h
 refine Meets.of_body (n := 34) Tryd.func50 rfl rfl (nl rfl) fun x hx => ?_
 replace hx : x.k = 0 := hx
 show AW _ x _ _ ⟨34, fr0 [(sc (.int .i64 a0))], []⟩
 refine AW.seq (AW.region ?_)
 refine s_assign (d := (sc (.string (⟨#[]⟩ : ByteArray)))) rfl (AWops.nil (AW.seq (AW.region ?_)))
 refine s_alloc (cs := rowC e_u8 (List.replicate 20 (0 : Int))) F.z_88 rfl rfl (AWops.nil (AW.seq (AW.region ?_)))
 refine s_assign (d := (sc (.int .i64 20))) rfl (AWops.nil (AW.seq (AW.seq (AW.region ?_))))
 refine s_move (d := (sc (.int .i64 a0))) rfl ?_
 refine s_assign (d := (sc (.int .i64 a0))) rfl (AWops.nil (AW.block ?_))
 refine AW.loopw (st0 := ⟨34, (upd 34 (upd 34 (upd 34 (upd 34 topF 0 (sc (.int .i64 a0))) 3 (D.one (C.ref 0 0))) 4 (sc (.int .i64 20))) 5 (sc (.int .i64 a0))), [(some (AObj.cells true (rowC e_u8 (List.replicate 20 (0 : Int)))))]⟩) (fun kv st => kv ≤ k ∧ ∃ (x1 : List Int) (x2 : Int) (x3 : Int), chars_Text.l0 kv x1 x2 x3 a0 = some r ∧ st = ⟨34, (upd 34 (upd 34 (upd 34 (upd 34 topF 0 (sc (.int .i64 a0))) 3 (D.one (C.ref 0 0))) 4 (sc (.int .i64 x2))) 5 (sc (.int .i64 x3))), [(some (AObj.cells true (rowC e_u8 x1)))]⟩) (k := k) (Weak.gen (kk := 0) [0] [] hx rfl (by decide) (by decide) rfl rfl rfl (le_upd (le_upd (le_upd (le_upd (le_top _) (.t (.one .sc))) (.t (.one (.ref rfl)))) (.t (.one .sc))) (.t (.one .sc))) (ac (.cells (fun h => h) (all2_row _)) an)) ⟨Nat.le_refl _, (List.replicate 20 (0 : Int)), 20, a0, h, rfl⟩ ?_
 rintro ql0 st ⟨hkl0, x1, x2, x3, h, rfl⟩
 cases ql0 with
 | zero => exact absurd h (by simp [chars_Text.l0])
 | succ ql0 =>
  replace h := (chars_Text.l0.eq_2 _ _ _ _ _).symm.trans h
  refine AW.seq (AW.block (AW.seq (AW.region ?_)))
  refine s_move (d := (sc (.int .i64 x3))) rfl ?_
  refine s_binI (v := (.int .i64 (Int.tmod x3 10))) rfl rfl rfl ?_
  refine s_assign (d := (sc (.int .i64 (Int.tmod x3 10)))) rfl (AWops.nil (AW.seq (AW.region ?_)))
  refine s_move (d := (sc (.int .i64 x2))) rfl ?_
  refine s_binI (v := (.int .i64 (IntKind.i64.wrap (x2 - 1)))) rfl rfl rfl ?_
  refine s_assign (d := (sc (.int .i64 (IntKind.i64.wrap (x2 - 1))))) rfl (AWops.nil (AW.seq (AW.region ?_)))
  refine s_move (d := (sc (.int .i64 (IntKind.i64.wrap (x2 - 1))))) rfl ?_
  refine s_move (d := (sc (.int .i64 (Int.tmod x3 10)))) rfl ?_
  refine s_move (d := (sc (.int .i64 (Int.tmod x3 10)))) rfl ?_
  refine s_unI (v := (.int .i64 (IntKind.i64.wrap (0 - (Int.tmod x3 10))))) rfl rfl ?_
  refine s_max2 (r := (if (IntKind.i64.wrap (0 - (Int.tmod x3 10))) > (Int.tmod x3 10) then (IntKind.i64.wrap (0 - (Int.tmod x3 10))) else (Int.tmod x3 10))) rfl rfl rfl ?_
  refine s_binI (v := (.int .i64 (IntKind.i64.wrap (48 + (if (IntKind.i64.wrap (0 - (Int.tmod x3 10))) > (Int.tmod x3 10) then (IntKind.i64.wrap (0 - (Int.tmod x3 10))) else (Int.tmod x3 10)))))) rfl rfl rfl ?_
  refine s_convI F.u_3 F.u_5 rfl ?_
  obtain ⟨c4, h⟩ := gdH h
  obtain ⟨v5, ev5, h⟩ := bnd h
  obtain ⟨pv5, qv5, gv5⟩ := rd_some ev5
  refine s_indexArr (n := 20) (d := (D.one (C.ref 0 (0 + (IntKind.i64.wrap (x2 - 1)).toNat * 1)))) F.u_88 F.sz_5 rfl rfl pv5 (of_decide_eq_true c4) rfl ?_
  refine s_store (cs' := rowC e_u8 (x1.set (IntKind.i64.wrap (x2 - 1)).toNat (IntKind.u8.wrap (IntKind.i64.wrap (48 + (if (IntKind.i64.wrap (0 - (Int.tmod x3 10))) > (Int.tmod x3 10) then (IntKind.i64.wrap (0 - (Int.tmod x3 10))) else (Int.tmod x3 10))))))) rfl rfl rfl (List.cons_ne_nil _ _) rfl F.sz_5 (by rw [row_len e_u8_len]; have := (List.getElem?_eq_some_iff.mp gv5).1; show _ + 1 ≤ _; omega) (row_set (f := e_u8) (sz := 1) (o := 0) (ds := [P.v (.int .u8 (IntKind.u8.wrap (IntKind.i64.wrap (48 + (if (IntKind.i64.wrap (0 - (Int.tmod x3 10))) > (Int.tmod x3 10) then (IntKind.i64.wrap (0 - (Int.tmod x3 10))) else (Int.tmod x3 10))))))]) e_u8_len gv5 rfl (nl rfl) rfl) ?_
  refine AWops.nil (AW.seq (AW.region ?_))
  refine s_move (d := (sc (.int .i64 x3))) rfl ?_
  refine s_binI (v := (.int .i64 (IntKind.i64.wrap (Int.tdiv x3 10)))) rfl rfl rfl ?_
  refine s_binI (v := (.bool ((IntKind.i64.wrap (Int.tdiv x3 10)) == 0))) rfl rfl rfl (AWops.nil ?_)
  rcases itH h with ⟨c6, h⟩ | ⟨c6, h⟩
  ·refine AW.cond_yes rfl c6 (AW.exit (AW.seq (AW.seq (AW.region ?_))))
   refine s_move (d := (sc (.int .i64 a0))) rfl ?_
   refine s_binI (v := (.bool (decide (a0 < 0)))) rfl rfl rfl (AWops.nil ?_)
   rcases itH h with ⟨c7, h⟩ | ⟨c7, h⟩
   ·refine AW.cond_yes rfl c7 (AW.seq (AW.region ?_))
    refine s_move (d := (sc (.int .i64 (IntKind.i64.wrap (x2 - 1))))) rfl ?_
    refine s_binI (v := (.int .i64 (IntKind.i64.wrap ((IntKind.i64.wrap (x2 - 1)) - 1)))) rfl rfl rfl ?_
    refine s_assign (d := (sc (.int .i64 (IntKind.i64.wrap ((IntKind.i64.wrap (x2 - 1)) - 1))))) rfl (AWops.nil (AW.region ?_))
    refine s_move (d := (sc (.int .i64 (IntKind.i64.wrap ((IntKind.i64.wrap (x2 - 1)) - 1))))) rfl ?_
    obtain ⟨c8, h⟩ := gdH h
    obtain ⟨v9, ev9, h⟩ := bnd h
    obtain ⟨pv9, qv9, gv9⟩ := rd_some ev9
    refine s_indexArr (n := 20) (d := (D.one (C.ref 0 (0 + (IntKind.i64.wrap ((IntKind.i64.wrap (x2 - 1)) - 1)).toNat * 1)))) F.u_88 F.sz_5 rfl rfl pv9 (of_decide_eq_true c8) rfl ?_
    refine s_store (cs' := rowC e_u8 ((x1.set (IntKind.i64.wrap (x2 - 1)).toNat (IntKind.u8.wrap (IntKind.i64.wrap (48 + (if (IntKind.i64.wrap (0 - (Int.tmod x3 10))) > (Int.tmod x3 10) then (IntKind.i64.wrap (0 - (Int.tmod x3 10))) else (Int.tmod x3 10)))))).set (IntKind.i64.wrap ((IntKind.i64.wrap (x2 - 1)) - 1)).toNat 45)) rfl rfl rfl (List.cons_ne_nil _ _) rfl F.sz_5 (by rw [row_len e_u8_len]; have := (List.getElem?_eq_some_iff.mp gv9).1; show _ + 1 ≤ _; omega) (row_set (f := e_u8) (sz := 1) (o := 0) (ds := [P.v (.int .u8 45)]) e_u8_len gv9 rfl (nl rfl) rfl) ?_
    refine AWops.nil (AW.seq (AW.region ?_))
    refine s_move (d := (sc (.int .i64 (IntKind.i64.wrap ((IntKind.i64.wrap (x2 - 1)) - 1))))) rfl ?_
    obtain ⟨c10, h⟩ := gdH h
    have dc10 := of_decide_eq_true c10
    refine s_sliceArr (n := 20) (l := (IntKind.i64.wrap ((IntKind.i64.wrap (x2 - 1)) - 1)).toNat) (h := 20) F.u_88 F.sz_5 rfl rfl (by rw [row_len e_u8_len]; omega) (.yes rfl (by omega) rfl) .no (by omega) (Nat.le_refl _) (by omega) rfl ?_
    refine t_toStrO (xs := (x1.set (IntKind.i64.wrap (x2 - 1)).toNat (IntKind.u8.wrap (IntKind.i64.wrap (48 + (if (IntKind.i64.wrap (0 - (Int.tmod x3 10))) > (Int.tmod x3 10) then (IntKind.i64.wrap (0 - (Int.tmod x3 10))) else (Int.tmod x3 10)))))).set (IntKind.i64.wrap ((IntKind.i64.wrap (x2 - 1)) - 1)).toNat 45) (l := (IntKind.i64.wrap ((IntKind.i64.wrap (x2 - 1)) - 1)).toNat) (n := 20 - (IntKind.i64.wrap ((IntKind.i64.wrap (x2 - 1)) - 1)).toNat) F.u_89 F.u_5 F.u_9 rfl rfl (by omega) ?_
    refine s_assign (d := (sc (.string (ofNums ((((x1.set (IntKind.i64.wrap (x2 - 1)).toNat (IntKind.u8.wrap (IntKind.i64.wrap (48 + (if (IntKind.i64.wrap (0 - (Int.tmod x3 10))) > (Int.tmod x3 10) then (IntKind.i64.wrap (0 - (Int.tmod x3 10))) else (Int.tmod x3 10)))))).set (IntKind.i64.wrap ((IntKind.i64.wrap (x2 - 1)) - 1)).toNat 45).drop (IntKind.i64.wrap ((IntKind.i64.wrap (x2 - 1)) - 1)).toNat).take (20 - (IntKind.i64.wrap ((IntKind.i64.wrap (x2 - 1)) - 1)).toNat)))))) rfl (AWops.nil (AW.ret ?_))
    obtain rfl := Option.some.inj h
    exact ⟨_, rfl, (Weak.gen (kk := 0) [] [] rfl rfl (by decide) (by decide) rfl rfl rfl (le_upd (le_top _) (.t (.one .sc))) an)⟩
   ·refine AW.cond_no rfl c7 (AW.skip (AW.seq (AW.region ?_)))
    refine s_move (d := (sc (.int .i64 (IntKind.i64.wrap (x2 - 1))))) rfl ?_
    obtain ⟨c11, h⟩ := gdH h
    have dc11 := of_decide_eq_true c11
    refine s_sliceArr (n := 20) (l := (IntKind.i64.wrap (x2 - 1)).toNat) (h := 20) F.u_88 F.sz_5 rfl rfl (by rw [row_len e_u8_len]; omega) (.yes rfl (by omega) rfl) .no (by omega) (Nat.le_refl _) (by omega) rfl ?_
    refine t_toStrO (xs := x1.set (IntKind.i64.wrap (x2 - 1)).toNat (IntKind.u8.wrap (IntKind.i64.wrap (48 + (if (IntKind.i64.wrap (0 - (Int.tmod x3 10))) > (Int.tmod x3 10) then (IntKind.i64.wrap (0 - (Int.tmod x3 10))) else (Int.tmod x3 10)))))) (l := (IntKind.i64.wrap (x2 - 1)).toNat) (n := 20 - (IntKind.i64.wrap (x2 - 1)).toNat) F.u_89 F.u_5 F.u_9 rfl rfl (by omega) ?_
    refine s_assign (d := (sc (.string (ofNums (((x1.set (IntKind.i64.wrap (x2 - 1)).toNat (IntKind.u8.wrap (IntKind.i64.wrap (48 + (if (IntKind.i64.wrap (0 - (Int.tmod x3 10))) > (Int.tmod x3 10) then (IntKind.i64.wrap (0 - (Int.tmod x3 10))) else (Int.tmod x3 10)))))).drop (IntKind.i64.wrap (x2 - 1)).toNat).take (20 - (IntKind.i64.wrap (x2 - 1)).toNat)))))) rfl (AWops.nil (AW.ret ?_))
    obtain rfl := Option.some.inj h
    exact ⟨_, rfl, (Weak.gen (kk := 0) [] [] rfl rfl (by decide) (by decide) rfl rfl rfl (le_upd (le_top _) (.t (.one .sc))) an)⟩
  ·refine AW.cond_no rfl c6 (AW.skip (AW.region ?_))
   refine s_move (d := (sc (.int .i64 x3))) rfl ?_
   refine s_binI (v := (.int .i64 (IntKind.i64.wrap (Int.tdiv x3 10)))) rfl rfl rfl ?_
   refine s_assign (d := (sc (.int .i64 (IntKind.i64.wrap (Int.tdiv x3 10))))) rfl (AWops.nil ?_)
   exact ⟨_, ⟨34, (upd 34 (upd 34 (upd 34 (upd 34 topF 0 (sc (.int .i64 a0))) 3 (D.one (C.ref 0 0))) 4 (sc (.int .i64 (IntKind.i64.wrap (x2 - 1))))) 5 (sc (.int .i64 (IntKind.i64.wrap (Int.tdiv x3 10))))), [(some (AObj.cells true (rowC e_u8 (x1.set (IntKind.i64.wrap (x2 - 1)).toNat (IntKind.u8.wrap (IntKind.i64.wrap (48 + (if (IntKind.i64.wrap (0 - (Int.tmod x3 10))) > (Int.tmod x3 10) then (IntKind.i64.wrap (0 - (Int.tmod x3 10))) else (Int.tmod x3 10)))))))))]⟩, by omega, (Weak.gen (kk := 0) [0] [] hx rfl (by decide) (by decide) rfl rfl rfl (le_upd (le_upd (le_upd (le_upd (le_top _) (.t (.one .sc))) (.t (.one (.ref rfl)))) (.t (.one .sc))) (.t (.one .sc))) (ac (.cells (fun h => h) (all2_row _)) an)), by omega, x1.set (IntKind.i64.wrap (x2 - 1)).toNat (IntKind.u8.wrap (IntKind.i64.wrap (48 + (if (IntKind.i64.wrap (0 - (Int.tmod x3 10))) > (Int.tmod x3 10) then (IntKind.i64.wrap (0 - (Int.tmod x3 10))) else (Int.tmod x3 10))))), IntKind.i64.wrap (x2 - 1), IntKind.i64.wrap (Int.tdiv x3 10), h, rfl⟩
def tree_Path.f (k : Nat) (a0 : ByteArray) (a1 : ByteArray) (a2 : Int) : Option ByteArray := if (decide (a1.size + (⟨#[46]⟩ : ByteArray).size ≤ 9223372036854775807)) = true then ((chars_Text.f k a2).bind fun r2 => if (decide ((a1 ++ (⟨#[46]⟩ : ByteArray)).size + r2.size ≤ 9223372036854775807)) = true then (if (a0.toList == (⟨#[]⟩ : ByteArray).toList) = true then (some ((a1 ++ (⟨#[46]⟩ : ByteArray)) ++ r2)) else (if (decide (a0.size + (⟨#[47]⟩ : ByteArray).size ≤ 9223372036854775807)) = true then (if (decide ((a0 ++ (⟨#[47]⟩ : ByteArray)).size + ((a1 ++ (⟨#[46]⟩ : ByteArray)) ++ r2).size ≤ 9223372036854775807)) = true then (some ((a0 ++ (⟨#[47]⟩ : ByteArray)) ++ ((a1 ++ (⟨#[46]⟩ : ByteArray)) ++ r2))) else none) else none)) else none) else none
theorem tree_Path.meets (k : Nat) (a0 : ByteArray) (a1 : ByteArray) (a2 : Int) (r : ByteArray) (h : tree_Path.f k a0 a1 a2 = some r) : Meets Tryd.prog 42 [(sc (.string a0)), (sc (.string a1)), (sc (.int .i64 a2))] [] (sc (.string r)) [] := by
 unfold tree_Path.f at h
 refine Meets.of_body (n := 20) Tryd.func42 rfl rfl (nl rfl) fun x hx => ?_
 replace hx : x.k = 0 := hx
 show AW _ x _ _ ⟨20, fr0 [(sc (.string a0)), (sc (.string a1)), (sc (.int .i64 a2))], []⟩
 refine AW.seq (AW.region ?_)
 refine s_assign (d := (sc (.string (⟨#[]⟩ : ByteArray)))) rfl (AWops.nil (AW.seq (AW.region ?_)))
 refine s_move (d := (sc (.string a1))) rfl ?_
 obtain ⟨c1, h⟩ := gdH h
 refine s_binS (v := (.string (a1 ++ (⟨#[46]⟩ : ByteArray)))) rfl rfl (if_neg (by have := of_decide_eq_true c1; omega)) ?_
 refine s_move (d := (sc (.int .i64 a2))) rfl ?_
 obtain ⟨r2, er2, h⟩ := bnd h
 refine s_call2 (ρ := []) (br := false) (H2 := []) (d := (sc (.string r2))) F.ca_50 rfl rfl (ac (.one .sc) an) an (by decide) rfl (chars_Text.meets _ a2 r2 er2) (.inl rfl) rfl rfl ?_
 obtain ⟨c3, h⟩ := gdH h
 refine s_binS (v := (.string ((a1 ++ (⟨#[46]⟩ : ByteArray)) ++ r2))) rfl rfl (if_neg (by have := of_decide_eq_true c3; omega)) ?_
 refine s_assign (d := (sc (.string ((a1 ++ (⟨#[46]⟩ : ByteArray)) ++ r2)))) rfl (AWops.nil (AW.seq (AW.seq (AW.region ?_))))
 refine s_move (d := (sc (.string a0))) rfl ?_
 refine s_binS (v := (.bool (!(a0.toList == (⟨#[]⟩ : ByteArray).toList)))) rfl rfl rfl (AWops.nil ?_)
 rcases itH h with ⟨c4, h⟩ | ⟨c4, h⟩
 ·refine AW.cond_no rfl (by rw [c4] <;> rfl) (AW.skip (AW.seq (AW.region ?_)))
  refine s_move (d := (sc (.string ((a1 ++ (⟨#[46]⟩ : ByteArray)) ++ r2)))) rfl ?_
  refine s_assign (d := (sc (.string ((a1 ++ (⟨#[46]⟩ : ByteArray)) ++ r2)))) rfl (AWops.nil (AW.ret ?_))
  obtain rfl := Option.some.inj h
  exact ⟨_, rfl, (Weak.gen (kk := 0) [] [] rfl rfl (by decide) (by decide) rfl rfl rfl (le_upd (le_top _) (.t (.one .sc))) an)⟩
 ·refine AW.cond_yes rfl (by rw [c4] <;> rfl) (AW.region ?_)
  refine s_move (d := (sc (.string a0))) rfl ?_
  obtain ⟨c5, h⟩ := gdH h
  refine s_binS (v := (.string (a0 ++ (⟨#[47]⟩ : ByteArray)))) rfl rfl (if_neg (by have := of_decide_eq_true c5; omega)) ?_
  refine s_move (d := (sc (.string ((a1 ++ (⟨#[46]⟩ : ByteArray)) ++ r2)))) rfl ?_
  obtain ⟨c6, h⟩ := gdH h
  refine s_binS (v := (.string ((a0 ++ (⟨#[47]⟩ : ByteArray)) ++ ((a1 ++ (⟨#[46]⟩ : ByteArray)) ++ r2)))) rfl rfl (if_neg (by have := of_decide_eq_true c6; omega)) ?_
  refine s_assign (d := (sc (.string ((a0 ++ (⟨#[47]⟩ : ByteArray)) ++ ((a1 ++ (⟨#[46]⟩ : ByteArray)) ++ r2))))) rfl (AWops.nil (AW.seq (AW.region ?_)))
  refine s_move (d := (sc (.string ((a0 ++ (⟨#[47]⟩ : ByteArray)) ++ ((a1 ++ (⟨#[46]⟩ : ByteArray)) ++ r2))))) rfl ?_
  refine s_assign (d := (sc (.string ((a0 ++ (⟨#[47]⟩ : ByteArray)) ++ ((a1 ++ (⟨#[46]⟩ : ByteArray)) ++ r2))))) rfl (AWops.nil (AW.ret ?_))
  obtain rfl := Option.some.inj h
  exact ⟨_, rfl, (Weak.gen (kk := 0) [] [] rfl rfl (by decide) (by decide) rfl rfl rfl (le_upd (le_top _) (.t (.one .sc))) an)⟩
def tree_Up.f (k : Nat) (a0 : ByteArray) : Option ByteArray := (strings_LastIndexByte.f k a0 47).bind fun r1 => if (decide (0 ≤ 0 ∧ 0 ≤ (if r1 > 0 then r1 else 0) ∧ (if r1 > 0 then r1 else 0) ≤ (a0.size : Int))) = true then (some (a0.extract 0 (if r1 > 0 then r1 else 0).toNat)) else none
theorem tree_Up.meets (k : Nat) (a0 : ByteArray) (r : ByteArray) (h : tree_Up.f k a0 = some r) : Meets Tryd.prog 43 [(sc (.string a0))] [] (sc (.string r)) [] := by
 unfold tree_Up.f at h
 refine Meets.of_body (n := 8) Tryd.func43 rfl rfl (nl rfl) fun x hx => ?_
 replace hx : x.k = 0 := hx
 show AW _ x _ _ ⟨8, fr0 [(sc (.string a0))], []⟩
 refine AW.seq (AW.region ?_)
 refine s_assign (d := (sc (.string (⟨#[]⟩ : ByteArray)))) rfl (AWops.nil (AW.seq (AW.region ?_)))
 refine s_move (d := (sc (.string a0))) rfl ?_
 refine s_move (d := (sc (.string a0))) rfl ?_
 obtain ⟨r1, er1, h⟩ := bnd h
 refine s_call2 (ρ := []) (br := false) (H2 := []) (d := (sc (.int .i64 r1))) F.ca_54 rfl rfl (ac (.one .sc) (ac (.one .sc) an)) an (by decide) rfl (strings_LastIndexByte.meets _ a0 47 r1 er1) (.inl rfl) rfl rfl ?_
 refine s_max2 (r := (if r1 > 0 then r1 else 0)) rfl rfl rfl ?_
 obtain ⟨c2, h⟩ := gdH h
 have dc2 := of_decide_eq_true c2
 refine s_sliceStr F.u_9 rfl .no (.yes rfl (by omega) rfl) (by omega) (by omega) ?_
 refine s_assign (d := (sc (.string (a0.extract 0 (if r1 > 0 then r1 else 0).toNat)))) rfl (AWops.nil (AW.ret ?_))
 obtain rfl := Option.some.inj h
 exact ⟨_, rfl, (Weak.gen (kk := 0) [] [] rfl rfl (by decide) (by decide) rfl rfl rfl (le_upd (le_top _) (.t (.one .sc))) an)⟩
def dossierlaw18_awake.f (k : Nat) : Option Bool := (tree_Path.f k (⟨#[112, 46, 49]⟩ : ByteArray) (⟨#[116]⟩ : ByteArray) 2).bind fun r1 => if (r1.toList == (⟨#[112, 46, 49, 47, 116, 46, 50]⟩ : ByteArray).toList) = true then ((tree_Up.f k (⟨#[112, 46, 49, 47, 116, 46, 50]⟩ : ByteArray)).bind fun r3 => some (r3.toList == (⟨#[112, 46, 49]⟩ : ByteArray).toList)) else (some false)
theorem dossierlaw18_awake.meets (k : Nat) (r : Bool) (h : dossierlaw18_awake.f k = some r) : Meets Tryd.prog 11 [] [] (sc (.bool r)) [] := by
 unfold dossierlaw18_awake.f at h
 refine Meets.of_body (n := 7) Tryd.func11 rfl rfl (nl rfl) fun x hx => ?_
 replace hx : x.k = 0 := hx
 show AW _ x _ _ ⟨7, fr0 [], []⟩
 refine AW.seq (AW.region ?_)
 refine s_assign (d := (sc (.bool false))) rfl (AWops.nil (AW.seq (AW.region ?_)))
 obtain ⟨r1, er1, h⟩ := bnd h
 refine s_call2 (ρ := []) (br := false) (H2 := []) (d := (sc (.string r1))) F.ca_42 rfl rfl (ac (.one .sc) (ac (.one .sc) (ac (.one .sc) an))) an (by decide) rfl (tree_Path.meets _ (⟨#[112, 46, 49]⟩ : ByteArray) (⟨#[116]⟩ : ByteArray) 2 r1 er1) (.inl rfl) rfl rfl ?_
 refine s_binS (v := (.bool (r1.toList == (⟨#[112, 46, 49, 47, 116, 46, 50]⟩ : ByteArray).toList))) rfl rfl rfl ?_
 refine s_move (d := (sc (.bool (r1.toList == (⟨#[112, 46, 49, 47, 116, 46, 50]⟩ : ByteArray).toList)))) rfl ?_
 rcases itH h with ⟨c2, h⟩ | ⟨c2, h⟩
 ·refine AWops.guard_yes rfl (nl rfl) rfl c2 ?_
  obtain ⟨r3, er3, h⟩ := bnd h
  refine s_call2 (ρ := []) (br := false) (H2 := []) (d := (sc (.string r3))) F.ca_43 rfl rfl (ac (.one .sc) an) an (by decide) rfl (tree_Up.meets _ (⟨#[112, 46, 49, 47, 116, 46, 50]⟩ : ByteArray) r3 er3) (.inl rfl) rfl rfl ?_
  refine AWops.guard_yes rfl (nl rfl) rfl c2 ?_
  refine s_binS (v := (.bool (r3.toList == (⟨#[112, 46, 49]⟩ : ByteArray).toList))) rfl rfl rfl ?_
  refine s_pick_yes (d := (sc (.bool (r3.toList == (⟨#[112, 46, 49]⟩ : ByteArray).toList)))) rfl c2 rfl ?_
  refine s_assign (d := (sc (.bool (r3.toList == (⟨#[112, 46, 49]⟩ : ByteArray).toList)))) rfl (AWops.nil (AW.ret ?_))
  obtain rfl := Option.some.inj h
  exact ⟨_, rfl, (Weak.gen (kk := 0) [] [] rfl rfl (by decide) (by decide) rfl rfl rfl (le_upd (le_top _) (.t (.one .sc))) an)⟩
 ·refine AWops.guard_no rfl (nl rfl) rfl c2 ?_
  refine AWops.guard_no rfl (nl rfl) rfl c2 ?_
  refine s_pick_no (d := (sc (.bool false))) rfl c2 rfl ?_
  refine s_assign (d := (sc (.bool false))) rfl (AWops.nil (AW.ret ?_))
  obtain rfl := Option.some.inj h
  exact ⟨_, rfl, (Weak.gen (kk := 0) [] [] rfl rfl (by decide) (by decide) rfl rfl rfl (le_upd (le_top _) (.t (.one .sc))) an)⟩
def dossierlaw18_TreeOrders.f (k : Nat) (a0 : ByteArray) (a1 : ByteArray) (a2 : ByteArray) : Option Bool := (tree_Order.f k a0 a1).bind fun r1 => (dossierref18_Order.f k a0 a1).bind fun r2 => if (r1 != r2) = true then (some false) else ((tree_Order.f k a1 a0).bind fun r4 => (tree_Order.f k a0 a1).bind fun r5 => if (r4 != (IntKind.i64.wrap (0 - r5))) = true then (some false) else ((tree_Order.f k a0 a1).bind fun r7 => if ((r7 == 0) == (a0.toList == a1.toList)) = true then ((tree_Order.f k a0 a1).bind fun r9 => if (decide (r9 > 0)) = true then ((dossierlaw18_awake.f k).bind fun r11 => some r11) else ((tree_Order.f k a1 a2).bind fun r12 => if (decide (r12 > 0)) = true then ((dossierlaw18_awake.f k).bind fun r14 => some r14) else ((tree_Order.f k a0 a2).bind fun r15 => if (decide (r15 ≤ 0)) = true then ((dossierlaw18_awake.f k).bind fun r17 => some r17) else (some false)))) else (some false)))
theorem dossierlaw18_TreeOrders.meets (k : Nat) (a0 : ByteArray) (a1 : ByteArray) (a2 : ByteArray) (r : Bool) (h : dossierlaw18_TreeOrders.f k a0 a1 a2 = some r) : Meets Tryd.prog 3 [(sc (.string a0)), (sc (.string a1)), (sc (.string a2))] [] (sc (.bool r)) [] := by
 unfold dossierlaw18_TreeOrders.f at h
 refine Meets.of_body (n := 53) Tryd.func3 rfl rfl (nl rfl) fun x hx => ?_
 replace hx : x.k = 0 := hx
 show AW _ x _ _ ⟨53, fr0 [(sc (.string a0)), (sc (.string a1)), (sc (.string a2))], []⟩
 refine AW.seq (AW.region ?_)
 refine s_assign (d := (sc (.bool false))) rfl (AWops.nil (AW.seq (AW.seq (AW.region ?_))))
 refine s_move (d := (sc (.string a0))) rfl ?_
 refine s_move (d := (sc (.string a1))) rfl ?_
 obtain ⟨r1, er1, h⟩ := bnd h
 refine s_call2 (ρ := []) (br := false) (H2 := []) (d := (sc (.int .i64 r1))) F.ca_9 rfl rfl (ac (.one .sc) (ac (.one .sc) an)) an (by decide) rfl (tree_Order.meets _ a0 a1 r1 er1) (.inl rfl) rfl rfl ?_
 refine s_move (d := (sc (.string a0))) rfl ?_
 refine s_move (d := (sc (.string a1))) rfl ?_
 obtain ⟨r2, er2, h⟩ := bnd h
 refine s_call2 (ρ := []) (br := false) (H2 := []) (d := (sc (.int .i64 r2))) F.ca_10 rfl rfl (ac (.one .sc) (ac (.one .sc) an)) an (by decide) rfl (dossierref18_Order.meets _ a0 a1 r2 er2) (.inl rfl) rfl rfl ?_
 refine s_binI (v := (.bool (r1 != r2))) rfl rfl rfl ?_
 refine s_move (d := (sc (.bool (r1 != r2)))) rfl ?_
 rcases itH h with ⟨c3, h⟩ | ⟨c3, h⟩
 ·iterate 8 refine AWops.guard_no rfl (nl rfl) rfl c3 ?_
  refine s_pick_yes (d := (sc (.bool true))) rfl c3 rfl ?_
  refine s_move (d := (sc (.bool true))) rfl ?_
  iterate 8 refine AWops.guard_no rfl (nl rfl) rfl rfl ?_
  refine s_pick_yes (d := (sc (.bool true))) rfl rfl rfl (AWops.nil ?_)
  refine AW.cond_yes rfl rfl (AW.seq (AW.region ?_))
  refine s_assign (d := (sc (.bool false))) rfl (AWops.nil (AW.ret ?_))
  obtain rfl := Option.some.inj h
  exact ⟨_, rfl, (Weak.gen (kk := 0) [] [] rfl rfl (by decide) (by decide) rfl rfl rfl (le_upd (le_top _) (.t (.one .sc))) an)⟩
 ·refine AWops.guard_yes rfl (nl rfl) rfl c3 ?_
  refine s_move (d := (sc (.string a1))) rfl ?_
  refine AWops.guard_yes rfl (nl rfl) rfl c3 ?_
  refine s_move (d := (sc (.string a0))) rfl ?_
  refine AWops.guard_yes rfl (nl rfl) rfl c3 ?_
  obtain ⟨r4, er4, h⟩ := bnd h
  refine s_call2 (ρ := []) (br := false) (H2 := []) (d := (sc (.int .i64 r4))) F.ca_9 rfl rfl (ac (.one .sc) (ac (.one .sc) an)) an (by decide) rfl (tree_Order.meets _ a1 a0 r4 er4) (.inl rfl) rfl rfl ?_
  refine AWops.guard_yes rfl (nl rfl) rfl c3 ?_
  refine s_move (d := (sc (.string a0))) rfl ?_
  refine AWops.guard_yes rfl (nl rfl) rfl c3 ?_
  refine s_move (d := (sc (.string a1))) rfl ?_
  refine AWops.guard_yes rfl (nl rfl) rfl c3 ?_
  obtain ⟨r5, er5, h⟩ := bnd h
  refine s_call2 (ρ := []) (br := false) (H2 := []) (d := (sc (.int .i64 r5))) F.ca_9 rfl rfl (ac (.one .sc) (ac (.one .sc) an)) an (by decide) rfl (tree_Order.meets _ a0 a1 r5 er5) (.inl rfl) rfl rfl ?_
  refine AWops.guard_yes rfl (nl rfl) rfl c3 ?_
  refine s_unI (v := (.int .i64 (IntKind.i64.wrap (0 - r5)))) rfl rfl ?_
  refine AWops.guard_yes rfl (nl rfl) rfl c3 ?_
  refine s_binI (v := (.bool (r4 != (IntKind.i64.wrap (0 - r5))))) rfl rfl rfl ?_
  refine s_pick_no (d := (sc (.bool (r4 != (IntKind.i64.wrap (0 - r5)))))) rfl c3 rfl ?_
  refine s_move (d := (sc (.bool (r4 != (IntKind.i64.wrap (0 - r5)))))) rfl ?_
  rcases itH h with ⟨c6, h⟩ | ⟨c6, h⟩
  ·iterate 8 refine AWops.guard_no rfl (nl rfl) rfl c6 ?_
   refine s_pick_yes (d := (sc (.bool true))) rfl c6 rfl (AWops.nil ?_)
   refine AW.cond_yes rfl rfl (AW.seq (AW.region ?_))
   refine s_assign (d := (sc (.bool false))) rfl (AWops.nil (AW.ret ?_))
   obtain rfl := Option.some.inj h
   exact ⟨_, rfl, (Weak.gen (kk := 0) [] [] rfl rfl (by decide) (by decide) rfl rfl rfl (le_upd (le_top _) (.t (.one .sc))) an)⟩
  ·refine AWops.guard_yes rfl (nl rfl) rfl c6 ?_
   refine s_move (d := (sc (.string a0))) rfl ?_
   refine AWops.guard_yes rfl (nl rfl) rfl c6 ?_
   refine s_move (d := (sc (.string a1))) rfl ?_
   refine AWops.guard_yes rfl (nl rfl) rfl c6 ?_
   obtain ⟨r7, er7, h⟩ := bnd h
   refine s_call2 (ρ := []) (br := false) (H2 := []) (d := (sc (.int .i64 r7))) F.ca_9 rfl rfl (ac (.one .sc) (ac (.one .sc) an)) an (by decide) rfl (tree_Order.meets _ a0 a1 r7 er7) (.inl rfl) rfl rfl ?_
   refine AWops.guard_yes rfl (nl rfl) rfl c6 ?_
   refine s_binI (v := (.bool (r7 == 0))) rfl rfl rfl ?_
   refine AWops.guard_yes rfl (nl rfl) rfl c6 ?_
   refine s_move (d := (sc (.string a0))) rfl ?_
   refine AWops.guard_yes rfl (nl rfl) rfl c6 ?_
   refine s_move (d := (sc (.string a1))) rfl ?_
   refine AWops.guard_yes rfl (nl rfl) rfl c6 ?_
   refine s_binS (v := (.bool (a0.toList == a1.toList))) rfl rfl rfl ?_
   refine AWops.guard_yes rfl (nl rfl) rfl c6 ?_
   refine s_binB (b := (!((r7 == 0) == (a0.toList == a1.toList)))) F.u_4 rfl rfl (.inr ⟨rfl, rfl⟩) ?_
   refine s_pick_no (d := (sc (.bool (!((r7 == 0) == (a0.toList == a1.toList)))))) rfl c6 rfl (AWops.nil ?_)
   rcases itH h with ⟨c8, h⟩ | ⟨c8, h⟩
   ·refine AW.cond_no rfl (by rw [c8] <;> rfl) (AW.skip (AW.seq (AW.region ?_)))
    refine s_move (d := (sc (.string a0))) rfl ?_
    refine s_move (d := (sc (.string a1))) rfl ?_
    obtain ⟨r9, er9, h⟩ := bnd h
    refine s_call2 (ρ := []) (br := false) (H2 := []) (d := (sc (.int .i64 r9))) F.ca_9 rfl rfl (ac (.one .sc) (ac (.one .sc) an)) an (by decide) rfl (tree_Order.meets _ a0 a1 r9 er9) (.inl rfl) rfl rfl ?_
    refine s_binI (v := (.bool (decide (r9 > 0)))) rfl rfl rfl ?_
    refine s_move (d := (sc (.bool (decide (r9 > 0))))) rfl ?_
    rcases itH h with ⟨c10, h⟩ | ⟨c10, h⟩
    ·iterate 4 refine AWops.guard_no rfl (nl rfl) rfl c10 ?_
     refine s_pick_yes (d := (sc (.bool true))) rfl c10 rfl ?_
     refine s_move (d := (sc (.bool true))) rfl ?_
     iterate 4 refine AWops.guard_no rfl (nl rfl) rfl rfl ?_
     refine s_pick_yes (d := (sc (.bool true))) rfl rfl rfl ?_
     refine s_move (d := (sc (.bool true))) rfl ?_
     refine AWops.guard_yes rfl (nl rfl) rfl rfl ?_
     obtain ⟨r11, er11, h⟩ := bnd h
     refine s_call2 (ρ := []) (br := false) (H2 := []) (d := (sc (.bool r11))) F.ca_11 rfl rfl an an (by decide) rfl (dossierlaw18_awake.meets _  r11 er11) (.inl rfl) rfl rfl ?_
     refine s_pick_yes (d := (sc (.bool r11))) rfl rfl rfl ?_
     refine s_assign (d := (sc (.bool r11))) rfl (AWops.nil (AW.ret ?_))
     obtain rfl := Option.some.inj h
     exact ⟨_, rfl, (Weak.gen (kk := 0) [] [] rfl rfl (by decide) (by decide) rfl rfl rfl (le_upd (le_top _) (.t (.one .sc))) an)⟩
    ·refine AWops.guard_yes rfl (nl rfl) rfl c10 ?_
     refine s_move (d := (sc (.string a1))) rfl ?_
     refine AWops.guard_yes rfl (nl rfl) rfl c10 ?_
     refine s_move (d := (sc (.string a2))) rfl ?_
     refine AWops.guard_yes rfl (nl rfl) rfl c10 ?_
     obtain ⟨r12, er12, h⟩ := bnd h
     refine s_call2 (ρ := []) (br := false) (H2 := []) (d := (sc (.int .i64 r12))) F.ca_9 rfl rfl (ac (.one .sc) (ac (.one .sc) an)) an (by decide) rfl (tree_Order.meets _ a1 a2 r12 er12) (.inl rfl) rfl rfl ?_
     refine AWops.guard_yes rfl (nl rfl) rfl c10 ?_
     refine s_binI (v := (.bool (decide (r12 > 0)))) rfl rfl rfl ?_
     refine s_pick_no (d := (sc (.bool (decide (r12 > 0))))) rfl c10 rfl ?_
     refine s_move (d := (sc (.bool (decide (r12 > 0))))) rfl ?_
     rcases itH h with ⟨c13, h⟩ | ⟨c13, h⟩
     ·iterate 4 refine AWops.guard_no rfl (nl rfl) rfl c13 ?_
      refine s_pick_yes (d := (sc (.bool true))) rfl c13 rfl ?_
      refine s_move (d := (sc (.bool true))) rfl ?_
      refine AWops.guard_yes rfl (nl rfl) rfl rfl ?_
      obtain ⟨r14, er14, h⟩ := bnd h
      refine s_call2 (ρ := []) (br := false) (H2 := []) (d := (sc (.bool r14))) F.ca_11 rfl rfl an an (by decide) rfl (dossierlaw18_awake.meets _  r14 er14) (.inl rfl) rfl rfl ?_
      refine s_pick_yes (d := (sc (.bool r14))) rfl rfl rfl ?_
      refine s_assign (d := (sc (.bool r14))) rfl (AWops.nil (AW.ret ?_))
      obtain rfl := Option.some.inj h
      exact ⟨_, rfl, (Weak.gen (kk := 0) [] [] rfl rfl (by decide) (by decide) rfl rfl rfl (le_upd (le_top _) (.t (.one .sc))) an)⟩
     ·refine AWops.guard_yes rfl (nl rfl) rfl c13 ?_
      refine s_move (d := (sc (.string a0))) rfl ?_
      refine AWops.guard_yes rfl (nl rfl) rfl c13 ?_
      refine s_move (d := (sc (.string a2))) rfl ?_
      refine AWops.guard_yes rfl (nl rfl) rfl c13 ?_
      obtain ⟨r15, er15, h⟩ := bnd h
      refine s_call2 (ρ := []) (br := false) (H2 := []) (d := (sc (.int .i64 r15))) F.ca_9 rfl rfl (ac (.one .sc) (ac (.one .sc) an)) an (by decide) rfl (tree_Order.meets _ a0 a2 r15 er15) (.inl rfl) rfl rfl ?_
      refine AWops.guard_yes rfl (nl rfl) rfl c13 ?_
      refine s_binI (v := (.bool (decide (r15 ≤ 0)))) rfl rfl rfl ?_
      refine s_pick_no (d := (sc (.bool (decide (r15 ≤ 0))))) rfl c13 rfl ?_
      refine s_move (d := (sc (.bool (decide (r15 ≤ 0))))) rfl ?_
      rcases itH h with ⟨c16, h⟩ | ⟨c16, h⟩
      ·refine AWops.guard_yes rfl (nl rfl) rfl c16 ?_
       obtain ⟨r17, er17, h⟩ := bnd h
       refine s_call2 (ρ := []) (br := false) (H2 := []) (d := (sc (.bool r17))) F.ca_11 rfl rfl an an (by decide) rfl (dossierlaw18_awake.meets _  r17 er17) (.inl rfl) rfl rfl ?_
       refine s_pick_yes (d := (sc (.bool r17))) rfl c16 rfl ?_
       refine s_assign (d := (sc (.bool r17))) rfl (AWops.nil (AW.ret ?_))
       obtain rfl := Option.some.inj h
       exact ⟨_, rfl, (Weak.gen (kk := 0) [] [] rfl rfl (by decide) (by decide) rfl rfl rfl (le_upd (le_top _) (.t (.one .sc))) an)⟩
      ·refine AWops.guard_no rfl (nl rfl) rfl c16 ?_
       refine s_pick_no (d := (sc (.bool false))) rfl c16 rfl ?_
       refine s_assign (d := (sc (.bool false))) rfl (AWops.nil (AW.ret ?_))
       obtain rfl := Option.some.inj h
       exact ⟨_, rfl, (Weak.gen (kk := 0) [] [] rfl rfl (by decide) (by decide) rfl rfl rfl (le_upd (le_top _) (.t (.one .sc))) an)⟩
   ·refine AW.cond_yes rfl (by rw [c8] <;> rfl) (AW.seq (AW.region ?_))
    refine s_assign (d := (sc (.bool false))) rfl (AWops.nil (AW.ret ?_))
    obtain rfl := Option.some.inj h
    exact ⟨_, rfl, (Weak.gen (kk := 0) [] [] rfl rfl (by decide) (by decide) rfl rfl rfl (le_upd (le_top _) (.t (.one .sc))) an)⟩
end Go.Abs.GenT
