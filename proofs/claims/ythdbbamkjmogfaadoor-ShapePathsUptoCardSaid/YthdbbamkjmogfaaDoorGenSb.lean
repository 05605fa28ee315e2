import Derived.Test.YthdbbamkjmogfaaDoorAbsSH
set_option linter.unusedVariables false
set_option linter.unusedSimpArgs false
set_option maxRecDepth 100000
set_option maxHeartbeats 4000000
namespace Go.Abs.GenS
open Go.Abs Go.Proofs
def bytealg_CompareString.f (k : Nat) (a0 : ByteArray) (a1 : ByteArray) : Option Int := some (cmpS a0 a1)
theorem bytealg_CompareString.meets (k : Nat) (a0 : ByteArray) (a1 : ByteArray) (r : Int) (h : bytealg_CompareString.f k a0 a1 = some r) : Meets Tryd.prog 32 [(st_ a0), (st_ a1)] [] (si r) [] := by
 unfold bytealg_CompareString.f at h
 refine Meets.of_body (n := 8) Tryd.func32 rfl rfl (nl rfl) fun x hx => ?_
 replace hx : x.k = 0 := hx
 show AW _ x _ _ ⟨8, fr0 [(st_ a0), (st_ a1)], []⟩
 refine AW.seq (AW.region ?_)
 refine s_assign (d := (si 0)) rfl (AWops.nil (AW.seq (AW.region ?_)))
 refine s_move (d := (st_ a0)) rfl (s_move (d := (st_ a1)) rfl (s_ext2 F.ex_44 rfl rfl rfl (run_cmp _ _) (s_assign (d := (si (cmpS a0 a1))) rfl (AWops.nil (AW.ret ?_)))))
 obtain rfl := Option.some.inj h
 exact ⟨_, rfl, (wg 0 [] [] rfl (le_upd (le_top _) (o1 .sc)) an)⟩
def strings_Compare.f (k : Nat) (a0 : ByteArray) (a1 : ByteArray) : Option Int := (bytealg_CompareString.f k a0 a1).bind fun r1 => some r1
theorem strings_Compare.meets (k : Nat) (a0 : ByteArray) (a1 : ByteArray) (r : Int) (h : strings_Compare.f k a0 a1 = some r) : Meets Tryd.prog 18 [(st_ a0), (st_ a1)] [] (si r) [] := by
 unfold strings_Compare.f at h
 refine Meets.of_body (n := 8) Tryd.func18 rfl rfl (nl rfl) fun x hx => ?_
 replace hx : x.k = 0 := hx
 show AW _ x _ _ ⟨8, fr0 [(st_ a0), (st_ a1)], []⟩
 refine AW.seq (AW.region ?_)
 refine s_assign (d := (si 0)) rfl (AWops.nil (AW.seq (AW.region ?_)))
 refine s_move (d := (st_ a0)) rfl (s_move (d := (st_ a1)) rfl ?_)
 obtain ⟨r1, er1, h⟩ := bnd h
 refine cc [] [] (si r1) F.ca_32 rfl rfl (ac (.one .sc) (ac (.one .sc) an)) an (bytealg_CompareString.meets _ a0 a1 r1 er1) (s_assign (d := (si r1)) rfl (AWops.nil (AW.ret ?_)))
 obtain rfl := Option.some.inj h
 exact ⟨_, rfl, (wg 0 [] [] rfl (le_upd (le_top _) (o1 .sc)) an)⟩
def cmp_isNaN_int.f (k : Nat) (a0 : Int) : Option Bool := some (a0 != a0)
theorem cmp_isNaN_int.meets (k : Nat) (a0 : Int) (r : Bool) (h : cmp_isNaN_int.f k a0 = some r) : Meets Tryd.prog 33 [(si a0)] [] (sb r) [] := by
 unfold cmp_isNaN_int.f at h
 refine Meets.of_body (n := 6) Tryd.func33 rfl rfl (nl rfl) fun x hx => ?_
 replace hx : x.k = 0 := hx
 show AW _ x _ _ ⟨6, fr0 [(si a0)], []⟩
 refine AW.seq (AW.region ?_)
 refine s_assign (d := (sb false)) rfl (AWops.nil (AW.seq (AW.region ?_)))
 refine s_move (d := (si a0)) rfl (s_move (d := (si a0)) rfl (s_binI (v := (.bool (a0 != a0))) rfl rfl rfl (s_assign (d := (sb (a0 != a0))) rfl (AWops.nil (AW.ret ?_)))))
 obtain rfl := Option.some.inj h
 exact ⟨_, rfl, (wg 0 [] [] rfl (le_upd (le_top _) (o1 .sc)) an)⟩
def cmp_Compare_int.f (k : Nat) (a0 : Int) (a1 : Int) : Option Int := (cmp_isNaN_int.f k a0).bind fun r1 => (cmp_isNaN_int.f k a1).bind fun r2 => if r1 = true then (if r2 = true then (some 0) else (some (-1))) else (if r2 = true then (some 1) else (if (decide (a0 < a1)) = true then (some (-1)) else (if (decide (a0 > a1)) = true then (some 1) else (some 0))))
theorem cmp_Compare_int.meets (k : Nat) (a0 : Int) (a1 : Int) (r : Int) (h : cmp_Compare_int.f k a0 a1 = some r) : Meets Tryd.prog 22 [(si a0), (si a1)] [] (si r) [] := by
 unfold cmp_Compare_int.f at h
 refine Meets.of_body (n := 20) Tryd.func22 rfl rfl (nl rfl) fun x hx => ?_
 replace hx : x.k = 0 := hx
 show AW _ x _ _ ⟨20, fr0 [(si a0), (si a1)], []⟩
 refine AW.seq (AW.region ?_)
 refine s_assign (d := (si 0)) rfl (AWops.nil (AW.seq (AW.region ?_)))
 refine s_move (d := (si a0)) rfl ?_
 obtain ⟨r1, er1, h⟩ := bnd h
 refine cc [] [] (sb r1) F.ca_33 rfl rfl (ac (.one .sc) an) an (cmp_isNaN_int.meets _ a0 r1 er1) (s_assign (d := (sb r1)) rfl (AWops.nil (AW.seq (AW.region (s_move (d := (si a1)) rfl ?_)))))
 obtain ⟨r2, er2, h⟩ := bnd h
 refine cc [] [] (sb r2) F.ca_33 rfl rfl (ac (.one .sc) an) an (cmp_isNaN_int.meets _ a1 r2 er2) (s_assign (d := (sb r2)) rfl (AWops.nil (AW.seq (AW.seq (AW.region (s_move (d := (sb r1)) rfl (AWops.nil ?_)))))))
 rcases itH h with ⟨c3, h⟩ | ⟨c3, h⟩
 ·refine AW.cond_yes rfl c3 (AW.seq (AW.seq (AW.region ?_)))
  refine s_move (d := (sb r2)) rfl (AWops.nil ?_)
  rcases itH h with ⟨c4, h⟩ | ⟨c4, h⟩
  ·refine AW.cond_yes rfl c4 (AW.seq (AW.region ?_))
   refine s_assign (d := (si 0)) rfl (AWops.nil (AW.ret ?_))
   obtain rfl := Option.some.inj h
   exact ⟨_, rfl, (wg 0 [] [] rfl (le_upd (le_top _) (o1 .sc)) an)⟩
  ·refine AW.cond_no rfl c4 (AW.skip (AW.seq (AW.region ?_)))
   refine s_assign (d := (si (-1))) rfl (AWops.nil (AW.ret ?_))
   obtain rfl := Option.some.inj h
   exact ⟨_, rfl, (wg 0 [] [] rfl (le_upd (le_top _) (o1 .sc)) an)⟩
 ·refine AW.cond_no rfl c3 (AW.skip (AW.seq (AW.seq (AW.region ?_))))
  refine s_move (d := (sb r2)) rfl (AWops.nil ?_)
  rcases itH h with ⟨c5, h⟩ | ⟨c5, h⟩
  ·refine AW.cond_yes rfl c5 (AW.seq (AW.region ?_))
   refine s_assign (d := (si 1)) rfl (AWops.nil (AW.ret ?_))
   obtain rfl := Option.some.inj h
   exact ⟨_, rfl, (wg 0 [] [] rfl (le_upd (le_top _) (o1 .sc)) an)⟩
  ·refine AW.cond_no rfl c5 (AW.skip (AW.seq (AW.seq (AW.region ?_))))
   refine s_move (d := (si a0)) rfl (s_move (d := (si a1)) rfl (s_binI (v := (.bool (decide (a0 < a1)))) rfl rfl rfl (AWops.nil ?_)))
   rcases itH h with ⟨c6, h⟩ | ⟨c6, h⟩
   ·refine AW.cond_yes rfl c6 (AW.seq (AW.region ?_))
    refine s_assign (d := (si (-1))) rfl (AWops.nil (AW.ret ?_))
    obtain rfl := Option.some.inj h
    exact ⟨_, rfl, (wg 0 [] [] rfl (le_upd (le_top _) (o1 .sc)) an)⟩
   ·refine AW.cond_no rfl c6 (AW.skip (AW.seq (AW.seq (AW.region ?_))))
    refine s_move (d := (si a0)) rfl (s_move (d := (si a1)) rfl (s_binI (v := (.bool (decide (a0 > a1)))) rfl rfl rfl (AWops.nil ?_)))
    rcases itH h with ⟨c7, h⟩ | ⟨c7, h⟩
    ·refine AW.cond_yes rfl c7 (AW.seq (AW.region ?_))
     refine s_assign (d := (si 1)) rfl (AWops.nil (AW.ret ?_))
     obtain rfl := Option.some.inj h
     exact ⟨_, rfl, (wg 0 [] [] rfl (le_upd (le_top _) (o1 .sc)) an)⟩
    ·refine AW.cond_no rfl c7 (AW.skip (AW.seq (AW.region ?_)))
     refine s_assign (d := (si 0)) rfl (AWops.nil (AW.ret ?_))
     obtain rfl := Option.some.inj h
     exact ⟨_, rfl, (wg 0 [] [] rfl (le_upd (le_top _) (o1 .sc)) an)⟩
mutual
def cmp_Or_int.l0 : Nat → Int → (List Int) → Option Int
 | 0, _, _ => none
 | k + 1, x1, a0 => if (decide (x1 < (a0.length : Int))) = true then ((rd a0 x1).bind fun v3 => if (v3 != 0) = true then (some v3) else (cmp_Or_int.l0 k (IntKind.i64.wrap (x1 + 1)) a0)) else (some 0)
end
def cmp_Or_int.f (k : Nat) (a0 : List Int) : Option Int := cmp_Or_int.l0 k 0 a0
theorem cmp_Or_int.meets (k : Nat) (a0 : List Int) (r : Int) (h : cmp_Or_int.f k a0 = some r) : Meets Tryd.prog 21 [(D.one (C.p false (.sl a0.length (a0.flatMap e_i64))))] [] (si r) [] := by
 unfold cmp_Or_int.f at h
 refine Meets.of_body (n := 18) Tryd.func21 rfl rfl (nl rfl) fun x hx => ?_
 replace hx : x.k = 0 := hx
 show AW _ x _ _ ⟨18, fr0 [(D.one (C.p false (.sl a0.length (a0.flatMap e_i64))))], []⟩
 refine AW.seq (AW.region ?_)
 refine s_assign (d := (si 0)) rfl (AWops.nil (AW.seq (AW.region ?_)))
 refine s_assign (d := (si 0)) rfl (AWops.nil (AW.seq (AW.seq (AW.region ?_))))
 refine s_move (d := (D.one (C.p false (.sl a0.length (a0.flatMap e_i64))))) rfl (s_len (n := a0.length) F.u_52 rfl (.inr ⟨(fun _ _ h => by cases h), ⟨_, rfl⟩⟩) (s_move (d := (si 0)) rfl (AWops.nil (AW.block ?_))))
 refine AW.loopw (st0 := ⟨18, (upd 18 (upd 18 (upd 18 (upd 18 topF 3 (si 0)) 6 (D.one (C.p false (.sl a0.length (a0.flatMap e_i64))))) 7 (si (a0.length : Int))) 8 (si 0)), []⟩) (fun kv st => kv ≤ k ∧ ∃ (x1 : Int), cmp_Or_int.l0 kv x1 a0 = some r ∧ st = ⟨18, (upd 18 (upd 18 (upd 18 (upd 18 topF 3 (si 0)) 6 (D.one (C.p false (.sl a0.length (a0.flatMap e_i64))))) 7 (si (a0.length : Int))) 8 (si x1)), []⟩) (k := k) (wg 0 [] [] hx (le_upd (le_upd (le_upd (le_upd (le_top _) (o1 .sc)) (o1 .same)) (o1 .sc)) (o1 .sc)) an) ⟨Nat.le_refl _, 0, h, rfl⟩ ?_
 rintro ql0 st ⟨hkl0, x1, h, rfl⟩
 cases ql0 with
 | zero => exact absurd h (by simp [cmp_Or_int.l0])
 | succ ql0 =>
  replace h := (cmp_Or_int.l0.eq_2 _ _ _).symm.trans h
  refine AW.seq (AW.region ?_)
  refine s_binI (v := (.bool (decide (x1 < (a0.length : Int))))) rfl rfl rfl (AWops.nil (AW.seq ?_))
  rcases itH h with ⟨c2, h⟩ | ⟨c2, h⟩
  ·refine AW.cond_yes rfl c2 (AW.skip (AW.seq (AW.block (AW.seq (AW.region ?_)))))
   obtain ⟨v3, ev3, h⟩ := bnd h
   obtain ⟨pv3, qv3, gv3⟩ := rd_some ev3
   refine s_indexImm (ps := [P.v (.int .i64 v3)]) F.u_52 F.sz_3 rfl rfl pv3 qv3 (flat_at e_i64_len gv3 (e_i64_eq v3)) (s_load1 (c' := (ci v3)) F.ag_3 rfl rfl (s_assign (d := (si v3)) rfl (AWops.nil (AW.seq (AW.region (s_move (d := (si v3)) rfl (s_move (d := (si 0)) rfl (s_binI (v := (.bool (v3 != 0))) rfl rfl rfl (AWops.nil ?_)))))))))
   rcases itH h with ⟨c4, h⟩ | ⟨c4, h⟩
   ·refine AW.cond_yes rfl c4 (AW.seq (AW.region ?_))
    refine s_move (d := (si v3)) rfl (s_assign (d := (si v3)) rfl (AWops.nil (AW.ret ?_)))
    obtain rfl := Option.some.inj h
    exact ⟨_, rfl, (wg 0 [] [] rfl (le_upd (le_top _) (o1 .sc)) an)⟩
   ·refine AW.cond_no rfl c4 (AW.skip (AW.region ?_))
    refine s_binI (v := (.int .i64 (IntKind.i64.wrap (x1 + 1)))) rfl rfl rfl (s_move (d := (si (IntKind.i64.wrap (x1 + 1)))) rfl (AWops.nil ?_))
    exact ⟨_, ⟨18, (upd 18 (upd 18 (upd 18 (upd 18 topF 3 (si 0)) 6 (D.one (C.p false (.sl a0.length (a0.flatMap e_i64))))) 7 (si (a0.length : Int))) 8 (si (IntKind.i64.wrap (x1 + 1)))), []⟩, by omega, (wg 0 [] [] hx (le_upd (le_upd (le_upd (le_upd (le_top _) (o1 .sc)) (o1 .same)) (o1 .sc)) (o1 .sc)) an), by omega, IntKind.i64.wrap (x1 + 1), h, rfl⟩
  ·refine AW.cond_no rfl c2 (AW.exit (AW.seq (AW.region ?_)))
   refine s_move (d := (si 0)) rfl (s_assign (d := (si 0)) rfl (AWops.nil (AW.ret ?_)))
   obtain rfl := Option.some.inj h
   exact ⟨_, rfl, (wg 0 [] [] rfl (le_upd (le_top _) (o1 .sc)) an)⟩
def shape_Order_1.f (k : Nat) (a0 : shape_piece) (a1 : shape_piece) : Option Int := (strings_Compare.f k a0.name a1.name).bind fun r1 => (cmp_Compare_int.f k a0.number a1.number).bind fun r2 => (cmp_Or_int.f k ([r1, r2] : List Int)).bind fun r3 => some r3
theorem shape_Order_1.meets (k : Nat) (a0 : shape_piece) (a1 : shape_piece) (r : Int) (h : shape_Order_1.f k a0 a1 = some r) : Meets Tryd.prog 20 [(D.agg (c_shape_piece a0)), (D.agg (c_shape_piece a1))] [] (si r) [] := by
 unfold shape_Order_1.f at h
 refine Meets.of_body (n := 17) Tryd.func20 rfl rfl (nl rfl) fun x hx => ?_
 replace hx : x.k = 0 := hx
 show AW _ x _ _ ⟨17, fr0 [(D.agg (c_shape_piece a0)), (D.agg (c_shape_piece a1))], []⟩
 refine AW.seq (AW.region ?_)
 refine s_box (cs := (c_shape_piece a0)) rfl (List.cons_ne_nil _ _) rfl (s_box (cs := (c_shape_piece a1)) rfl (List.cons_ne_nil _ _) rfl (s_assign (d := (si 0)) rfl (AWops.nil (AW.seq ?_))))
 refine AW.weak (st' := ⟨17, (upd 17 (upd 17 (upd 17 topF 2 (rf 0 0)) 3 (rf 1 0)) 4 (si 0)), [(some (AObj.cells true (c_shape_piece a0))), (some (AObj.cells true (c_shape_piece a1)))]⟩) (wg 0 [0, 1] [] hx (le_upd (le_upd (le_upd (le_top _) (o1 (.ref rfl))) (o1 (.ref rfl))) (o1 .sc)) (ac (.cells (fun _ => rfl) (ac .sc (ac .sc an))) (ac (.cells (fun _ => rfl) (ac .sc (ac .sc an))) an))) ?_
 obtain ⟨r1, er1, h⟩ := bnd h
 obtain ⟨r2, er2, h⟩ := bnd h
 obtain ⟨r3, er3, h⟩ := bnd h
 refine AW.draw (n := 17) (L := 6) [(ft 0 5 (rf 0 0) [(2, (rf 0 0))]), (1, ⟨some 6, (st_ a0.name), [(5, (rf 0 0))], [(0, (some (AObj.cells true (c_shape_piece a0))))], [], none⟩), (ft 2 7 (rf 1 0) [(3, (rf 1 0))]), (3, ⟨some 8, (st_ a1.name), [(7, (rf 1 0))], [(1, (some (AObj.cells true (c_shape_piece a1))))], [], none⟩), (ft 4 9 (si r1) [(6, (st_ a0.name)), (8, (st_ a1.name))]), (ft 5 10 (rf 0 1) [(2, (rf 0 0))]), (6, ⟨some 11, (si a0.number), [(10, (rf 0 1))], [(0, (some (AObj.cells true (c_shape_piece a0))))], [], none⟩), (ft 7 12 (rf 1 1) [(3, (rf 1 0))]), (8, ⟨some 13, (si a1.number), [(12, (rf 1 1))], [(1, (some (AObj.cells true (c_shape_piece a1))))], [], none⟩), (ft 9 14 (si r2) [(11, (si a0.number)), (13, (si a1.number))]), (10, ⟨some 15, (D.one (C.own 4 0 (([r1, r2] : List Int).length) 1)), [(9, (si r1)), (14, (si r2))], [], [(4, (some (AObj.cells true (rowC e_i64 ([r1, r2] : List Int)))))], some 4⟩), (11, ⟨some 16, (si r3), [(15, (D.one (C.own 4 0 (([r1, r2] : List Int).length) 1)))], [(4, (some (AObj.cells true (rowC e_i64 ([r1, r2] : List Int)))))], [], none⟩), (ft 12 4 (si r3) [(16, (si r3))])] [[], [0], [], [2], [0, 1, 2, 3], [], [5], [], [7], (.range 9), (.range 10), (.range 11), (.range 12)] (nl rfl) [0, 1, 0, 1, 2, 0, 1, 0, 1, 3, 4, 5, 6] rfl (TK := [(10, 4)]) rfl (AllK.cons' ⟨(tk_upd (tk_upd (tk_upd tk_top rfl) rfl) rfl), (tC rfl (tC rfl AllT.nil')), (fC (.inr rfl) (fC (.inr rfl) (fC (.inr rfl) (fC (.inr rfl) (fC (.inr rfl) (fC (.inr rfl) (fC (.inr rfl) (fC (.inr rfl) (fC (.inr rfl) (fC (.inr rfl) (fC (.inl rfl) (fC (.inl rfl) (fC (.inl rfl) AllF.nil')))))))))))))⟩ AllK.nil') (by repeat (first | refine fC ⟨?_, ?_⟩ ?_ | refine sC rfl ?_ | refine hC rfl ?_ | trivial)) ?_ ?_
 ·refine (pC ?_ (pC ?_ (pC ?_ (pC ?_ (pC ?_ (pC ?_ (pC ?_ (pC ?_ (pC ?_ (pC ?_ (pC ?_ (pC ?_ (pC ?_ AllStep.nil')))))))))))))
  ·intro K rest fr hv htk k
   show AWops _ x _ _ K ⟨17, (upd 17 fr 2 (rf 0 0)), [(hv 0), (hv 1), (hv 2), (hv 3), (hv 4), (hv 5)]⟩
   refine s_fieldRef F.fo_39_0 (by decide) rfl k
  ·intro K rest fr hv htk k
   show AWops _ x _ _ K ⟨17, (upd 17 fr 5 (rf 0 0)), [(some (AObj.cells true (c_shape_piece a0))), (hv 1), (hv 2), (hv 3), (hv 4), (hv 5)]⟩
   refine s_load1 (c' := (ct a0.name)) F.ag_9 rfl rfl k
  ·intro K rest fr hv htk k
   show AWops _ x _ _ K ⟨17, (upd 17 fr 3 (rf 1 0)), [(hv 0), (hv 1), (hv 2), (hv 3), (hv 4), (hv 5)]⟩
   refine s_fieldRef F.fo_39_0 (by decide) rfl k
  ·intro K rest fr hv htk k
   show AWops _ x _ _ K ⟨17, (upd 17 fr 7 (rf 1 0)), [(hv 0), (some (AObj.cells true (c_shape_piece a1))), (hv 2), (hv 3), (hv 4), (hv 5)]⟩
   refine s_load1 (c' := (ct a1.name)) F.ag_9 rfl rfl k
  ·intro K rest fr hv htk k
   show AWops _ x _ _ K ⟨17, (upd 17 (upd 17 fr 8 (st_ a1.name)) 6 (st_ a0.name)), [(hv 0), (hv 1), (hv 2), (hv 3), (hv 4), (hv 5)]⟩
   refine cc [] [(hv 0), (hv 1), (hv 2), (hv 3), (hv 4), (hv 5)] (si r1) F.ca_18 rfl rfl (ac (.one .sc) (ac (.one .sc) an)) an (strings_Compare.meets _ a0.name a1.name r1 er1) k
  ·intro K rest fr hv htk k
   show AWops _ x _ _ K ⟨17, (upd 17 fr 2 (rf 0 0)), [(hv 0), (hv 1), (hv 2), (hv 3), (hv 4), (hv 5)]⟩
   refine s_fieldRef F.fo_39_1 (by decide) rfl k
  ·intro K rest fr hv htk k
   show AWops _ x _ _ K ⟨17, (upd 17 fr 10 (rf 0 1)), [(some (AObj.cells true (c_shape_piece a0))), (hv 1), (hv 2), (hv 3), (hv 4), (hv 5)]⟩
   refine s_load1 (c' := (ci a0.number)) F.ag_3 rfl rfl k
  ·intro K rest fr hv htk k
   show AWops _ x _ _ K ⟨17, (upd 17 fr 3 (rf 1 0)), [(hv 0), (hv 1), (hv 2), (hv 3), (hv 4), (hv 5)]⟩
   refine s_fieldRef F.fo_39_1 (by decide) rfl k
  ·intro K rest fr hv htk k
   show AWops _ x _ _ K ⟨17, (upd 17 fr 12 (rf 1 1)), [(hv 0), (some (AObj.cells true (c_shape_piece a1))), (hv 2), (hv 3), (hv 4), (hv 5)]⟩
   refine s_load1 (c' := (ci a1.number)) F.ag_3 rfl rfl k
  ·intro K rest fr hv htk k
   show AWops _ x _ _ K ⟨17, (upd 17 (upd 17 fr 13 (si a1.number)) 11 (si a0.number)), [(hv 0), (hv 1), (hv 2), (hv 3), (hv 4), (hv 5)]⟩
   refine cc [] [(hv 0), (hv 1), (hv 2), (hv 3), (hv 4), (hv 5)] (si r2) F.ca_22 rfl rfl (ac (.one .sc) (ac (.one .sc) an)) an (cmp_Compare_int.meets _ a0.number a1.number r2 er2) k
  ·intro K rest fr hv htk k
   show AWops _ x _ _ K ⟨17, (upd 17 (upd 17 fr 14 (si r2)) 9 (si r1)), [(hv 0), (hv 1), (hv 2), (hv 3), (hv 4), (hv 5)]⟩
   refine s_buildSlice (n := 2) (ps := [(0, (si r1)), (1, (si r2))]) (cs := rowC e_i64 ([r1, r2] : List Int)) F.u_52 F.sz_3 F.z_3 rfl rfl (by decide) (by decide) rfl rfl ?_
   refine AWops.weak (st' := ⟨17, (upd 17 (upd 17 (upd 17 fr 14 (si r2)) 9 (si r1)) 15 (D.one (C.own 4 0 (([r1, r2] : List Int).length) 1))), [(hv 0), (hv 1), (hv 2), (hv 3), (some (AObj.cells true (rowC e_i64 ([r1, r2] : List Int)))), (hv 5)]⟩) (wg 0 [0, 1, 2, 3, 6, 5] [] hx (le_upd2 (le_ok (p := 4) (L := 6) rfl (htk 4 rfl).1) (o1 (.own rfl))) (ac (oq 4 6 (htk 4 rfl) 0) (ac (oq 4 6 (htk 4 rfl) 1) (ac (oq 4 6 (htk 4 rfl) 2) (ac (oq 4 6 (htk 4 rfl) 3) (ac (.cells (fun _ => rfl) (all2_row _)) (ac (oq 4 6 (htk 4 rfl) 5) an))))))) k
  ·intro K rest fr hv htk k
   show AWops _ x _ _ K ⟨17, (upd 17 fr 15 (D.one (C.own 4 0 (([r1, r2] : List Int).length) 1))), [(hv 0), (hv 1), (hv 2), (hv 3), (some (AObj.cells true (rowC e_i64 ([r1, r2] : List Int)))), (hv 5)]⟩
   refine s_call2 (ρ := []) (br := true) (H2 := [(hv 0), (hv 1), (hv 2), (hv 3), (some (AObj.cells true (rowC e_i64 ([r1, r2] : List Int)))), (hv 5)]) (d := (si r3)) F.ca_21 rfl rfl (ac (.one (LendC.bor e_i64_len rfl rfl rfl)) an) an (by decide) rfl (cmp_Or_int.meets _ ([r1, r2] : List Int) r3 er3) (.inr ⟨rfl, rfl⟩) rfl rfl k
  ·intro K rest fr hv htk k
   show AWops _ x _ _ K ⟨17, (upd 17 fr 16 (si r3)), _⟩
   refine s_assign (d := (si r3)) rfl k
 ·refine AWops.weak (st' := ⟨17, (upd 17 topF 4 (si r3)), []⟩) (wg 0 [] [] hx (le_upd (le_top _) (o1 .sc)) an) (AWops.nil (AW.ret ?_))
  obtain rfl := Option.some.inj h
  exact ⟨_, rfl, (wg 0 [] [] rfl (le_upd (le_top _) (o1 .sc)) an)⟩
mutual
def slices_CompareFunc_shape_piece_shape_piece_shape_piece_shape_piece.l0 : Nat → Int → (List shape_piece) → (List shape_piece) → Option Int
 | 0, _, _, _ => none
 | k + 1, x1, a0, a1 => if (decide (x1 < (a0.length : Int))) = true then ((rd a0 x1).bind fun v3 => if (decide (x1 ≥ (a1.length : Int))) = true then (some 1) else ((rd a1 x1).bind fun v5 => (shape_Order_1.f k v3 v5).bind fun r6 => if (r6 != 0) = true then (some r6) else (slices_CompareFunc_shape_piece_shape_piece_shape_piece_shape_piece.l0 k (IntKind.i64.wrap (x1 + 1)) a0 a1))) else (if (decide ((a0.length : Int) < (a1.length : Int))) = true then (some (-1)) else (some 0))
end
def slices_CompareFunc_shape_piece_shape_piece_shape_piece_shape_piece.f (k : Nat) (a0 : List shape_piece) (a1 : List shape_piece) : Option Int := slices_CompareFunc_shape_piece_shape_piece_shape_piece_shape_piece.l0 k 0 a0 a1
theorem slices_CompareFunc_shape_piece_shape_piece_shape_piece_shape_piece.meets (k : Nat) (a0 : List shape_piece) (a1 : List shape_piece) (r : Int) (h : slices_CompareFunc_shape_piece_shape_piece_shape_piece_shape_piece.f k a0 a1 = some r) : Meets Tryd.prog 19 [(D.one (C.p false (.sl a0.length (a0.flatMap e_shape_piece)))), (D.one (C.p false (.sl a1.length (a1.flatMap e_shape_piece)))), (D.one (C.clo 20 []))] [] (si r) [] := by
 unfold slices_CompareFunc_shape_piece_shape_piece_shape_piece_shape_piece.f at h
 refine Meets.of_body (n := 39) Tryd.func19 rfl rfl (nl rfl) fun x hx => ?_
 replace hx : x.k = 0 := hx
 show AW _ x _ _ ⟨39, fr0 [(D.one (C.p false (.sl a0.length (a0.flatMap e_shape_piece)))), (D.one (C.p false (.sl a1.length (a1.flatMap e_shape_piece)))), (D.one (C.clo 20 []))], []⟩
 refine AW.seq (AW.region ?_)
 refine s_assign (d := (si 0)) rfl (AWops.nil (AW.seq (AW.seq (AW.region ?_))))
 refine s_move (d := (D.one (C.p false (.sl a0.length (a0.flatMap e_shape_piece))))) rfl (s_len (n := a0.length) F.u_34 rfl (.inr ⟨(fun _ _ h => by cases h), ⟨_, rfl⟩⟩) (s_move (d := (si 0)) rfl (AWops.nil (AW.block ?_))))
 refine AW.loopw (st0 := ⟨39, (upd 39 (upd 39 (upd 39 (upd 39 (upd 39 (upd 39 topF 0 (D.one (C.p false (.sl a0.length (a0.flatMap e_shape_piece))))) 1 (D.one (C.p false (.sl a1.length (a1.flatMap e_shape_piece))))) 2 (D.one (C.clo 20 []))) 11 (D.one (C.p false (.sl a0.length (a0.flatMap e_shape_piece))))) 12 (si (a0.length : Int))) 13 (si 0)), []⟩) (fun kv st => kv ≤ k ∧ ∃ (x1 : Int), slices_CompareFunc_shape_piece_shape_piece_shape_piece_shape_piece.l0 kv x1 a0 a1 = some r ∧ st = ⟨39, (upd 39 (upd 39 (upd 39 (upd 39 (upd 39 (upd 39 topF 0 (D.one (C.p false (.sl a0.length (a0.flatMap e_shape_piece))))) 1 (D.one (C.p false (.sl a1.length (a1.flatMap e_shape_piece))))) 2 (D.one (C.clo 20 []))) 11 (D.one (C.p false (.sl a0.length (a0.flatMap e_shape_piece))))) 12 (si (a0.length : Int))) 13 (si x1)), []⟩) (k := k) (wg 0 [] [] hx (le_upd (le_upd (le_upd (le_upd (le_upd (le_upd (le_top _) (o1 .same)) (o1 .same)) (o1 (CLe.cloL an))) (o1 .same)) (o1 .sc)) (o1 .sc)) an) ⟨Nat.le_refl _, 0, h, rfl⟩ ?_
 rintro ql0 st ⟨hkl0, x1, h, rfl⟩
 cases ql0 with
 | zero => exact absurd h (by simp [slices_CompareFunc_shape_piece_shape_piece_shape_piece_shape_piece.l0])
 | succ ql0 =>
  replace h := (slices_CompareFunc_shape_piece_shape_piece_shape_piece_shape_piece.l0.eq_2 _ _ _ _).symm.trans h
  refine AW.seq (AW.region ?_)
  refine s_binI (v := (.bool (decide (x1 < (a0.length : Int))))) rfl rfl rfl (AWops.nil (AW.seq ?_))
  rcases itH h with ⟨c2, h⟩ | ⟨c2, h⟩
  ·refine AW.cond_yes rfl c2 (AW.skip (AW.seq (AW.block (AW.seq (AW.region ?_)))))
   refine s_move (d := (si x1)) rfl ?_
   obtain ⟨v3, ev3, h⟩ := bnd h
   obtain ⟨pv3, qv3, gv3⟩ := rd_some ev3
   refine s_indexImm (ps := (p_shape_piece v3)) F.u_34 F.sz_39 rfl rfl pv3 qv3 (flat_at e_shape_piece_len gv3 (e_shape_piece_eq v3)) (s_loadN (ds := (c_shape_piece v3)) F.ag_39 F.sz_39 rfl rfl rfl (s_alloc (cs := [(ct (⟨#[]⟩ : ByteArray)), (ci 0)]) F.z_39 rfl rfl (s_assign (d := (si x1)) rfl (s_store (cs' := (c_shape_piece v3)) rfl rfl rfl (List.cons_ne_nil _ _) rfl F.sz_39 (nl rfl) rfl (AWops.nil (AW.seq (AW.seq (AW.region (s_move (d := (si x1)) rfl ?_)))))))))
   refine s_move (d := (D.one (C.p false (.sl a1.length (a1.flatMap e_shape_piece))))) rfl (s_len (n := a1.length) F.u_34 rfl (.inr ⟨(fun _ _ h => by cases h), ⟨_, rfl⟩⟩) (s_binI (v := (.bool (decide (x1 ≥ (a1.length : Int))))) rfl rfl rfl (AWops.nil ?_)))
   rcases itH h with ⟨c4, h⟩ | ⟨c4, h⟩
   ·refine AW.cond_yes rfl c4 (AW.seq (AW.region ?_))
    refine s_assign (d := (si 1)) rfl (AWops.nil (AW.ret ?_))
    obtain rfl := Option.some.inj h
    exact ⟨_, rfl, (wg 0 [] [] rfl (le_upd (le_top _) (o1 .sc)) an)⟩
   ·refine AW.cond_no rfl c4 (AW.skip (AW.seq (AW.region ?_)))
    refine s_move (d := (D.one (C.p false (.sl a1.length (a1.flatMap e_shape_piece))))) rfl (s_move (d := (si x1)) rfl ?_)
    obtain ⟨v5, ev5, h⟩ := bnd h
    obtain ⟨pv5, qv5, gv5⟩ := rd_some ev5
    refine s_indexImm (ps := (p_shape_piece v5)) F.u_34 F.sz_39 rfl rfl pv5 qv5 (flat_at e_shape_piece_len gv5 (e_shape_piece_eq v5)) (s_loadN (ds := (c_shape_piece v5)) F.ag_39 F.sz_39 rfl rfl rfl (s_alloc (cs := [(ct (⟨#[]⟩ : ByteArray)), (ci 0)]) F.z_39 rfl rfl (s_store (cs' := (c_shape_piece v5)) rfl rfl rfl (List.cons_ne_nil _ _) rfl F.sz_39 (nl rfl) rfl (AWops.nil (AW.seq (AW.region (s_move (d := (D.one (C.clo 20 []))) rfl (s_loadN (ds := (c_shape_piece v3)) F.ag_39 F.sz_39 rfl rfl rfl ?_))))))))
    refine s_loadN (ds := (c_shape_piece v5)) F.ag_39 F.sz_39 rfl rfl rfl ?_
    obtain ⟨r6, er6, h⟩ := bnd h
    refine cc [] [(some (AObj.cells true (c_shape_piece v3))), (some (AObj.cells true (c_shape_piece v5)))] (si r6) F.ca_20 rfl rfl (ac (LendT.aggL (ac .sc (ac .sc an))) (ac (LendT.aggL (ac .sc (ac .sc an))) an)) an (shape_Order_1.meets _ v3 v5 r6 er6) (s_assign (d := (si r6)) rfl (AWops.nil (AW.seq (AW.region (s_move (d := (si r6)) rfl (s_binI (v := (.bool (r6 != 0))) rfl rfl rfl (AWops.nil ?_)))))))
    rcases itH h with ⟨c7, h⟩ | ⟨c7, h⟩
    ·refine AW.cond_yes rfl c7 (AW.seq (AW.region ?_))
     refine s_move (d := (si r6)) rfl (s_assign (d := (si r6)) rfl (AWops.nil (AW.ret ?_)))
     obtain rfl := Option.some.inj h
     exact ⟨_, rfl, (wg 0 [] [] rfl (le_upd (le_top _) (o1 .sc)) an)⟩
    ·refine AW.cond_no rfl c7 (AW.skip (AW.region ?_))
     refine s_binI (v := (.int .i64 (IntKind.i64.wrap (x1 + 1)))) rfl rfl rfl (s_move (d := (si (IntKind.i64.wrap (x1 + 1)))) rfl (AWops.nil ?_))
     exact ⟨_, ⟨39, (upd 39 (upd 39 (upd 39 (upd 39 (upd 39 (upd 39 topF 0 (D.one (C.p false (.sl a0.length (a0.flatMap e_shape_piece))))) 1 (D.one (C.p false (.sl a1.length (a1.flatMap e_shape_piece))))) 2 (D.one (C.clo 20 []))) 11 (D.one (C.p false (.sl a0.length (a0.flatMap e_shape_piece))))) 12 (si (a0.length : Int))) 13 (si (IntKind.i64.wrap (x1 + 1)))), []⟩, by omega, (wg 0 [] [] hx (le_upd (le_upd (le_upd (le_upd (le_upd (le_upd (le_top _) (o1 .same)) (o1 .same)) (o1 (CLe.cloL an))) (o1 .same)) (o1 .sc)) (o1 .sc)) an), by omega, IntKind.i64.wrap (x1 + 1), h, rfl⟩
  ·refine AW.cond_no rfl c2 (AW.exit (AW.seq (AW.seq (AW.region ?_))))
   refine s_move (d := (D.one (C.p false (.sl a0.length (a0.flatMap e_shape_piece))))) rfl (s_len (n := a0.length) F.u_34 rfl (.inr ⟨(fun _ _ h => by cases h), ⟨_, rfl⟩⟩) (s_move (d := (D.one (C.p false (.sl a1.length (a1.flatMap e_shape_piece))))) rfl (s_len (n := a1.length) F.u_34 rfl (.inr ⟨(fun _ _ h => by cases h), ⟨_, rfl⟩⟩) (s_binI (v := (.bool (decide ((a0.length : Int) < (a1.length : Int))))) rfl rfl rfl (AWops.nil ?_)))))
   rcases itH h with ⟨c8, h⟩ | ⟨c8, h⟩
   ·refine AW.cond_yes rfl c8 (AW.seq (AW.region ?_))
    refine s_assign (d := (si (-1))) rfl (AWops.nil (AW.ret ?_))
    obtain rfl := Option.some.inj h
    exact ⟨_, rfl, (wg 0 [] [] rfl (le_upd (le_top _) (o1 .sc)) an)⟩
   ·refine AW.cond_no rfl c8 (AW.skip (AW.seq (AW.region ?_)))
    refine s_assign (d := (si 0)) rfl (AWops.nil (AW.ret ?_))
    obtain rfl := Option.some.inj h
    exact ⟨_, rfl, (wg 0 [] [] rfl (le_upd (le_top _) (o1 .sc)) an)⟩
def shape_Order.f (k : Nat) (a0 : ByteArray) (a1 : ByteArray) : Option Int := if (decide (a0.size ≤ 1048576)) = true then (if (decide (a1.size ≤ 1048576)) = true then (if ((sh_list a0).2) = true then (if ((sh_list a1).2) = true then ((slices_CompareFunc_shape_piece_shape_piece_shape_piece_shape_piece.f k ((sh_list a0).1.map (fun p => (⟨p.1, p.2⟩ : shape_piece))) ((sh_list a1).1.map (fun p => (⟨p.1, p.2⟩ : shape_piece)))).bind fun r5 => some r5) else ((strings_Compare.f k a0 a1).bind fun r6 => some r6)) else ((strings_Compare.f k a0 a1).bind fun r7 => some r7)) else none) else none
theorem shape_Order.meets (k : Nat) (a0 : ByteArray) (a1 : ByteArray) (r : Int) (h : shape_Order.f k a0 a1 = some r) : Meets Tryd.prog 6 [(st_ a0), (st_ a1)] [] (si r) [] := by
 unfold shape_Order.f at h
 refine Meets.of_body (n := 31) Tryd.func6 rfl rfl (nl rfl) fun x hx => ?_
 replace hx : x.k = 0 := hx
 show AW _ x _ _ ⟨31, fr0 [(st_ a0), (st_ a1)], []⟩
 refine AW.seq (AW.region ?_)
 refine s_assign (d := (si 0)) rfl (AWops.nil (AW.seq (AW.region ?_)))
 refine s_move (d := (st_ a0)) rfl ?_
 obtain ⟨c1, h⟩ := gdH h
 refine cc [] [] (D.tup [(D.one (C.p false (.sl ((sh_list a0).1.map (fun p => (⟨p.1, p.2⟩ : shape_piece))).length (((sh_list a0).1.map (fun p => (⟨p.1, p.2⟩ : shape_piece))).flatMap e_shape_piece)))), (sb ((sh_list a0).2))]) F.ca_17 rfl rfl (ac (.one .sc) an) an (meets_list (fun a b => (⟨a, b⟩ : shape_piece)) (e_shape_piece) (fun _ _ => rfl) c1) (s_move (d := (D.tup [(D.one (C.p false (.sl ((sh_list a0).1.map (fun p => (⟨p.1, p.2⟩ : shape_piece))).length (((sh_list a0).1.map (fun p => (⟨p.1, p.2⟩ : shape_piece))).flatMap e_shape_piece)))), (sb ((sh_list a0).2))])) rfl (s_extract (d := (D.one (C.p false (.sl ((sh_list a0).1.map (fun p => (⟨p.1, p.2⟩ : shape_piece))).length (((sh_list a0).1.map (fun p => (⟨p.1, p.2⟩ : shape_piece))).flatMap e_shape_piece))))) rfl rfl (s_extract (d := (sb ((sh_list a0).2))) rfl rfl (s_assign (d := (D.one (C.p false (.sl ((sh_list a0).1.map (fun p => (⟨p.1, p.2⟩ : shape_piece))).length (((sh_list a0).1.map (fun p => (⟨p.1, p.2⟩ : shape_piece))).flatMap e_shape_piece))))) rfl (s_assign (d := (sb ((sh_list a0).2))) rfl (AWops.nil (AW.seq (AW.region ?_))))))))
 refine s_move (d := (st_ a1)) rfl ?_
 obtain ⟨c2, h⟩ := gdH h
 refine cc [] [] (D.tup [(D.one (C.p false (.sl ((sh_list a1).1.map (fun p => (⟨p.1, p.2⟩ : shape_piece))).length (((sh_list a1).1.map (fun p => (⟨p.1, p.2⟩ : shape_piece))).flatMap e_shape_piece)))), (sb ((sh_list a1).2))]) F.ca_17 rfl rfl (ac (.one .sc) an) an (meets_list (fun a b => (⟨a, b⟩ : shape_piece)) (e_shape_piece) (fun _ _ => rfl) c2) (s_move (d := (D.tup [(D.one (C.p false (.sl ((sh_list a1).1.map (fun p => (⟨p.1, p.2⟩ : shape_piece))).length (((sh_list a1).1.map (fun p => (⟨p.1, p.2⟩ : shape_piece))).flatMap e_shape_piece)))), (sb ((sh_list a1).2))])) rfl (s_extract (d := (D.one (C.p false (.sl ((sh_list a1).1.map (fun p => (⟨p.1, p.2⟩ : shape_piece))).length (((sh_list a1).1.map (fun p => (⟨p.1, p.2⟩ : shape_piece))).flatMap e_shape_piece))))) rfl rfl (s_extract (d := (sb ((sh_list a1).2))) rfl rfl (s_assign (d := (D.one (C.p false (.sl ((sh_list a1).1.map (fun p => (⟨p.1, p.2⟩ : shape_piece))).length (((sh_list a1).1.map (fun p => (⟨p.1, p.2⟩ : shape_piece))).flatMap e_shape_piece))))) rfl (s_assign (d := (sb ((sh_list a1).2))) rfl (AWops.nil (AW.seq (AW.seq (AW.region ?_)))))))))
 refine s_move (d := (sb ((sh_list a0).2))) rfl (s_not rfl (s_move (d := (sb (!((sh_list a0).2)))) rfl ?_))
 rcases itH h with ⟨c3, h⟩ | ⟨c3, h⟩
 ·refine AWops.guard_yes rfl (nl rfl) rfl (by rw [c3] <;> rfl) ?_
  refine s_move (d := (sb ((sh_list a1).2))) rfl ?_
  refine AWops.guard_yes rfl (nl rfl) rfl (by rw [c3] <;> rfl) ?_
  refine s_not rfl (s_pick_no (d := (sb (!((sh_list a1).2)))) rfl (by rw [c3] <;> rfl) rfl (AWops.nil ?_))
  rcases itH h with ⟨c4, h⟩ | ⟨c4, h⟩
  ·refine AW.cond_no rfl (by rw [c4] <;> rfl) (AW.skip (AW.seq (AW.region ?_)))
   refine s_move (d := (D.one (C.p false (.sl ((sh_list a0).1.map (fun p => (⟨p.1, p.2⟩ : shape_piece))).length (((sh_list a0).1.map (fun p => (⟨p.1, p.2⟩ : shape_piece))).flatMap e_shape_piece))))) rfl (s_move (d := (D.one (C.p false (.sl ((sh_list a1).1.map (fun p => (⟨p.1, p.2⟩ : shape_piece))).length (((sh_list a1).1.map (fun p => (⟨p.1, p.2⟩ : shape_piece))).flatMap e_shape_piece))))) rfl ?_)
   obtain ⟨r5, er5, h⟩ := bnd h
   refine cc [] [] (si r5) F.ca_19 rfl rfl (ac (.one .imm) (ac (.one .imm) (ac (.one (LendC.cloL an)) an))) an (slices_CompareFunc_shape_piece_shape_piece_shape_piece_shape_piece.meets _ ((sh_list a0).1.map (fun p => (⟨p.1, p.2⟩ : shape_piece))) ((sh_list a1).1.map (fun p => (⟨p.1, p.2⟩ : shape_piece))) r5 er5) (s_assign (d := (si r5)) rfl (AWops.nil (AW.ret ?_)))
   obtain rfl := Option.some.inj h
   exact ⟨_, rfl, (wg 0 [] [] rfl (le_upd (le_top _) (o1 .sc)) an)⟩
  ·refine AW.cond_yes rfl (by rw [c4] <;> rfl) (AW.seq (AW.region ?_))
   refine s_move (d := (st_ a0)) rfl (s_move (d := (st_ a1)) rfl ?_)
   obtain ⟨r6, er6, h⟩ := bnd h
   refine cc [] [] (si r6) F.ca_18 rfl rfl (ac (.one .sc) (ac (.one .sc) an)) an (strings_Compare.meets _ a0 a1 r6 er6) (s_assign (d := (si r6)) rfl (AWops.nil (AW.ret ?_)))
   obtain rfl := Option.some.inj h
   exact ⟨_, rfl, (wg 0 [] [] rfl (le_upd (le_top _) (o1 .sc)) an)⟩
 ·refine AWops.guard_no rfl (nl rfl) rfl (by rw [c3] <;> rfl) ?_
  refine AWops.guard_no rfl (nl rfl) rfl (by rw [c3] <;> rfl) ?_
  refine s_pick_yes (d := (sb true)) rfl (by rw [c3] <;> rfl) rfl (AWops.nil ?_)
  refine AW.cond_yes rfl rfl (AW.seq (AW.region ?_))
  refine s_move (d := (st_ a0)) rfl (s_move (d := (st_ a1)) rfl ?_)
  obtain ⟨r7, er7, h⟩ := bnd h
  refine cc [] [] (si r7) F.ca_18 rfl rfl (ac (.one .sc) (ac (.one .sc) an)) an (strings_Compare.meets _ a0 a1 r7 er7) (s_assign (d := (si r7)) rfl (AWops.nil (AW.ret ?_)))
  obtain rfl := Option.some.inj h
  exact ⟨_, rfl, (wg 0 [] [] rfl (le_upd (le_top _) (o1 .sc)) an)⟩
mutual
def dossierref09_Parts.l0 : Nat → (List ByteArray) → Int → Int → ByteArray → Option (List ByteArray)
 | 0, _, _, _, _ => none
 | k + 1, x1, x2, x3, a0 => if (decide (x3 < (IntKind.i64.wrap ((a0.size : Int) + 1)))) = true then (if (x3 == (a0.size : Int)) = true then (if (decide (0 ≤ x2 ∧ x2 ≤ x3 ∧ x3 ≤ (a0.size : Int))) = true then (if (decide (x1.length + ([a0.extract x2.toNat x3.toNat] : List ByteArray).length ≤ 8796093022208)) = true then (dossierref09_Parts.l0 k (x1 ++ ([a0.extract x2.toNat x3.toNat] : List ByteArray)) (IntKind.i64.wrap (x3 + 1)) (IntKind.i64.wrap (x3 + 1)) a0) else none) else none) else ((bt a0 x3).bind fun v8 => if (v8 == 46) = true then (if (decide (0 ≤ x2 ∧ x2 ≤ x3 ∧ x3 ≤ (a0.size : Int))) = true then (if (decide (x1.length + ([a0.extract x2.toNat x3.toNat] : List ByteArray).length ≤ 8796093022208)) = true then (dossierref09_Parts.l0 k (x1 ++ ([a0.extract x2.toNat x3.toNat] : List ByteArray)) (IntKind.i64.wrap (x3 + 1)) (IntKind.i64.wrap (x3 + 1)) a0) else none) else none) else (dossierref09_Parts.l0 k x1 x2 (IntKind.i64.wrap (x3 + 1)) a0))) else (some x1)
end
def dossierref09_Parts.f (k : Nat) (a0 : ByteArray) : Option (List ByteArray) := dossierref09_Parts.l0 k ([] : List ByteArray) 0 0 a0
theorem dossierref09_Parts.meets (k : Nat) (a0 : ByteArray) (r : (List ByteArray)) (h : dossierref09_Parts.f k a0 = some r) : Meets Tryd.prog 24 [(st_ a0)] [] (D.one (C.own 0 0 r.length 1)) [(ow_ e_str r)] := by
 unfold dossierref09_Parts.f at h
 refine Meets.of_body (n := 33) Tryd.func24 rfl rfl (nl rfl) fun x hx => ?_
 replace hx : x.k = 0 := hx
 show AW _ x _ _ ⟨33, fr0 [(st_ a0)], []⟩
 refine AW.seq (AW.region ?_)
 refine s_assign (d := (sc (.slice none 0 0))) rfl (AWops.nil (AW.seq (AW.region ?_)))
 refine s_assign (d := (sc (.slice none 0 0))) rfl (AWops.nil (AW.seq (AW.region ?_)))
 refine s_assign (d := (si 0)) rfl (AWops.nil (AW.seq (AW.seq (AW.region ?_))))
 refine s_move (d := (st_ a0)) rfl (s_len (n := a0.size) F.u_9 rfl (.inl ⟨⟨_, _, rfl⟩, rfl⟩) (s_binI (v := (.int .i64 (IntKind.i64.wrap ((a0.size : Int) + 1)))) rfl rfl rfl (s_move (d := (si 0)) rfl (AWops.nil (AW.block ?_)))))
 refine AW.loopw (st0 := ⟨33, (upd 33 (upd 33 (upd 33 (upd 33 (upd 33 topF 0 (st_ a0)) 3 (D.one (C.own 0 0 ([] : List ByteArray).length 1))) 4 (si 0)) 8 (si (IntKind.i64.wrap ((a0.size : Int) + 1)))) 9 (si 0)), [(some (AObj.cells true (rowC e_str ([] : List ByteArray))))]⟩) (fun kv st => kv ≤ k ∧ ∃ (x1 : List ByteArray) (x2 : Int) (x3 : Int), dossierref09_Parts.l0 kv x1 x2 x3 a0 = some r ∧ st = ⟨33, (upd 33 (upd 33 (upd 33 (upd 33 (upd 33 topF 0 (st_ a0)) 3 (D.one (C.own 0 0 x1.length 1))) 4 (si x2)) 8 (si (IntKind.i64.wrap ((a0.size : Int) + 1)))) 9 (si x3)), [(ow_ e_str x1)]⟩) (k := k) (Weak.trans (Weak.nil (sz := 1) (i := 3) rfl) (wg 0 [0] [] hx (le_upd (le_upd (le_upd (le_upd (le_upd (le_top _) (o1 .sc)) (o1 (.own rfl))) (o1 .sc)) (o1 .sc)) (o1 .sc)) (ac (.cells (fun _ => rfl) an) an))) ⟨Nat.le_refl _, ([] : List ByteArray), 0, 0, h, rfl⟩ ?_
 rintro ql0 st ⟨hkl0, x1, x2, x3, h, rfl⟩
 cases ql0 with
 | zero => exact absurd h (by simp [dossierref09_Parts.l0])
 | succ ql0 =>
  replace h := (dossierref09_Parts.l0.eq_2 _ _ _ _ _).symm.trans h
  refine AW.seq (AW.region ?_)
  refine s_binI (v := (.bool (decide (x3 < (IntKind.i64.wrap ((a0.size : Int) + 1)))))) rfl rfl rfl (AWops.nil (AW.seq ?_))
  rcases itH h with ⟨c4, h⟩ | ⟨c4, h⟩
  ·refine AW.cond_yes rfl c4 (AW.skip (AW.seq (AW.block (AW.seq (AW.region ?_)))))
   refine s_move (d := (si x3)) rfl (s_assign (d := (si x3)) rfl (AWops.nil (AW.seq (AW.region (s_move (d := (si x3)) rfl (s_move (d := (st_ a0)) rfl (s_len (n := a0.size) F.u_9 rfl (.inl ⟨⟨_, _, rfl⟩, rfl⟩) (s_binI (v := (.bool (x3 == (a0.size : Int)))) rfl rfl rfl ?_))))))))
   refine s_move (d := (sb (x3 == (a0.size : Int)))) rfl ?_
   rcases itH h with ⟨c5, h⟩ | ⟨c5, h⟩
   ·iterate 4 refine AWops.guard_no rfl (nl rfl) rfl c5 ?_
    refine s_pick_yes (d := (sb true)) rfl c5 rfl (AWops.nil ?_)
    refine AW.cond_yes rfl rfl (AW.seq (AW.region ?_))
    refine s_move (d := (D.one (C.own 0 0 x1.length 1))) rfl (s_move (d := (st_ a0)) rfl (s_move (d := (si x2)) rfl (s_move (d := (si x3)) rfl ?_)))
    obtain ⟨c6, h⟩ := gdH h
    have dc6 := of_decide_eq_true c6
    refine s_sliceStr F.u_9 rfl (.yes rfl (by omega) rfl) (.yes rfl (by omega) rfl) (by omega) (by omega) (s_buildSlice (n := 1) (ps := [(0, (st_ (a0.extract x2.toNat x3.toNat)))]) (cs := rowC e_str ([a0.extract x2.toNat x3.toNat] : List ByteArray)) F.u_25 F.sz_9 F.z_9 rfl rfl (by decide) (by decide) rfl rfl ?_)
    obtain ⟨c7, h⟩ := gdH h
    have dc7 := of_decide_eq_true c7
    refine t_append (xs := x1) (ys := ([a0.extract x2.toNat x3.toNat] : List ByteArray)) (zs := x1 ++ ([a0.extract x2.toNat x3.toNat] : List ByteArray)) (H' := [none, (some (AObj.cells true (rowC e_str ([a0.extract x2.toNat x3.toNat] : List ByteArray)))), (some (AObj.cells true (rowC e_str (x1 ++ ([a0.extract x2.toNat x3.toNat] : List ByteArray)))))]) F.u_25 F.in_9 rfl e_str_len (.own rfl rfl) (.own rfl rfl) F.u_25 (by omega) (by omega) rfl rfl (s_assign (d := (D.one (C.own 2 0 ((x1 ++ ([a0.extract x2.toNat x3.toNat] : List ByteArray)).length) 1))) rfl (AWops.nil (AW.region (s_move (d := (si x3)) rfl (s_binI (v := (.int .i64 (IntKind.i64.wrap (x3 + 1)))) rfl rfl rfl (s_assign (d := (si (IntKind.i64.wrap (x3 + 1)))) rfl (AWops.nil (AW.region (s_binI (v := (.int .i64 (IntKind.i64.wrap (x3 + 1)))) rfl rfl rfl ?_)))))))))
    refine s_move (d := (si (IntKind.i64.wrap (x3 + 1)))) rfl (AWops.nil ?_)
    exact ⟨_, ⟨33, (upd 33 (upd 33 (upd 33 (upd 33 (upd 33 topF 0 (st_ a0)) 3 (D.one (C.own 0 0 (x1 ++ ([a0.extract x2.toNat x3.toNat] : List ByteArray)).length 1))) 4 (si (IntKind.i64.wrap (x3 + 1)))) 8 (si (IntKind.i64.wrap ((a0.size : Int) + 1)))) 9 (si (IntKind.i64.wrap (x3 + 1)))), [(some (AObj.cells true (rowC e_str (x1 ++ ([a0.extract x2.toNat x3.toNat] : List ByteArray)))))]⟩, by omega, (wg 0 [2] [] hx (le_upd (le_upd (le_upd (le_upd (le_upd (le_top _) (o1 .sc)) (o1 (.own rfl))) (o1 .sc)) (o1 .sc)) (o1 .sc)) (ac (.cells (fun _ => rfl) (all2_row _)) an)), by omega, x1 ++ ([a0.extract x2.toNat x3.toNat] : List ByteArray), IntKind.i64.wrap (x3 + 1), IntKind.i64.wrap (x3 + 1), h, rfl⟩
   ·refine AWops.guard_yes rfl (nl rfl) rfl c5 ?_
    refine s_move (d := (st_ a0)) rfl ?_
    refine AWops.guard_yes rfl (nl rfl) rfl c5 ?_
    refine s_move (d := (si x3)) rfl ?_
    refine AWops.guard_yes rfl (nl rfl) rfl c5 ?_
    obtain ⟨v8, ev8, h⟩ := bnd h
    obtain ⟨pv8, bv8, gv8, rfl⟩ := bt_some ev8
    refine s_indexStr F.u_9 rfl rfl pv8 gv8 ?_
    generalize hzv8 : ((bv8.toNat : Nat) : Int) = v8 at *
    refine AWops.guard_yes rfl (nl rfl) rfl c5 ?_
    refine s_binI (v := (.bool (v8 == 46))) rfl rfl rfl (s_pick_no (d := (sb (v8 == 46))) rfl c5 rfl (AWops.nil ?_))
    rcases itH h with ⟨c9, h⟩ | ⟨c9, h⟩
    ·refine AW.cond_yes rfl c9 (AW.seq (AW.region ?_))
     refine s_move (d := (D.one (C.own 0 0 x1.length 1))) rfl (s_move (d := (st_ a0)) rfl (s_move (d := (si x2)) rfl (s_move (d := (si x3)) rfl ?_)))
     obtain ⟨c10, h⟩ := gdH h
     have dc10 := of_decide_eq_true c10
     refine s_sliceStr F.u_9 rfl (.yes rfl (by omega) rfl) (.yes rfl (by omega) rfl) (by omega) (by omega) (s_buildSlice (n := 1) (ps := [(0, (st_ (a0.extract x2.toNat x3.toNat)))]) (cs := rowC e_str ([a0.extract x2.toNat x3.toNat] : List ByteArray)) F.u_25 F.sz_9 F.z_9 rfl rfl (by decide) (by decide) rfl rfl ?_)
     obtain ⟨c11, h⟩ := gdH h
     have dc11 := of_decide_eq_true c11
     refine t_append (xs := x1) (ys := ([a0.extract x2.toNat x3.toNat] : List ByteArray)) (zs := x1 ++ ([a0.extract x2.toNat x3.toNat] : List ByteArray)) (H' := [none, (some (AObj.cells true (rowC e_str ([a0.extract x2.toNat x3.toNat] : List ByteArray)))), (some (AObj.cells true (rowC e_str (x1 ++ ([a0.extract x2.toNat x3.toNat] : List ByteArray)))))]) F.u_25 F.in_9 rfl e_str_len (.own rfl rfl) (.own rfl rfl) F.u_25 (by omega) (by omega) rfl rfl (s_assign (d := (D.one (C.own 2 0 ((x1 ++ ([a0.extract x2.toNat x3.toNat] : List ByteArray)).length) 1))) rfl (AWops.nil (AW.region (s_move (d := (si x3)) rfl (s_binI (v := (.int .i64 (IntKind.i64.wrap (x3 + 1)))) rfl rfl rfl (s_assign (d := (si (IntKind.i64.wrap (x3 + 1)))) rfl (AWops.nil (AW.region (s_binI (v := (.int .i64 (IntKind.i64.wrap (x3 + 1)))) rfl rfl rfl ?_)))))))))
     refine s_move (d := (si (IntKind.i64.wrap (x3 + 1)))) rfl (AWops.nil ?_)
     exact ⟨_, ⟨33, (upd 33 (upd 33 (upd 33 (upd 33 (upd 33 topF 0 (st_ a0)) 3 (D.one (C.own 0 0 (x1 ++ ([a0.extract x2.toNat x3.toNat] : List ByteArray)).length 1))) 4 (si (IntKind.i64.wrap (x3 + 1)))) 8 (si (IntKind.i64.wrap ((a0.size : Int) + 1)))) 9 (si (IntKind.i64.wrap (x3 + 1)))), [(some (AObj.cells true (rowC e_str (x1 ++ ([a0.extract x2.toNat x3.toNat] : List ByteArray)))))]⟩, by omega, (wg 0 [2] [] hx (le_upd (le_upd (le_upd (le_upd (le_upd (le_top _) (o1 .sc)) (o1 (.own rfl))) (o1 .sc)) (o1 .sc)) (o1 .sc)) (ac (.cells (fun _ => rfl) (all2_row _)) an)), by omega, x1 ++ ([a0.extract x2.toNat x3.toNat] : List ByteArray), IntKind.i64.wrap (x3 + 1), IntKind.i64.wrap (x3 + 1), h, rfl⟩
    ·refine AW.cond_no rfl c9 (AW.skip (AW.region ?_))
     refine s_binI (v := (.int .i64 (IntKind.i64.wrap (x3 + 1)))) rfl rfl rfl (s_move (d := (si (IntKind.i64.wrap (x3 + 1)))) rfl (AWops.nil ?_))
     exact ⟨_, ⟨33, (upd 33 (upd 33 (upd 33 (upd 33 (upd 33 topF 0 (st_ a0)) 3 (D.one (C.own 0 0 x1.length 1))) 4 (si x2)) 8 (si (IntKind.i64.wrap ((a0.size : Int) + 1)))) 9 (si (IntKind.i64.wrap (x3 + 1)))), [(ow_ e_str x1)]⟩, by omega, (wg 0 [0] [] hx (le_upd (le_upd (le_upd (le_upd (le_upd (le_top _) (o1 .sc)) (o1 (.own rfl))) (o1 .sc)) (o1 .sc)) (o1 .sc)) (ac (.cells (fun _ => rfl) (all2_row _)) an)), by omega, x1, x2, IntKind.i64.wrap (x3 + 1), h, rfl⟩
  ·refine AW.cond_no rfl c4 (AW.exit (AW.seq (AW.region ?_)))
   refine s_move (d := (D.one (C.own 0 0 x1.length 1))) rfl (s_assign (d := (D.one (C.own 0 0 x1.length 1))) rfl (AWops.nil (AW.ret ?_)))
   obtain rfl := Option.some.inj h
   exact ⟨_, rfl, (wg 0 [0] [] rfl (le_upd (le_top _) (o1 (.own rfl))) (ac (.cells (fun _ => rfl) (all2_row _)) an))⟩
mutual
def dossierref12_last.l0 : Nat → Int → ByteArray → Int → Option Int
 | 0, _, _, _ => none
 | k + 1, x1, a0, a1 => if (decide (x1 ≥ 0)) = true then ((bt a0 x1).bind fun v3 => if (v3 == a1) = true then (some x1) else (dossierref12_last.l0 k (IntKind.i64.wrap (x1 - 1)) a0 a1)) else (some (-1))
end
def dossierref12_last.f (k : Nat) (a0 : ByteArray) (a1 : Int) : Option Int := dossierref12_last.l0 k (IntKind.i64.wrap ((a0.size : Int) - 1)) a0 a1
theorem dossierref12_last.meets (k : Nat) (a0 : ByteArray) (a1 : Int) (r : Int) (h : dossierref12_last.f k a0 a1 = some r) : Meets Tryd.prog 29 [(st_ a0), (sc (.int .u8 a1))] [] (si r) [] := by
 unfold dossierref12_last.f at h
 refine Meets.of_body (n := 19) Tryd.func29 rfl rfl (nl rfl) fun x hx => ?_
 replace hx : x.k = 0 := hx
 show AW _ x _ _ ⟨19, fr0 [(st_ a0), (sc (.int .u8 a1))], []⟩
 refine AW.seq (AW.region ?_)
 refine s_assign (d := (si 0)) rfl (AWops.nil (AW.seq (AW.seq (AW.region ?_))))
 refine s_move (d := (st_ a0)) rfl (s_len (n := a0.size) F.u_9 rfl (.inl ⟨⟨_, _, rfl⟩, rfl⟩) (s_binI (v := (.int .i64 (IntKind.i64.wrap ((a0.size : Int) - 1)))) rfl rfl rfl (s_assign (d := (si (IntKind.i64.wrap ((a0.size : Int) - 1)))) rfl (AWops.nil (AW.block ?_)))))
 refine AW.loopw (st0 := ⟨19, (upd 19 (upd 19 (upd 19 topF 0 (st_ a0)) 1 (sc (.int .u8 a1))) 5 (si (IntKind.i64.wrap ((a0.size : Int) - 1)))), []⟩) (fun kv st => kv ≤ k ∧ ∃ (x1 : Int), dossierref12_last.l0 kv x1 a0 a1 = some r ∧ st = ⟨19, (upd 19 (upd 19 (upd 19 topF 0 (st_ a0)) 1 (sc (.int .u8 a1))) 5 (si x1)), []⟩) (k := k) (wg 0 [] [] hx (le_upd (le_upd (le_upd (le_top _) (o1 .sc)) (o1 .sc)) (o1 .sc)) an) ⟨Nat.le_refl _, IntKind.i64.wrap ((a0.size : Int) - 1), h, rfl⟩ ?_
 rintro ql0 st ⟨hkl0, x1, h, rfl⟩
 cases ql0 with
 | zero => exact absurd h (by simp [dossierref12_last.l0])
 | succ ql0 =>
  replace h := (dossierref12_last.l0.eq_2 _ _ _ _).symm.trans h
  refine AW.seq (AW.seq (AW.region ?_))
  refine s_move (d := (si x1)) rfl (s_binI (v := (.bool (decide (x1 ≥ 0)))) rfl rfl rfl (AWops.nil ?_))
  rcases itH h with ⟨c2, h⟩ | ⟨c2, h⟩
  ·refine AW.cond_yes rfl c2 (AW.skip (AW.seq (AW.block (AW.seq (AW.region ?_)))))
   refine s_move (d := (st_ a0)) rfl (s_move (d := (si x1)) rfl ?_)
   obtain ⟨v3, ev3, h⟩ := bnd h
   obtain ⟨pv3, bv3, gv3, rfl⟩ := bt_some ev3
   refine s_indexStr F.u_9 rfl rfl pv3 gv3 ?_
   generalize hzv3 : ((bv3.toNat : Nat) : Int) = v3 at *
   refine s_move (d := (sc (.int .u8 a1))) rfl (s_binI (v := (.bool (v3 == a1))) rfl rfl rfl (AWops.nil ?_))
   rcases itH h with ⟨c4, h⟩ | ⟨c4, h⟩
   ·refine AW.cond_yes rfl c4 (AW.seq (AW.region ?_))
    refine s_move (d := (si x1)) rfl (s_assign (d := (si x1)) rfl (AWops.nil (AW.ret ?_)))
    obtain rfl := Option.some.inj h
    exact ⟨_, rfl, (wg 0 [] [] rfl (le_upd (le_top _) (o1 .sc)) an)⟩
   ·refine AW.cond_no rfl c4 (AW.skip (AW.region ?_))
    refine s_move (d := (si x1)) rfl (s_binI (v := (.int .i64 (IntKind.i64.wrap (x1 - 1)))) rfl rfl rfl (s_assign (d := (si (IntKind.i64.wrap (x1 - 1)))) rfl (AWops.nil ?_)))
    exact ⟨_, ⟨19, (upd 19 (upd 19 (upd 19 topF 0 (st_ a0)) 1 (sc (.int .u8 a1))) 5 (si (IntKind.i64.wrap (x1 - 1)))), []⟩, by omega, (wg 0 [] [] hx (le_upd (le_upd (le_upd (le_top _) (o1 .sc)) (o1 .sc)) (o1 .sc)) an), by omega, IntKind.i64.wrap (x1 - 1), h, rfl⟩
  ·refine AW.cond_no rfl c2 (AW.exit (AW.seq (AW.region ?_)))
   refine s_assign (d := (si (-1))) rfl (AWops.nil (AW.ret ?_))
   obtain rfl := Option.some.inj h
   exact ⟨_, rfl, (wg 0 [] [] rfl (le_upd (le_top _) (o1 .sc)) an)⟩
def dossierref08_letter.f (k : Nat) (a0 : Int) : Option Bool := if (decide (a0 ≥ 65)) = true then (if (decide (a0 ≤ 90)) = true then (some true) else (if (decide (a0 ≥ 97)) = true then (if (decide (a0 ≤ 122)) = true then (some true) else (some (a0 == 95))) else (some (a0 == 95)))) else (if (decide (a0 ≥ 97)) = true then (if (decide (a0 ≤ 122)) = true then (some true) else (some (a0 == 95))) else (some (a0 == 95)))
theorem dossierref08_letter.meets (k : Nat) (a0 : Int) (r : Bool) (h : dossierref08_letter.f k a0 = some r) : Meets Tryd.prog 62 [(sc (.int .u8 a0))] [] (sb r) [] := by
 unfold dossierref08_letter.f at h
 refine Meets.of_body (n := 21) Tryd.func62 rfl rfl (nl rfl) fun x hx => ?_
 replace hx : x.k = 0 := hx
 show AW _ x _ _ ⟨21, fr0 [(sc (.int .u8 a0))], []⟩
 refine AW.seq (AW.region ?_)
 refine s_assign (d := (sb false)) rfl (AWops.nil (AW.seq (AW.region ?_)))
 refine s_move (d := (sc (.int .u8 a0))) rfl (s_binI (v := (.bool (decide (a0 ≥ 65)))) rfl rfl rfl (s_move (d := (sb (decide (a0 ≥ 65)))) rfl ?_))
 rcases itH h with ⟨c1, h⟩ | ⟨c1, h⟩
 ·refine AWops.guard_yes rfl (nl rfl) rfl c1 ?_
  refine s_move (d := (sc (.int .u8 a0))) rfl ?_
  refine AWops.guard_yes rfl (nl rfl) rfl c1 ?_
  refine s_binI (v := (.bool (decide (a0 ≤ 90)))) rfl rfl rfl (s_pick_yes (d := (sb (decide (a0 ≤ 90)))) rfl c1 rfl (s_move (d := (sb (decide (a0 ≤ 90)))) rfl ?_))
  rcases itH h with ⟨c2, h⟩ | ⟨c2, h⟩
  ·iterate 3 refine AWops.guard_no rfl (nl rfl) rfl c2 ?_
   refine AWops.guard_undef rfl rfl ?_
   refine AWops.guard_undef rfl rfl ?_
   refine AWops.guard_no rfl (nl rfl) rfl c2 ?_
   refine s_pick_yes (d := (sb true)) rfl c2 rfl (s_move (d := (sb true)) rfl ?_)
   refine AWops.guard_no rfl (nl rfl) rfl rfl ?_
   refine AWops.guard_no rfl (nl rfl) rfl rfl ?_
   refine s_pick_yes (d := (sb true)) rfl rfl rfl (s_assign (d := (sb true)) rfl (AWops.nil (AW.ret ?_)))
   obtain rfl := Option.some.inj h
   exact ⟨_, rfl, (wg 0 [] [] rfl (le_upd (le_top _) (o1 .sc)) an)⟩
  ·refine AWops.guard_yes rfl (nl rfl) rfl c2 ?_
   refine s_move (d := (sc (.int .u8 a0))) rfl ?_
   refine AWops.guard_yes rfl (nl rfl) rfl c2 ?_
   refine s_binI (v := (.bool (decide (a0 ≥ 97)))) rfl rfl rfl ?_
   refine AWops.guard_yes rfl (nl rfl) rfl c2 ?_
   refine s_move (d := (sb (decide (a0 ≥ 97)))) rfl ?_
   rcases itH h with ⟨c3, h⟩ | ⟨c3, h⟩
   ·refine AWops.guard_yes rfl (nl rfl) rfl c3 ?_
    refine s_move (d := (sc (.int .u8 a0))) rfl ?_
    refine AWops.guard_yes rfl (nl rfl) rfl c3 ?_
    refine s_binI (v := (.bool (decide (a0 ≤ 122)))) rfl rfl rfl ?_
    refine AWops.guard_yes rfl (nl rfl) rfl c2 ?_
    refine s_pick_yes (d := (sb (decide (a0 ≤ 122)))) rfl c3 rfl (s_pick_no (d := (sb (decide (a0 ≤ 122)))) rfl c2 rfl (s_move (d := (sb (decide (a0 ≤ 122)))) rfl ?_))
    rcases itH h with ⟨c4, h⟩ | ⟨c4, h⟩
    ·refine AWops.guard_no rfl (nl rfl) rfl c4 ?_
     refine AWops.guard_no rfl (nl rfl) rfl c4 ?_
     refine s_pick_yes (d := (sb true)) rfl c4 rfl (s_assign (d := (sb true)) rfl (AWops.nil (AW.ret ?_)))
     obtain rfl := Option.some.inj h
     exact ⟨_, rfl, (wg 0 [] [] rfl (le_upd (le_top _) (o1 .sc)) an)⟩
    ·refine AWops.guard_yes rfl (nl rfl) rfl c4 ?_
     refine s_move (d := (sc (.int .u8 a0))) rfl ?_
     refine AWops.guard_yes rfl (nl rfl) rfl c4 ?_
     refine s_binI (v := (.bool (a0 == 95))) rfl rfl rfl (s_pick_no (d := (sb (a0 == 95))) rfl c4 rfl (s_assign (d := (sb (a0 == 95))) rfl (AWops.nil (AW.ret ?_))))
     obtain rfl := Option.some.inj h
     exact ⟨_, rfl, (wg 0 [] [] rfl (le_upd (le_top _) (o1 .sc)) an)⟩
   ·refine AWops.guard_no rfl (nl rfl) rfl c3 ?_
    refine AWops.guard_no rfl (nl rfl) rfl c3 ?_
    refine AWops.guard_yes rfl (nl rfl) rfl c2 ?_
    refine s_pick_no (d := (sb false)) rfl c3 rfl (s_pick_no (d := (sb false)) rfl c2 rfl (s_move (d := (sb false)) rfl ?_))
    refine AWops.guard_yes rfl (nl rfl) rfl rfl ?_
    refine s_move (d := (sc (.int .u8 a0))) rfl ?_
    refine AWops.guard_yes rfl (nl rfl) rfl rfl ?_
    refine s_binI (v := (.bool (a0 == 95))) rfl rfl rfl (s_pick_no (d := (sb (a0 == 95))) rfl rfl rfl (s_assign (d := (sb (a0 == 95))) rfl (AWops.nil (AW.ret ?_))))
    obtain rfl := Option.some.inj h
    exact ⟨_, rfl, (wg 0 [] [] rfl (le_upd (le_top _) (o1 .sc)) an)⟩
 ·refine AWops.guard_no rfl (nl rfl) rfl c1 ?_
  refine AWops.guard_no rfl (nl rfl) rfl c1 ?_
  refine s_pick_no (d := (sb false)) rfl c1 rfl (s_move (d := (sb false)) rfl ?_)
  refine AWops.guard_yes rfl (nl rfl) rfl rfl ?_
  refine s_move (d := (sc (.int .u8 a0))) rfl ?_
  refine AWops.guard_yes rfl (nl rfl) rfl rfl ?_
  refine s_binI (v := (.bool (decide (a0 ≥ 97)))) rfl rfl rfl ?_
  refine AWops.guard_yes rfl (nl rfl) rfl rfl ?_
  refine s_move (d := (sb (decide (a0 ≥ 97)))) rfl ?_
  rcases itH h with ⟨c5, h⟩ | ⟨c5, h⟩
  ·refine AWops.guard_yes rfl (nl rfl) rfl c5 ?_
   refine s_move (d := (sc (.int .u8 a0))) rfl ?_
   refine AWops.guard_yes rfl (nl rfl) rfl c5 ?_
   refine s_binI (v := (.bool (decide (a0 ≤ 122)))) rfl rfl rfl ?_
   refine AWops.guard_yes rfl (nl rfl) rfl rfl ?_
   refine s_pick_yes (d := (sb (decide (a0 ≤ 122)))) rfl c5 rfl (s_pick_no (d := (sb (decide (a0 ≤ 122)))) rfl rfl rfl (s_move (d := (sb (decide (a0 ≤ 122)))) rfl ?_))
   rcases itH h with ⟨c6, h⟩ | ⟨c6, h⟩
   ·refine AWops.guard_no rfl (nl rfl) rfl c6 ?_
    refine AWops.guard_no rfl (nl rfl) rfl c6 ?_
    refine s_pick_yes (d := (sb true)) rfl c6 rfl (s_assign (d := (sb true)) rfl (AWops.nil (AW.ret ?_)))
    obtain rfl := Option.some.inj h
    exact ⟨_, rfl, (wg 0 [] [] rfl (le_upd (le_top _) (o1 .sc)) an)⟩
   ·refine AWops.guard_yes rfl (nl rfl) rfl c6 ?_
    refine s_move (d := (sc (.int .u8 a0))) rfl ?_
    refine AWops.guard_yes rfl (nl rfl) rfl c6 ?_
    refine s_binI (v := (.bool (a0 == 95))) rfl rfl rfl (s_pick_no (d := (sb (a0 == 95))) rfl c6 rfl (s_assign (d := (sb (a0 == 95))) rfl (AWops.nil (AW.ret ?_))))
    obtain rfl := Option.some.inj h
    exact ⟨_, rfl, (wg 0 [] [] rfl (le_upd (le_top _) (o1 .sc)) an)⟩
  ·refine AWops.guard_no rfl (nl rfl) rfl c5 ?_
   refine AWops.guard_no rfl (nl rfl) rfl c5 ?_
   refine AWops.guard_yes rfl (nl rfl) rfl rfl ?_
   refine s_pick_no (d := (sb false)) rfl c5 rfl (s_pick_no (d := (sb false)) rfl rfl rfl (s_move (d := (sb false)) rfl ?_))
   refine AWops.guard_yes rfl (nl rfl) rfl rfl ?_
   refine s_move (d := (sc (.int .u8 a0))) rfl ?_
   refine AWops.guard_yes rfl (nl rfl) rfl rfl ?_
   refine s_binI (v := (.bool (a0 == 95))) rfl rfl rfl (s_pick_no (d := (sb (a0 == 95))) rfl rfl rfl (s_assign (d := (sb (a0 == 95))) rfl (AWops.nil (AW.ret ?_))))
   obtain rfl := Option.some.inj h
   exact ⟨_, rfl, (wg 0 [] [] rfl (le_upd (le_top _) (o1 .sc)) an)⟩
def dossierref08_digit.f (k : Nat) (a0 : Int) : Option Bool := if (decide (a0 ≥ 48)) = true then (some (decide (a0 ≤ 57))) else (some false)
theorem dossierref08_digit.meets (k : Nat) (a0 : Int) (r : Bool) (h : dossierref08_digit.f k a0 = some r) : Meets Tryd.prog 63 [(sc (.int .u8 a0))] [] (sb r) [] := by
 unfold dossierref08_digit.f at h
 refine Meets.of_body (n := 9) Tryd.func63 rfl rfl (nl rfl) fun x hx => ?_
 replace hx : x.k = 0 := hx
 show AW _ x _ _ ⟨9, fr0 [(sc (.int .u8 a0))], []⟩
 refine AW.seq (AW.region ?_)
 refine s_assign (d := (sb false)) rfl (AWops.nil (AW.seq (AW.region ?_)))
 refine s_move (d := (sc (.int .u8 a0))) rfl (s_binI (v := (.bool (decide (a0 ≥ 48)))) rfl rfl rfl (s_move (d := (sb (decide (a0 ≥ 48)))) rfl ?_))
 rcases itH h with ⟨c1, h⟩ | ⟨c1, h⟩
 ·refine AWops.guard_yes rfl (nl rfl) rfl c1 ?_
  refine s_move (d := (sc (.int .u8 a0))) rfl ?_
  refine AWops.guard_yes rfl (nl rfl) rfl c1 ?_
  refine s_binI (v := (.bool (decide (a0 ≤ 57)))) rfl rfl rfl (s_pick_yes (d := (sb (decide (a0 ≤ 57)))) rfl c1 rfl (s_assign (d := (sb (decide (a0 ≤ 57)))) rfl (AWops.nil (AW.ret ?_))))
  obtain rfl := Option.some.inj h
  exact ⟨_, rfl, (wg 0 [] [] rfl (le_upd (le_top _) (o1 .sc)) an)⟩
 ·refine AWops.guard_no rfl (nl rfl) rfl c1 ?_
  refine AWops.guard_no rfl (nl rfl) rfl c1 ?_
  refine s_pick_no (d := (sb false)) rfl c1 rfl (s_assign (d := (sb false)) rfl (AWops.nil (AW.ret ?_)))
  obtain rfl := Option.some.inj h
  exact ⟨_, rfl, (wg 0 [] [] rfl (le_upd (le_top _) (o1 .sc)) an)⟩
mutual
def dossierref08_Plain.l0 : Nat → Int → ByteArray → Option Bool
 | 0, _, _ => none
 | k + 1, x1, a0 => if (decide (x1 < (a0.size : Int))) = true then ((bt a0 x1).bind fun v3 => (dossierref08_letter.f k v3).bind fun r4 => if r4 = true then (dossierref08_Plain.l0 k (IntKind.i64.wrap (x1 + 1)) a0) else (if (x1 == 0) = true then (some false) else ((bt a0 x1).bind fun v7 => (dossierref08_digit.f k v7).bind fun r8 => if r8 = true then (dossierref08_Plain.l0 k (IntKind.i64.wrap (x1 + 1)) a0) else (some false)))) else (some (decide ((a0.size : Int) > 0)))
end
def dossierref08_Plain.f (k : Nat) (a0 : ByteArray) : Option Bool := dossierref08_Plain.l0 k 0 a0
theorem dossierref08_Plain.meets (k : Nat) (a0 : ByteArray) (r : Bool) (h : dossierref08_Plain.f k a0 = some r) : Meets Tryd.prog 51 [(st_ a0)] [] (sb r) [] := by
 unfold dossierref08_Plain.f at h
 refine Meets.of_body (n := 29) Tryd.func51 rfl rfl (nl rfl) fun x hx => ?_
 replace hx : x.k = 0 := hx
 show AW _ x _ _ ⟨29, fr0 [(st_ a0)], []⟩
 refine AW.seq (AW.region ?_)
 refine s_assign (d := (sb false)) rfl (AWops.nil (AW.seq (AW.seq (AW.region ?_))))
 refine s_move (d := (st_ a0)) rfl (s_len (n := a0.size) F.u_9 rfl (.inl ⟨⟨_, _, rfl⟩, rfl⟩) (s_move (d := (si 0)) rfl (AWops.nil (AW.block ?_))))
 refine AW.loopw (st0 := ⟨29, (upd 29 (upd 29 (upd 29 topF 0 (st_ a0)) 5 (si (a0.size : Int))) 6 (si 0)), []⟩) (fun kv st => kv ≤ k ∧ ∃ (x1 : Int), dossierref08_Plain.l0 kv x1 a0 = some r ∧ st = ⟨29, (upd 29 (upd 29 (upd 29 topF 0 (st_ a0)) 5 (si (a0.size : Int))) 6 (si x1)), []⟩) (k := k) (wg 0 [] [] hx (le_upd (le_upd (le_upd (le_top _) (o1 .sc)) (o1 .sc)) (o1 .sc)) an) ⟨Nat.le_refl _, 0, h, rfl⟩ ?_
 rintro ql0 st ⟨hkl0, x1, h, rfl⟩
 cases ql0 with
 | zero => exact absurd h (by simp [dossierref08_Plain.l0])
 | succ ql0 =>
  replace h := (dossierref08_Plain.l0.eq_2 _ _ _).symm.trans h
  refine AW.seq (AW.region ?_)
  refine s_binI (v := (.bool (decide (x1 < (a0.size : Int))))) rfl rfl rfl (AWops.nil (AW.seq ?_))
  rcases itH h with ⟨c2, h⟩ | ⟨c2, h⟩
  ·refine AW.cond_yes rfl c2 (AW.skip (AW.seq (AW.block (AW.seq (AW.region ?_)))))
   refine s_move (d := (si x1)) rfl (s_assign (d := (si x1)) rfl (AWops.nil (AW.seq (AW.region (s_move (d := (st_ a0)) rfl (s_move (d := (si x1)) rfl ?_))))))
   obtain ⟨v3, ev3, h⟩ := bnd h
   obtain ⟨pv3, bv3, gv3, rfl⟩ := bt_some ev3
   refine s_indexStr F.u_9 rfl rfl pv3 gv3 ?_
   generalize hzv3 : ((bv3.toNat : Nat) : Int) = v3 at *
   obtain ⟨r4, er4, h⟩ := bnd h
   refine cc [] [] (sb r4) F.ca_62 rfl rfl (ac (.one .sc) an) an (dossierref08_letter.meets _ v3 r4 er4) (s_not rfl (s_move (d := (sb (!r4))) rfl ?_))
   rcases itH h with ⟨c5, h⟩ | ⟨c5, h⟩
   ·iterate 3 refine AWops.guard_no rfl (nl rfl) rfl (by rw [c5] <;> rfl) ?_
    iterate 5 refine AWops.guard_undef rfl rfl ?_
    refine AWops.guard_no rfl (nl rfl) rfl (by rw [c5] <;> rfl) ?_
    refine s_pick_no (d := (sb false)) rfl (by rw [c5] <;> rfl) rfl (AWops.nil ?_)
    refine AW.cond_no rfl rfl (AW.skip (AW.region ?_))
    refine s_binI (v := (.int .i64 (IntKind.i64.wrap (x1 + 1)))) rfl rfl rfl (s_move (d := (si (IntKind.i64.wrap (x1 + 1)))) rfl (AWops.nil ?_))
    exact ⟨_, ⟨29, (upd 29 (upd 29 (upd 29 topF 0 (st_ a0)) 5 (si (a0.size : Int))) 6 (si (IntKind.i64.wrap (x1 + 1)))), []⟩, by omega, (wg 0 [] [] hx (le_upd (le_upd (le_upd (le_top _) (o1 .sc)) (o1 .sc)) (o1 .sc)) an), by omega, IntKind.i64.wrap (x1 + 1), h, rfl⟩
   ·refine AWops.guard_yes rfl (nl rfl) rfl (by rw [c5] <;> rfl) ?_
    refine s_move (d := (si x1)) rfl ?_
    refine AWops.guard_yes rfl (nl rfl) rfl (by rw [c5] <;> rfl) ?_
    refine s_binI (v := (.bool (x1 == 0))) rfl rfl rfl ?_
    refine AWops.guard_yes rfl (nl rfl) rfl (by rw [c5] <;> rfl) ?_
    refine s_move (d := (sb (x1 == 0))) rfl ?_
    rcases itH h with ⟨c6, h⟩ | ⟨c6, h⟩
    ·iterate 5 refine AWops.guard_no rfl (nl rfl) rfl c6 ?_
     refine AWops.guard_yes rfl (nl rfl) rfl (by rw [c5] <;> rfl) ?_
     refine s_pick_yes (d := (sb true)) rfl c6 rfl (s_pick_yes (d := (sb true)) rfl (by rw [c5] <;> rfl) rfl (AWops.nil ?_))
     refine AW.cond_yes rfl rfl (AW.seq (AW.region ?_))
     refine s_assign (d := (sb false)) rfl (AWops.nil (AW.ret ?_))
     obtain rfl := Option.some.inj h
     exact ⟨_, rfl, (wg 0 [] [] rfl (le_upd (le_top _) (o1 .sc)) an)⟩
    ·refine AWops.guard_yes rfl (nl rfl) rfl c6 ?_
     refine s_move (d := (st_ a0)) rfl ?_
     refine AWops.guard_yes rfl (nl rfl) rfl c6 ?_
     refine s_move (d := (si x1)) rfl ?_
     refine AWops.guard_yes rfl (nl rfl) rfl c6 ?_
     obtain ⟨v7, ev7, h⟩ := bnd h
     obtain ⟨pv7, bv7, gv7, rfl⟩ := bt_some ev7
     refine s_indexStr F.u_9 rfl rfl pv7 gv7 ?_
     generalize hzv7 : ((bv7.toNat : Nat) : Int) = v7 at *
     refine AWops.guard_yes rfl (nl rfl) rfl c6 ?_
     obtain ⟨r8, er8, h⟩ := bnd h
     refine cc [] [] (sb r8) F.ca_63 rfl rfl (ac (.one .sc) an) an (dossierref08_digit.meets _ v7 r8 er8) ?_
     refine AWops.guard_yes rfl (nl rfl) rfl c6 ?_
     refine s_not rfl ?_
     refine AWops.guard_yes rfl (nl rfl) rfl (by rw [c5] <;> rfl) ?_
     refine s_pick_no (d := (sb (!r8))) rfl c6 rfl (s_pick_yes (d := (sb (!r8))) rfl (by rw [c5] <;> rfl) rfl (AWops.nil ?_))
     rcases itH h with ⟨c9, h⟩ | ⟨c9, h⟩
     ·refine AW.cond_no rfl (by rw [c9] <;> rfl) (AW.skip (AW.region ?_))
      refine s_binI (v := (.int .i64 (IntKind.i64.wrap (x1 + 1)))) rfl rfl rfl (s_move (d := (si (IntKind.i64.wrap (x1 + 1)))) rfl (AWops.nil ?_))
      exact ⟨_, ⟨29, (upd 29 (upd 29 (upd 29 topF 0 (st_ a0)) 5 (si (a0.size : Int))) 6 (si (IntKind.i64.wrap (x1 + 1)))), []⟩, by omega, (wg 0 [] [] hx (le_upd (le_upd (le_upd (le_top _) (o1 .sc)) (o1 .sc)) (o1 .sc)) an), by omega, IntKind.i64.wrap (x1 + 1), h, rfl⟩
     ·refine AW.cond_yes rfl (by rw [c9] <;> rfl) (AW.seq (AW.region ?_))
      refine s_assign (d := (sb false)) rfl (AWops.nil (AW.ret ?_))
      obtain rfl := Option.some.inj h
      exact ⟨_, rfl, (wg 0 [] [] rfl (le_upd (le_top _) (o1 .sc)) an)⟩
  ·refine AW.cond_no rfl c2 (AW.exit (AW.seq (AW.region ?_)))
   refine s_move (d := (st_ a0)) rfl (s_len (n := a0.size) F.u_9 rfl (.inl ⟨⟨_, _, rfl⟩, rfl⟩) (s_binI (v := (.bool (decide ((a0.size : Int) > 0)))) rfl rfl rfl (s_assign (d := (sb (decide ((a0.size : Int) > 0)))) rfl (AWops.nil (AW.ret ?_)))))
   obtain rfl := Option.some.inj h
   exact ⟨_, rfl, (wg 0 [] [] rfl (le_upd (le_top _) (o1 .sc)) an)⟩
mutual
def dossierref09_Keyword.l0 : Nat → Int → ByteArray → Option Bool
 | 0, _, _ => none
 | k + 1, x1, a0 => if (decide (x1 < (([(⟨#[97, 110, 100]⟩ : ByteArray), (⟨#[111, 114]⟩ : ByteArray), (⟨#[110, 111, 116]⟩ : ByteArray), (⟨#[116, 114, 117, 101]⟩ : ByteArray), (⟨#[102, 97, 108, 115, 101]⟩ : ByteArray), (⟨#[99, 111, 117, 110, 116]⟩ : ByteArray), (⟨#[110, 117, 109, 98, 101, 114]⟩ : ByteArray)] : List ByteArray).length : Int))) = true then ((rd ([(⟨#[97, 110, 100]⟩ : ByteArray), (⟨#[111, 114]⟩ : ByteArray), (⟨#[110, 111, 116]⟩ : ByteArray), (⟨#[116, 114, 117, 101]⟩ : ByteArray), (⟨#[102, 97, 108, 115, 101]⟩ : ByteArray), (⟨#[99, 111, 117, 110, 116]⟩ : ByteArray), (⟨#[110, 117, 109, 98, 101, 114]⟩ : ByteArray)] : List ByteArray) x1).bind fun v3 => if (a0.toList == v3.toList) = true then (some true) else (dossierref09_Keyword.l0 k (IntKind.i64.wrap (x1 + 1)) a0)) else (some false)
end
def dossierref09_Keyword.f (k : Nat) (a0 : ByteArray) : Option Bool := dossierref09_Keyword.l0 k 0 a0
theorem dossierref09_Keyword.meets (k : Nat) (a0 : ByteArray) (r : Bool) (h : dossierref09_Keyword.f k a0 = some r) : Meets Tryd.prog 52 [(st_ a0)] [] (sb r) [] := by
 unfold dossierref09_Keyword.f at h
 refine Meets.of_body (n := 15) Tryd.func52 rfl rfl (nl rfl) fun x hx => ?_
 replace hx : x.k = 0 := hx
 show AW _ x _ _ ⟨15, fr0 [(st_ a0)], []⟩
 refine AW.seq (AW.region ?_)
 refine s_assign (d := (sb false)) rfl (AWops.nil (AW.seq (AW.seq (AW.region ?_))))
 refine s_buildSlice (n := 7) (ps := [(0, (st_ (⟨#[97, 110, 100]⟩ : ByteArray))), (1, (st_ (⟨#[111, 114]⟩ : ByteArray))), (2, (st_ (⟨#[110, 111, 116]⟩ : ByteArray))), (3, (st_ (⟨#[116, 114, 117, 101]⟩ : ByteArray))), (4, (st_ (⟨#[102, 97, 108, 115, 101]⟩ : ByteArray))), (5, (st_ (⟨#[99, 111, 117, 110, 116]⟩ : ByteArray))), (6, (st_ (⟨#[110, 117, 109, 98, 101, 114]⟩ : ByteArray)))]) (cs := rowC e_str ([(⟨#[97, 110, 100]⟩ : ByteArray), (⟨#[111, 114]⟩ : ByteArray), (⟨#[110, 111, 116]⟩ : ByteArray), (⟨#[116, 114, 117, 101]⟩ : ByteArray), (⟨#[102, 97, 108, 115, 101]⟩ : ByteArray), (⟨#[99, 111, 117, 110, 116]⟩ : ByteArray), (⟨#[110, 117, 109, 98, 101, 114]⟩ : ByteArray)] : List ByteArray)) F.u_25 F.sz_9 F.z_9 rfl rfl (by decide) (by decide) rfl rfl (s_len (n := ([(⟨#[97, 110, 100]⟩ : ByteArray), (⟨#[111, 114]⟩ : ByteArray), (⟨#[110, 111, 116]⟩ : ByteArray), (⟨#[116, 114, 117, 101]⟩ : ByteArray), (⟨#[102, 97, 108, 115, 101]⟩ : ByteArray), (⟨#[99, 111, 117, 110, 116]⟩ : ByteArray), (⟨#[110, 117, 109, 98, 101, 114]⟩ : ByteArray)] : List ByteArray).length) F.u_25 rfl (.inr ⟨(fun _ _ h => by cases h), ⟨_, rfl⟩⟩) (s_move (d := (si 0)) rfl (AWops.nil (AW.block ?_))))
 refine AW.loopw (st0 := ⟨15, (upd 15 (upd 15 (upd 15 (upd 15 topF 0 (st_ a0)) 5 (D.one (C.own 0 0 (([(⟨#[97, 110, 100]⟩ : ByteArray), (⟨#[111, 114]⟩ : ByteArray), (⟨#[110, 111, 116]⟩ : ByteArray), (⟨#[116, 114, 117, 101]⟩ : ByteArray), (⟨#[102, 97, 108, 115, 101]⟩ : ByteArray), (⟨#[99, 111, 117, 110, 116]⟩ : ByteArray), (⟨#[110, 117, 109, 98, 101, 114]⟩ : ByteArray)] : List ByteArray).length) 1))) 6 (si (([(⟨#[97, 110, 100]⟩ : ByteArray), (⟨#[111, 114]⟩ : ByteArray), (⟨#[110, 111, 116]⟩ : ByteArray), (⟨#[116, 114, 117, 101]⟩ : ByteArray), (⟨#[102, 97, 108, 115, 101]⟩ : ByteArray), (⟨#[99, 111, 117, 110, 116]⟩ : ByteArray), (⟨#[110, 117, 109, 98, 101, 114]⟩ : ByteArray)] : List ByteArray).length : Int))) 7 (si 0)), [(some (AObj.cells true (rowC e_str ([(⟨#[97, 110, 100]⟩ : ByteArray), (⟨#[111, 114]⟩ : ByteArray), (⟨#[110, 111, 116]⟩ : ByteArray), (⟨#[116, 114, 117, 101]⟩ : ByteArray), (⟨#[102, 97, 108, 115, 101]⟩ : ByteArray), (⟨#[99, 111, 117, 110, 116]⟩ : ByteArray), (⟨#[110, 117, 109, 98, 101, 114]⟩ : ByteArray)] : List ByteArray))))]⟩) (fun kv st => kv ≤ k ∧ ∃ (x1 : Int), dossierref09_Keyword.l0 kv x1 a0 = some r ∧ st = ⟨15, (upd 15 (upd 15 (upd 15 (upd 15 topF 0 (st_ a0)) 5 (D.one (C.own 0 0 (([(⟨#[97, 110, 100]⟩ : ByteArray), (⟨#[111, 114]⟩ : ByteArray), (⟨#[110, 111, 116]⟩ : ByteArray), (⟨#[116, 114, 117, 101]⟩ : ByteArray), (⟨#[102, 97, 108, 115, 101]⟩ : ByteArray), (⟨#[99, 111, 117, 110, 116]⟩ : ByteArray), (⟨#[110, 117, 109, 98, 101, 114]⟩ : ByteArray)] : List ByteArray).length) 1))) 6 (si (([(⟨#[97, 110, 100]⟩ : ByteArray), (⟨#[111, 114]⟩ : ByteArray), (⟨#[110, 111, 116]⟩ : ByteArray), (⟨#[116, 114, 117, 101]⟩ : ByteArray), (⟨#[102, 97, 108, 115, 101]⟩ : ByteArray), (⟨#[99, 111, 117, 110, 116]⟩ : ByteArray), (⟨#[110, 117, 109, 98, 101, 114]⟩ : ByteArray)] : List ByteArray).length : Int))) 7 (si x1)), [(some (AObj.cells true (rowC e_str ([(⟨#[97, 110, 100]⟩ : ByteArray), (⟨#[111, 114]⟩ : ByteArray), (⟨#[110, 111, 116]⟩ : ByteArray), (⟨#[116, 114, 117, 101]⟩ : ByteArray), (⟨#[102, 97, 108, 115, 101]⟩ : ByteArray), (⟨#[99, 111, 117, 110, 116]⟩ : ByteArray), (⟨#[110, 117, 109, 98, 101, 114]⟩ : ByteArray)] : List ByteArray))))]⟩) (k := k) (wg 0 [0] [] hx (le_upd (le_upd (le_upd (le_upd (le_top _) (o1 .sc)) (o1 (.own rfl))) (o1 .sc)) (o1 .sc)) (ac (.cells (fun _ => rfl) (all2_row _)) an)) ⟨Nat.le_refl _, 0, h, rfl⟩ ?_
 rintro ql0 st ⟨hkl0, x1, h, rfl⟩
 cases ql0 with
 | zero => exact absurd h (by simp [dossierref09_Keyword.l0])
 | succ ql0 =>
  replace h := (dossierref09_Keyword.l0.eq_2 _ _ _).symm.trans h
  refine AW.seq (AW.region ?_)
  refine s_binI (v := (.bool (decide (x1 < (([(⟨#[97, 110, 100]⟩ : ByteArray), (⟨#[111, 114]⟩ : ByteArray), (⟨#[110, 111, 116]⟩ : ByteArray), (⟨#[116, 114, 117, 101]⟩ : ByteArray), (⟨#[102, 97, 108, 115, 101]⟩ : ByteArray), (⟨#[99, 111, 117, 110, 116]⟩ : ByteArray), (⟨#[110, 117, 109, 98, 101, 114]⟩ : ByteArray)] : List ByteArray).length : Int))))) rfl rfl rfl (AWops.nil (AW.seq ?_))
  rcases itH h with ⟨c2, h⟩ | ⟨c2, h⟩
  ·refine AW.cond_yes rfl c2 (AW.skip (AW.seq (AW.block (AW.seq (AW.region ?_)))))
   obtain ⟨v3, ev3, h⟩ := bnd h
   obtain ⟨pv3, qv3, gv3⟩ := rd_some ev3
   refine s_indexOwn (d := (D.one (C.ref 0 (0 + x1.toNat * 1)))) F.u_25 F.sz_9 rfl rfl pv3 qv3 rfl ?_
   obtain ⟨R4, hR4⟩ := row_at (f := e_str) (sz := 1) (o := 0) e_str_len gv3 (e_str_eq v3) (by decide)
   refine s_load1 (c' := (ct v3)) F.ag_9 (congrArg some hR4) rfl (s_assign (d := (st_ v3)) rfl (AWops.nil (AW.seq (AW.region (s_move (d := (st_ a0)) rfl (s_move (d := (st_ v3)) rfl (s_binS (v := (.bool (a0.toList == v3.toList))) rfl rfl rfl (AWops.nil ?_))))))))
   rcases itH h with ⟨c5, h⟩ | ⟨c5, h⟩
   ·refine AW.cond_yes rfl c5 (AW.seq (AW.region ?_))
    refine s_assign (d := (sb true)) rfl (AWops.nil (AW.ret ?_))
    obtain rfl := Option.some.inj h
    exact ⟨_, rfl, (wg 0 [] [] rfl (le_upd (le_top _) (o1 .sc)) an)⟩
   ·refine AW.cond_no rfl c5 (AW.skip (AW.region ?_))
    refine s_binI (v := (.int .i64 (IntKind.i64.wrap (x1 + 1)))) rfl rfl rfl (s_move (d := (si (IntKind.i64.wrap (x1 + 1)))) rfl (AWops.nil ?_))
    exact ⟨_, ⟨15, (upd 15 (upd 15 (upd 15 (upd 15 topF 0 (st_ a0)) 5 (D.one (C.own 0 0 (([(⟨#[97, 110, 100]⟩ : ByteArray), (⟨#[111, 114]⟩ : ByteArray), (⟨#[110, 111, 116]⟩ : ByteArray), (⟨#[116, 114, 117, 101]⟩ : ByteArray), (⟨#[102, 97, 108, 115, 101]⟩ : ByteArray), (⟨#[99, 111, 117, 110, 116]⟩ : ByteArray), (⟨#[110, 117, 109, 98, 101, 114]⟩ : ByteArray)] : List ByteArray).length) 1))) 6 (si (([(⟨#[97, 110, 100]⟩ : ByteArray), (⟨#[111, 114]⟩ : ByteArray), (⟨#[110, 111, 116]⟩ : ByteArray), (⟨#[116, 114, 117, 101]⟩ : ByteArray), (⟨#[102, 97, 108, 115, 101]⟩ : ByteArray), (⟨#[99, 111, 117, 110, 116]⟩ : ByteArray), (⟨#[110, 117, 109, 98, 101, 114]⟩ : ByteArray)] : List ByteArray).length : Int))) 7 (si (IntKind.i64.wrap (x1 + 1)))), [(some (AObj.cells true (rowC e_str ([(⟨#[97, 110, 100]⟩ : ByteArray), (⟨#[111, 114]⟩ : ByteArray), (⟨#[110, 111, 116]⟩ : ByteArray), (⟨#[116, 114, 117, 101]⟩ : ByteArray), (⟨#[102, 97, 108, 115, 101]⟩ : ByteArray), (⟨#[99, 111, 117, 110, 116]⟩ : ByteArray), (⟨#[110, 117, 109, 98, 101, 114]⟩ : ByteArray)] : List ByteArray))))]⟩, by omega, (wg 0 [0] [] hx (le_upd (le_upd (le_upd (le_upd (le_top _) (o1 .sc)) (o1 (.own rfl))) (o1 .sc)) (o1 .sc)) (ac (.cells (fun _ => rfl) (all2_row _)) an)), by omega, IntKind.i64.wrap (x1 + 1), h, rfl⟩
  ·refine AW.cond_no rfl c2 (AW.exit (AW.seq (AW.region ?_)))
   refine s_assign (d := (sb false)) rfl (AWops.nil (AW.ret ?_))
   obtain rfl := Option.some.inj h
   exact ⟨_, rfl, (wg 0 [] [] rfl (le_upd (le_top _) (o1 .sc)) an)⟩
def dossierref09_Named.f (k : Nat) (a0 : ByteArray) : Option Bool := (dossierref08_Plain.f k a0).bind fun r1 => if r1 = true then ((dossierref09_Keyword.f k a0).bind fun r3 => some (!r3)) else (some false)
theorem dossierref09_Named.meets (k : Nat) (a0 : ByteArray) (r : Bool) (h : dossierref09_Named.f k a0 = some r) : Meets Tryd.prog 45 [(st_ a0)] [] (sb r) [] := by
 unfold dossierref09_Named.f at h
 refine Meets.of_body (n := 10) Tryd.func45 rfl rfl (nl rfl) fun x hx => ?_
 replace hx : x.k = 0 := hx
 show AW _ x _ _ ⟨10, fr0 [(st_ a0)], []⟩
 refine AW.seq (AW.region ?_)
 refine s_assign (d := (sb false)) rfl (AWops.nil (AW.seq (AW.region ?_)))
 refine s_move (d := (st_ a0)) rfl ?_
 obtain ⟨r1, er1, h⟩ := bnd h
 refine cc [] [] (sb r1) F.ca_51 rfl rfl (ac (.one .sc) an) an (dossierref08_Plain.meets _ a0 r1 er1) (s_move (d := (sb r1)) rfl ?_)
 rcases itH h with ⟨c2, h⟩ | ⟨c2, h⟩
 ·refine AWops.guard_yes rfl (nl rfl) rfl c2 ?_
  refine s_move (d := (st_ a0)) rfl ?_
  refine AWops.guard_yes rfl (nl rfl) rfl c2 ?_
  obtain ⟨r3, er3, h⟩ := bnd h
  refine cc [] [] (sb r3) F.ca_52 rfl rfl (ac (.one .sc) an) an (dossierref09_Keyword.meets _ a0 r3 er3) ?_
  refine AWops.guard_yes rfl (nl rfl) rfl c2 ?_
  refine s_not rfl (s_pick_yes (d := (sb (!r3))) rfl c2 rfl (s_assign (d := (sb (!r3))) rfl (AWops.nil (AW.ret ?_))))
  obtain rfl := Option.some.inj h
  exact ⟨_, rfl, (wg 0 [] [] rfl (le_upd (le_top _) (o1 .sc)) an)⟩
 ·iterate 3 refine AWops.guard_no rfl (nl rfl) rfl c2 ?_
  refine s_pick_no (d := (sb false)) rfl c2 rfl (s_assign (d := (sb false)) rfl (AWops.nil (AW.ret ?_)))
  obtain rfl := Option.some.inj h
  exact ⟨_, rfl, (wg 0 [] [] rfl (le_upd (le_top _) (o1 .sc)) an)⟩
def dossierref01_Encode.f (k : Nat) (a0 : Int) : Option (List Int) := if (decide (a0 < 0)) = true then (some ([] : List Int)) else (if (decide (a0 > 1114111)) = true then (some ([] : List Int)) else (if (decide (a0 ≥ 55296)) = true then (if (decide (a0 ≤ 57343)) = true then (some ([] : List Int)) else (if (decide (a0 < 128)) = true then (some ([IntKind.u8.wrap a0] : List Int)) else (if (decide (a0 < 2048)) = true then (some ([IntKind.u8.wrap (IntKind.i64.wrap (192 + (Int.fdiv a0 (2 ^ 6)))), IntKind.u8.wrap (IntKind.i64.wrap (128 + (Int.tmod a0 64)))] : List Int)) else (if (decide (a0 < 65536)) = true then (some ([IntKind.u8.wrap (IntKind.i64.wrap (224 + (Int.fdiv a0 (2 ^ 12)))), IntKind.u8.wrap (IntKind.i64.wrap (128 + (Int.tmod (Int.fdiv a0 (2 ^ 6)) 64))), IntKind.u8.wrap (IntKind.i64.wrap (128 + (Int.tmod a0 64)))] : List Int)) else (some ([IntKind.u8.wrap (IntKind.i64.wrap (240 + (Int.fdiv a0 (2 ^ 18)))), IntKind.u8.wrap (IntKind.i64.wrap (128 + (Int.tmod (Int.fdiv a0 (2 ^ 12)) 64))), IntKind.u8.wrap (IntKind.i64.wrap (128 + (Int.tmod (Int.fdiv a0 (2 ^ 6)) 64))), IntKind.u8.wrap (IntKind.i64.wrap (128 + (Int.tmod a0 64)))] : List Int)))))) else (if (decide (a0 < 128)) = true then (some ([IntKind.u8.wrap a0] : List Int)) else (if (decide (a0 < 2048)) = true then (some ([IntKind.u8.wrap (IntKind.i64.wrap (192 + (Int.fdiv a0 (2 ^ 6)))), IntKind.u8.wrap (IntKind.i64.wrap (128 + (Int.tmod a0 64)))] : List Int)) else (if (decide (a0 < 65536)) = true then (some ([IntKind.u8.wrap (IntKind.i64.wrap (224 + (Int.fdiv a0 (2 ^ 12)))), IntKind.u8.wrap (IntKind.i64.wrap (128 + (Int.tmod (Int.fdiv a0 (2 ^ 6)) 64))), IntKind.u8.wrap (IntKind.i64.wrap (128 + (Int.tmod a0 64)))] : List Int)) else (some ([IntKind.u8.wrap (IntKind.i64.wrap (240 + (Int.fdiv a0 (2 ^ 18)))), IntKind.u8.wrap (IntKind.i64.wrap (128 + (Int.tmod (Int.fdiv a0 (2 ^ 12)) 64))), IntKind.u8.wrap (IntKind.i64.wrap (128 + (Int.tmod (Int.fdiv a0 (2 ^ 6)) 64))), IntKind.u8.wrap (IntKind.i64.wrap (128 + (Int.tmod a0 64)))] : List Int)))))))
theorem dossierref01_Encode.meets (k : Nat) (a0 : Int) (r : (List Int)) (h : dossierref01_Encode.f k a0 = some r) : Meets Tryd.prog 64 [(si a0)] [] (D.one (C.own 0 0 r.length 1)) [(ow_ e_u8 r)] := by
 unfold dossierref01_Encode.f at h
 refine Meets.of_body (n := 72) Tryd.func64 rfl rfl (nl rfl) fun x hx => ?_
 replace hx : x.k = 0 := hx
 show AW _ x _ _ ⟨72, fr0 [(si a0)], []⟩
 refine AW.seq (AW.region ?_)
 refine s_assign (d := (sc (.slice none 0 0))) rfl (AWops.nil (AW.seq (AW.block (AW.seq (AW.region ?_)))))
 refine s_move (d := (si a0)) rfl (s_binI (v := (.bool (decide (a0 < 0)))) rfl rfl rfl (s_move (d := (sb (decide (a0 < 0)))) rfl ?_))
 rcases itH h with ⟨c1, h⟩ | ⟨c1, h⟩
 ·refine AWops.guard_no rfl (nl rfl) rfl c1 ?_
  refine AWops.guard_no rfl (nl rfl) rfl c1 ?_
  refine s_pick_yes (d := (sb true)) rfl c1 rfl (s_move (d := (sb true)) rfl ?_)
  iterate 3 refine AWops.guard_no rfl (nl rfl) rfl rfl ?_
  refine AWops.guard_undef rfl rfl ?_
  refine AWops.guard_undef rfl rfl ?_
  refine AWops.guard_no rfl (nl rfl) rfl rfl ?_
  refine s_pick_yes (d := (sb true)) rfl rfl rfl (s_assign (d := (sb true)) rfl (AWops.nil ?_))
  refine AW.cond_yes rfl rfl (AW.seq (AW.region ?_))
  refine s_assign (d := (sc (.slice none 0 0))) rfl (AWops.nil (AW.ret ?_))
  obtain rfl := Option.some.inj h
  exact ⟨_, rfl, (Weak.trans (Weak.nil (sz := 1) (i := 0) rfl) (wg 0 [0] [] rfl (le_upd (le_top _) (o1 (CLe.ownN rfl (by simp)))) (ac (.cells (fun _ => rfl) an) an)))⟩
 ·refine AWops.guard_yes rfl (nl rfl) rfl c1 ?_
  refine s_move (d := (si a0)) rfl ?_
  refine AWops.guard_yes rfl (nl rfl) rfl c1 ?_
  refine s_binI (v := (.bool (decide (a0 > 1114111)))) rfl rfl rfl (s_pick_no (d := (sb (decide (a0 > 1114111)))) rfl c1 rfl (s_move (d := (sb (decide (a0 > 1114111)))) rfl ?_))
  rcases itH h with ⟨c2, h⟩ | ⟨c2, h⟩
  ·iterate 3 refine AWops.guard_no rfl (nl rfl) rfl c2 ?_
   refine AWops.guard_undef rfl rfl ?_
   refine AWops.guard_undef rfl rfl ?_
   refine AWops.guard_no rfl (nl rfl) rfl c2 ?_
   refine s_pick_yes (d := (sb true)) rfl c2 rfl (s_assign (d := (sb true)) rfl (AWops.nil ?_))
   refine AW.cond_yes rfl rfl (AW.seq (AW.region ?_))
   refine s_assign (d := (sc (.slice none 0 0))) rfl (AWops.nil (AW.ret ?_))
   obtain rfl := Option.some.inj h
   exact ⟨_, rfl, (Weak.trans (Weak.nil (sz := 1) (i := 0) rfl) (wg 0 [0] [] rfl (le_upd (le_top _) (o1 (CLe.ownN rfl (by simp)))) (ac (.cells (fun _ => rfl) an) an)))⟩
  ·refine AWops.guard_yes rfl (nl rfl) rfl c2 ?_
   refine s_move (d := (si a0)) rfl ?_
   refine AWops.guard_yes rfl (nl rfl) rfl c2 ?_
   refine s_binI (v := (.bool (decide (a0 ≥ 55296)))) rfl rfl rfl ?_
   refine AWops.guard_yes rfl (nl rfl) rfl c2 ?_
   refine s_move (d := (sb (decide (a0 ≥ 55296)))) rfl ?_
   rcases itH h with ⟨c3, h⟩ | ⟨c3, h⟩
   ·refine AWops.guard_yes rfl (nl rfl) rfl c3 ?_
    refine s_move (d := (si a0)) rfl ?_
    refine AWops.guard_yes rfl (nl rfl) rfl c3 ?_
    refine s_binI (v := (.bool (decide (a0 ≤ 57343)))) rfl rfl rfl ?_
    refine AWops.guard_yes rfl (nl rfl) rfl c2 ?_
    refine s_pick_yes (d := (sb (decide (a0 ≤ 57343)))) rfl c3 rfl (s_pick_no (d := (sb (decide (a0 ≤ 57343)))) rfl c2 rfl (s_assign (d := (sb (decide (a0 ≤ 57343)))) rfl (AWops.nil ?_)))
    rcases itH h with ⟨c4, h⟩ | ⟨c4, h⟩
    ·refine AW.cond_yes rfl c4 (AW.seq (AW.region ?_))
     refine s_assign (d := (sc (.slice none 0 0))) rfl (AWops.nil (AW.ret ?_))
     obtain rfl := Option.some.inj h
     exact ⟨_, rfl, (Weak.trans (Weak.nil (sz := 1) (i := 0) rfl) (wg 0 [0] [] rfl (le_upd (le_top _) (o1 (CLe.ownN rfl (by simp)))) (ac (.cells (fun _ => rfl) an) an)))⟩
    ·refine AW.cond_no rfl c4 (AW.seq (AW.region ?_))
     refine s_move (d := (si a0)) rfl (s_binI (v := (.bool (decide (a0 < 128)))) rfl rfl rfl (s_assign (d := (sb (decide (a0 < 128)))) rfl (AWops.nil ?_)))
     rcases itH h with ⟨c5, h⟩ | ⟨c5, h⟩
     ·refine AW.cond_yes rfl c5 (AW.seq (AW.region ?_))
      refine s_move (d := (si a0)) rfl (s_convI F.u_3 F.u_5 rfl (s_buildSlice (n := 1) (ps := [(0, (sc (.int .u8 (IntKind.u8.wrap a0))))]) (cs := rowC e_u8 ([IntKind.u8.wrap a0] : List Int)) F.u_59 F.sz_5 F.z_5 rfl rfl (by decide) (by decide) rfl rfl (s_assign (d := (D.one (C.own 0 0 (([IntKind.u8.wrap a0] : List Int).length) 1))) rfl (AWops.nil (AW.ret ?_)))))
      obtain rfl := Option.some.inj h
      exact ⟨_, rfl, (wg 0 [0] [] rfl (le_upd (le_top _) (o1 (.own rfl))) (ac (.cells (fun _ => rfl) (all2_row _)) an))⟩
     ·refine AW.cond_no rfl c5 (AW.seq (AW.region ?_))
      refine s_move (d := (si a0)) rfl (s_binI (v := (.bool (decide (a0 < 2048)))) rfl rfl rfl (s_assign (d := (sb (decide (a0 < 2048)))) rfl (AWops.nil ?_)))
      rcases itH h with ⟨c6, h⟩ | ⟨c6, h⟩
      ·refine AW.cond_yes rfl c6 (AW.seq (AW.region ?_))
       refine s_move (d := (si a0)) rfl (s_shift (v := (.int .i64 (Int.fdiv a0 (2 ^ 6)))) rfl rfl rfl (s_binI (v := (.int .i64 (IntKind.i64.wrap (192 + (Int.fdiv a0 (2 ^ 6)))))) rfl rfl rfl (s_convI F.u_3 F.u_5 rfl (s_move (d := (si a0)) rfl (s_binI (v := (.int .i64 (Int.tmod a0 64))) rfl rfl rfl ?_)))))
       refine s_binI (v := (.int .i64 (IntKind.i64.wrap (128 + (Int.tmod a0 64))))) rfl rfl rfl (s_convI F.u_3 F.u_5 rfl (s_buildSlice (n := 2) (ps := [(0, (sc (.int .u8 (IntKind.u8.wrap (IntKind.i64.wrap (192 + (Int.fdiv a0 (2 ^ 6)))))))), (1, (sc (.int .u8 (IntKind.u8.wrap (IntKind.i64.wrap (128 + (Int.tmod a0 64)))))))]) (cs := rowC e_u8 ([IntKind.u8.wrap (IntKind.i64.wrap (192 + (Int.fdiv a0 (2 ^ 6)))), IntKind.u8.wrap (IntKind.i64.wrap (128 + (Int.tmod a0 64)))] : List Int)) F.u_59 F.sz_5 F.z_5 rfl rfl (by decide) (by decide) rfl rfl (s_assign (d := (D.one (C.own 0 0 (([IntKind.u8.wrap (IntKind.i64.wrap (192 + (Int.fdiv a0 (2 ^ 6)))), IntKind.u8.wrap (IntKind.i64.wrap (128 + (Int.tmod a0 64)))] : List Int).length) 1))) rfl (AWops.nil (AW.ret ?_)))))
       obtain rfl := Option.some.inj h
       exact ⟨_, rfl, (wg 0 [0] [] rfl (le_upd (le_top _) (o1 (.own rfl))) (ac (.cells (fun _ => rfl) (all2_row _)) an))⟩
      ·refine AW.cond_no rfl c6 (AW.seq (AW.region ?_))
       refine s_move (d := (si a0)) rfl (s_binI (v := (.bool (decide (a0 < 65536)))) rfl rfl rfl (s_assign (d := (sb (decide (a0 < 65536)))) rfl (AWops.nil ?_)))
       rcases itH h with ⟨c7, h⟩ | ⟨c7, h⟩
       ·refine AW.cond_yes rfl c7 (AW.seq (AW.region ?_))
        refine s_move (d := (si a0)) rfl (s_shift (v := (.int .i64 (Int.fdiv a0 (2 ^ 12)))) rfl rfl rfl (s_binI (v := (.int .i64 (IntKind.i64.wrap (224 + (Int.fdiv a0 (2 ^ 12)))))) rfl rfl rfl (s_convI F.u_3 F.u_5 rfl (s_move (d := (si a0)) rfl (s_shift (v := (.int .i64 (Int.fdiv a0 (2 ^ 6)))) rfl rfl rfl ?_)))))
        refine s_binI (v := (.int .i64 (Int.tmod (Int.fdiv a0 (2 ^ 6)) 64))) rfl rfl rfl (s_binI (v := (.int .i64 (IntKind.i64.wrap (128 + (Int.tmod (Int.fdiv a0 (2 ^ 6)) 64))))) rfl rfl rfl (s_convI F.u_3 F.u_5 rfl (s_move (d := (si a0)) rfl (s_binI (v := (.int .i64 (Int.tmod a0 64))) rfl rfl rfl (s_binI (v := (.int .i64 (IntKind.i64.wrap (128 + (Int.tmod a0 64))))) rfl rfl rfl ?_)))))
        refine s_convI F.u_3 F.u_5 rfl (s_buildSlice (n := 3) (ps := [(0, (sc (.int .u8 (IntKind.u8.wrap (IntKind.i64.wrap (224 + (Int.fdiv a0 (2 ^ 12)))))))), (1, (sc (.int .u8 (IntKind.u8.wrap (IntKind.i64.wrap (128 + (Int.tmod (Int.fdiv a0 (2 ^ 6)) 64))))))), (2, (sc (.int .u8 (IntKind.u8.wrap (IntKind.i64.wrap (128 + (Int.tmod a0 64)))))))]) (cs := rowC e_u8 ([IntKind.u8.wrap (IntKind.i64.wrap (224 + (Int.fdiv a0 (2 ^ 12)))), IntKind.u8.wrap (IntKind.i64.wrap (128 + (Int.tmod (Int.fdiv a0 (2 ^ 6)) 64))), IntKind.u8.wrap (IntKind.i64.wrap (128 + (Int.tmod a0 64)))] : List Int)) F.u_59 F.sz_5 F.z_5 rfl rfl (by decide) (by decide) rfl rfl (s_assign (d := (D.one (C.own 0 0 (([IntKind.u8.wrap (IntKind.i64.wrap (224 + (Int.fdiv a0 (2 ^ 12)))), IntKind.u8.wrap (IntKind.i64.wrap (128 + (Int.tmod (Int.fdiv a0 (2 ^ 6)) 64))), IntKind.u8.wrap (IntKind.i64.wrap (128 + (Int.tmod a0 64)))] : List Int).length) 1))) rfl (AWops.nil (AW.ret ?_))))
        obtain rfl := Option.some.inj h
        exact ⟨_, rfl, (wg 0 [0] [] rfl (le_upd (le_top _) (o1 (.own rfl))) (ac (.cells (fun _ => rfl) (all2_row _)) an))⟩
       ·refine AW.cond_no rfl c7 (AW.skip (AW.seq (AW.region ?_)))
        refine s_move (d := (si a0)) rfl (s_shift (v := (.int .i64 (Int.fdiv a0 (2 ^ 18)))) rfl rfl rfl (s_binI (v := (.int .i64 (IntKind.i64.wrap (240 + (Int.fdiv a0 (2 ^ 18)))))) rfl rfl rfl (s_convI F.u_3 F.u_5 rfl (s_move (d := (si a0)) rfl (s_shift (v := (.int .i64 (Int.fdiv a0 (2 ^ 12)))) rfl rfl rfl ?_)))))
        refine s_binI (v := (.int .i64 (Int.tmod (Int.fdiv a0 (2 ^ 12)) 64))) rfl rfl rfl (s_binI (v := (.int .i64 (IntKind.i64.wrap (128 + (Int.tmod (Int.fdiv a0 (2 ^ 12)) 64))))) rfl rfl rfl (s_convI F.u_3 F.u_5 rfl (s_move (d := (si a0)) rfl (s_shift (v := (.int .i64 (Int.fdiv a0 (2 ^ 6)))) rfl rfl rfl (s_binI (v := (.int .i64 (Int.tmod (Int.fdiv a0 (2 ^ 6)) 64))) rfl rfl rfl ?_)))))
        refine s_binI (v := (.int .i64 (IntKind.i64.wrap (128 + (Int.tmod (Int.fdiv a0 (2 ^ 6)) 64))))) rfl rfl rfl (s_convI F.u_3 F.u_5 rfl (s_move (d := (si a0)) rfl (s_binI (v := (.int .i64 (Int.tmod a0 64))) rfl rfl rfl (s_binI (v := (.int .i64 (IntKind.i64.wrap (128 + (Int.tmod a0 64))))) rfl rfl rfl (s_convI F.u_3 F.u_5 rfl ?_)))))
        refine s_buildSlice (n := 4) (ps := [(0, (sc (.int .u8 (IntKind.u8.wrap (IntKind.i64.wrap (240 + (Int.fdiv a0 (2 ^ 18)))))))), (1, (sc (.int .u8 (IntKind.u8.wrap (IntKind.i64.wrap (128 + (Int.tmod (Int.fdiv a0 (2 ^ 12)) 64))))))), (2, (sc (.int .u8 (IntKind.u8.wrap (IntKind.i64.wrap (128 + (Int.tmod (Int.fdiv a0 (2 ^ 6)) 64))))))), (3, (sc (.int .u8 (IntKind.u8.wrap (IntKind.i64.wrap (128 + (Int.tmod a0 64)))))))]) (cs := rowC e_u8 ([IntKind.u8.wrap (IntKind.i64.wrap (240 + (Int.fdiv a0 (2 ^ 18)))), IntKind.u8.wrap (IntKind.i64.wrap (128 + (Int.tmod (Int.fdiv a0 (2 ^ 12)) 64))), IntKind.u8.wrap (IntKind.i64.wrap (128 + (Int.tmod (Int.fdiv a0 (2 ^ 6)) 64))), IntKind.u8.wrap (IntKind.i64.wrap (128 + (Int.tmod a0 64)))] : List Int)) F.u_59 F.sz_5 F.z_5 rfl rfl (by decide) (by decide) rfl rfl (s_assign (d := (D.one (C.own 0 0 (([IntKind.u8.wrap (IntKind.i64.wrap (240 + (Int.fdiv a0 (2 ^ 18)))), IntKind.u8.wrap (IntKind.i64.wrap (128 + (Int.tmod (Int.fdiv a0 (2 ^ 12)) 64))), IntKind.u8.wrap (IntKind.i64.wrap (128 + (Int.tmod (Int.fdiv a0 (2 ^ 6)) 64))), IntKind.u8.wrap (IntKind.i64.wrap (128 + (Int.tmod a0 64)))] : List Int).length) 1))) rfl (AWops.nil (AW.ret ?_)))
        obtain rfl := Option.some.inj h
        exact ⟨_, rfl, (wg 0 [0] [] rfl (le_upd (le_top _) (o1 (.own rfl))) (ac (.cells (fun _ => rfl) (all2_row _)) an))⟩
   ·refine AWops.guard_no rfl (nl rfl) rfl c3 ?_
    refine AWops.guard_no rfl (nl rfl) rfl c3 ?_
    refine AWops.guard_yes rfl (nl rfl) rfl c2 ?_
    refine s_pick_no (d := (sb false)) rfl c3 rfl (s_pick_no (d := (sb false)) rfl c2 rfl (s_assign (d := (sb false)) rfl (AWops.nil ?_)))
    refine AW.cond_no rfl rfl (AW.seq (AW.region ?_))
    refine s_move (d := (si a0)) rfl (s_binI (v := (.bool (decide (a0 < 128)))) rfl rfl rfl (s_assign (d := (sb (decide (a0 < 128)))) rfl (AWops.nil ?_)))
    rcases itH h with ⟨c8, h⟩ | ⟨c8, h⟩
    ·refine AW.cond_yes rfl c8 (AW.seq (AW.region ?_))
     refine s_move (d := (si a0)) rfl (s_convI F.u_3 F.u_5 rfl (s_buildSlice (n := 1) (ps := [(0, (sc (.int .u8 (IntKind.u8.wrap a0))))]) (cs := rowC e_u8 ([IntKind.u8.wrap a0] : List Int)) F.u_59 F.sz_5 F.z_5 rfl rfl (by decide) (by decide) rfl rfl (s_assign (d := (D.one (C.own 0 0 (([IntKind.u8.wrap a0] : List Int).length) 1))) rfl (AWops.nil (AW.ret ?_)))))
     obtain rfl := Option.some.inj h
     exact ⟨_, rfl, (wg 0 [0] [] rfl (le_upd (le_top _) (o1 (.own rfl))) (ac (.cells (fun _ => rfl) (all2_row _)) an))⟩
    ·refine AW.cond_no rfl c8 (AW.seq (AW.region ?_))
     refine s_move (d := (si a0)) rfl (s_binI (v := (.bool (decide (a0 < 2048)))) rfl rfl rfl (s_assign (d := (sb (decide (a0 < 2048)))) rfl (AWops.nil ?_)))
     rcases itH h with ⟨c9, h⟩ | ⟨c9, h⟩
     ·refine AW.cond_yes rfl c9 (AW.seq (AW.region ?_))
      refine s_move (d := (si a0)) rfl (s_shift (v := (.int .i64 (Int.fdiv a0 (2 ^ 6)))) rfl rfl rfl (s_binI (v := (.int .i64 (IntKind.i64.wrap (192 + (Int.fdiv a0 (2 ^ 6)))))) rfl rfl rfl (s_convI F.u_3 F.u_5 rfl (s_move (d := (si a0)) rfl (s_binI (v := (.int .i64 (Int.tmod a0 64))) rfl rfl rfl ?_)))))
      refine s_binI (v := (.int .i64 (IntKind.i64.wrap (128 + (Int.tmod a0 64))))) rfl rfl rfl (s_convI F.u_3 F.u_5 rfl (s_buildSlice (n := 2) (ps := [(0, (sc (.int .u8 (IntKind.u8.wrap (IntKind.i64.wrap (192 + (Int.fdiv a0 (2 ^ 6)))))))), (1, (sc (.int .u8 (IntKind.u8.wrap (IntKind.i64.wrap (128 + (Int.tmod a0 64)))))))]) (cs := rowC e_u8 ([IntKind.u8.wrap (IntKind.i64.wrap (192 + (Int.fdiv a0 (2 ^ 6)))), IntKind.u8.wrap (IntKind.i64.wrap (128 + (Int.tmod a0 64)))] : List Int)) F.u_59 F.sz_5 F.z_5 rfl rfl (by decide) (by decide) rfl rfl (s_assign (d := (D.one (C.own 0 0 (([IntKind.u8.wrap (IntKind.i64.wrap (192 + (Int.fdiv a0 (2 ^ 6)))), IntKind.u8.wrap (IntKind.i64.wrap (128 + (Int.tmod a0 64)))] : List Int).length) 1))) rfl (AWops.nil (AW.ret ?_)))))
      obtain rfl := Option.some.inj h
      exact ⟨_, rfl, (wg 0 [0] [] rfl (le_upd (le_top _) (o1 (.own rfl))) (ac (.cells (fun _ => rfl) (all2_row _)) an))⟩
     ·refine AW.cond_no rfl c9 (AW.seq (AW.region ?_))
      refine s_move (d := (si a0)) rfl (s_binI (v := (.bool (decide (a0 < 65536)))) rfl rfl rfl (s_assign (d := (sb (decide (a0 < 65536)))) rfl (AWops.nil ?_)))
      rcases itH h with ⟨c10, h⟩ | ⟨c10, h⟩
      ·refine AW.cond_yes rfl c10 (AW.seq (AW.region ?_))
       refine s_move (d := (si a0)) rfl (s_shift (v := (.int .i64 (Int.fdiv a0 (2 ^ 12)))) rfl rfl rfl (s_binI (v := (.int .i64 (IntKind.i64.wrap (224 + (Int.fdiv a0 (2 ^ 12)))))) rfl rfl rfl (s_convI F.u_3 F.u_5 rfl (s_move (d := (si a0)) rfl (s_shift (v := (.int .i64 (Int.fdiv a0 (2 ^ 6)))) rfl rfl rfl ?_)))))
       refine s_binI (v := (.int .i64 (Int.tmod (Int.fdiv a0 (2 ^ 6)) 64))) rfl rfl rfl (s_binI (v := (.int .i64 (IntKind.i64.wrap (128 + (Int.tmod (Int.fdiv a0 (2 ^ 6)) 64))))) rfl rfl rfl (s_convI F.u_3 F.u_5 rfl (s_move (d := (si a0)) rfl (s_binI (v := (.int .i64 (Int.tmod a0 64))) rfl rfl rfl (s_binI (v := (.int .i64 (IntKind.i64.wrap (128 + (Int.tmod a0 64))))) rfl rfl rfl ?_)))))
       refine s_convI F.u_3 F.u_5 rfl (s_buildSlice (n := 3) (ps := [(0, (sc (.int .u8 (IntKind.u8.wrap (IntKind.i64.wrap (224 + (Int.fdiv a0 (2 ^ 12)))))))), (1, (sc (.int .u8 (IntKind.u8.wrap (IntKind.i64.wrap (128 + (Int.tmod (Int.fdiv a0 (2 ^ 6)) 64))))))), (2, (sc (.int .u8 (IntKind.u8.wrap (IntKind.i64.wrap (128 + (Int.tmod a0 64)))))))]) (cs := rowC e_u8 ([IntKind.u8.wrap (IntKind.i64.wrap (224 + (Int.fdiv a0 (2 ^ 12)))), IntKind.u8.wrap (IntKind.i64.wrap (128 + (Int.tmod (Int.fdiv a0 (2 ^ 6)) 64))), IntKind.u8.wrap (IntKind.i64.wrap (128 + (Int.tmod a0 64)))] : List Int)) F.u_59 F.sz_5 F.z_5 rfl rfl (by decide) (by decide) rfl rfl (s_assign (d := (D.one (C.own 0 0 (([IntKind.u8.wrap (IntKind.i64.wrap (224 + (Int.fdiv a0 (2 ^ 12)))), IntKind.u8.wrap (IntKind.i64.wrap (128 + (Int.tmod (Int.fdiv a0 (2 ^ 6)) 64))), IntKind.u8.wrap (IntKind.i64.wrap (128 + (Int.tmod a0 64)))] : List Int).length) 1))) rfl (AWops.nil (AW.ret ?_))))
       obtain rfl := Option.some.inj h
       exact ⟨_, rfl, (wg 0 [0] [] rfl (le_upd (le_top _) (o1 (.own rfl))) (ac (.cells (fun _ => rfl) (all2_row _)) an))⟩
      ·refine AW.cond_no rfl c10 (AW.skip (AW.seq (AW.region ?_)))
       refine s_move (d := (si a0)) rfl (s_shift (v := (.int .i64 (Int.fdiv a0 (2 ^ 18)))) rfl rfl rfl (s_binI (v := (.int .i64 (IntKind.i64.wrap (240 + (Int.fdiv a0 (2 ^ 18)))))) rfl rfl rfl (s_convI F.u_3 F.u_5 rfl (s_move (d := (si a0)) rfl (s_shift (v := (.int .i64 (Int.fdiv a0 (2 ^ 12)))) rfl rfl rfl ?_)))))
       refine s_binI (v := (.int .i64 (Int.tmod (Int.fdiv a0 (2 ^ 12)) 64))) rfl rfl rfl (s_binI (v := (.int .i64 (IntKind.i64.wrap (128 + (Int.tmod (Int.fdiv a0 (2 ^ 12)) 64))))) rfl rfl rfl (s_convI F.u_3 F.u_5 rfl (s_move (d := (si a0)) rfl (s_shift (v := (.int .i64 (Int.fdiv a0 (2 ^ 6)))) rfl rfl rfl (s_binI (v := (.int .i64 (Int.tmod (Int.fdiv a0 (2 ^ 6)) 64))) rfl rfl rfl ?_)))))
       refine s_binI (v := (.int .i64 (IntKind.i64.wrap (128 + (Int.tmod (Int.fdiv a0 (2 ^ 6)) 64))))) rfl rfl rfl (s_convI F.u_3 F.u_5 rfl (s_move (d := (si a0)) rfl (s_binI (v := (.int .i64 (Int.tmod a0 64))) rfl rfl rfl (s_binI (v := (.int .i64 (IntKind.i64.wrap (128 + (Int.tmod a0 64))))) rfl rfl rfl (s_convI F.u_3 F.u_5 rfl ?_)))))
       refine s_buildSlice (n := 4) (ps := [(0, (sc (.int .u8 (IntKind.u8.wrap (IntKind.i64.wrap (240 + (Int.fdiv a0 (2 ^ 18)))))))), (1, (sc (.int .u8 (IntKind.u8.wrap (IntKind.i64.wrap (128 + (Int.tmod (Int.fdiv a0 (2 ^ 12)) 64))))))), (2, (sc (.int .u8 (IntKind.u8.wrap (IntKind.i64.wrap (128 + (Int.tmod (Int.fdiv a0 (2 ^ 6)) 64))))))), (3, (sc (.int .u8 (IntKind.u8.wrap (IntKind.i64.wrap (128 + (Int.tmod a0 64)))))))]) (cs := rowC e_u8 ([IntKind.u8.wrap (IntKind.i64.wrap (240 + (Int.fdiv a0 (2 ^ 18)))), IntKind.u8.wrap (IntKind.i64.wrap (128 + (Int.tmod (Int.fdiv a0 (2 ^ 12)) 64))), IntKind.u8.wrap (IntKind.i64.wrap (128 + (Int.tmod (Int.fdiv a0 (2 ^ 6)) 64))), IntKind.u8.wrap (IntKind.i64.wrap (128 + (Int.tmod a0 64)))] : List Int)) F.u_59 F.sz_5 F.z_5 rfl rfl (by decide) (by decide) rfl rfl (s_assign (d := (D.one (C.own 0 0 (([IntKind.u8.wrap (IntKind.i64.wrap (240 + (Int.fdiv a0 (2 ^ 18)))), IntKind.u8.wrap (IntKind.i64.wrap (128 + (Int.tmod (Int.fdiv a0 (2 ^ 12)) 64))), IntKind.u8.wrap (IntKind.i64.wrap (128 + (Int.tmod (Int.fdiv a0 (2 ^ 6)) 64))), IntKind.u8.wrap (IntKind.i64.wrap (128 + (Int.tmod a0 64)))] : List Int).length) 1))) rfl (AWops.nil (AW.ret ?_)))
       obtain rfl := Option.some.inj h
       exact ⟨_, rfl, (wg 0 [0] [] rfl (le_upd (le_top _) (o1 (.own rfl))) (ac (.cells (fun _ => rfl) (all2_row _)) an))⟩
mutual
def dossierref01_Decode.l1 : Nat → Int → Int → (List Int) → Int → Option (Int × Int)
 | 0, _, _, _, _ => none
 | k + 1, x16, x17, a0, x12 => if (decide (x17 < ((sub a0 1 x12).length : Int))) = true then ((rd (sub a0 1 x12) x17).bind fun v19 => if (decide (v19 < 128)) = true then (some (0, 0)) else (if (decide (v19 > 191)) = true then (some (0, 0)) else (dossierref01_Decode.l1 k (IntKind.i64.wrap ((IntKind.i64.wrap ((IntKind.i64.wrap (x16 * 64)) + (IntKind.i64.wrap v19))) - 128)) (IntKind.i64.wrap (x17 + 1)) a0 x12))) else ((dossierref01_Encode.f k x16).bind fun r22 => if (decide (0 ≤ 0 ∧ 0 ≤ x12 ∧ x12 ≤ (a0.length : Int))) = true then (if ((ofNums r22).toList == (ofNums (sub a0 0 x12)).toList) = true then (some (x16, x12)) else (some (0, 0))) else none)
def dossierref01_Decode.j0 : Nat → Int → Int → (List Int) → Option (Int × Int)
 | 0, _, _, _ => none
 | k + 1, x12, x13, a0 => if (decide (x12 > (a0.length : Int))) = true then (some (0, 0)) else (if (decide (0 ≤ 1 ∧ 1 ≤ x12 ∧ x12 ≤ (a0.length : Int))) = true then (dossierref01_Decode.l1 k x13 0 a0 x12) else none)
end
def dossierref01_Decode.f (k : Nat) (a0 : List Int) : Option (Int × Int) := if ((a0.length : Int) == 0) = true then (some (0, 0)) else ((rd a0 0).bind fun v2 => (rd a0 0).bind fun v3 => if (decide (v3 ≥ 240)) = true then ((rd a0 0).bind fun v5 => dossierref01_Decode.j0 k 4 (IntKind.i64.wrap ((IntKind.i64.wrap v5) - 240)) a0) else ((rd a0 0).bind fun v6 => if (decide (v6 ≥ 224)) = true then ((rd a0 0).bind fun v8 => dossierref01_Decode.j0 k 3 (IntKind.i64.wrap ((IntKind.i64.wrap v8) - 224)) a0) else ((rd a0 0).bind fun v9 => if (decide (v9 ≥ 192)) = true then ((rd a0 0).bind fun v11 => dossierref01_Decode.j0 k 2 (IntKind.i64.wrap ((IntKind.i64.wrap v11) - 192)) a0) else (dossierref01_Decode.j0 k 1 (IntKind.i64.wrap v2) a0))))
theorem dossierref01_Decode.meets (k : Nat) (a0 : List Int) (r : Int × Int) (h : dossierref01_Decode.f k a0 = some r) : Meets Tryd.prog 53 [(D.one (C.p false (.sl a0.length (a0.flatMap e_u8))))] [] (D.tup [(si r.1), (si r.2)]) [] := by
 unfold dossierref01_Decode.f at h
 refine Meets.of_body (n := 80) Tryd.func53 rfl rfl (nl rfl) fun x hx => ?_
 replace hx : x.k = 0 := hx
 show AW _ x _ _ ⟨80, fr0 [(D.one (C.p false (.sl a0.length (a0.flatMap e_u8))))], []⟩
 refine AW.seq (AW.region ?_)
 refine s_assign (d := (si 0)) rfl (s_assign (d := (si 0)) rfl (AWops.nil (AW.seq (AW.seq (AW.region (s_move (d := (D.one (C.p false (.sl a0.length (a0.flatMap e_u8))))) rfl (s_len (n := a0.length) F.u_59 rfl (.inr ⟨(fun _ _ h => by cases h), ⟨_, rfl⟩⟩) (s_binI (v := (.bool ((a0.length : Int) == 0))) rfl rfl rfl (AWops.nil ?_)))))))))
 rcases itH h with ⟨c1, h⟩ | ⟨c1, h⟩
 ·refine AW.cond_yes rfl c1 (AW.seq (AW.region ?_))
  refine s_assign (d := (si 0)) rfl (s_assign (d := (si 0)) rfl (AWops.nil (AW.ret ?_)))
  obtain rfl := Option.some.inj h
  exact ⟨_, rfl, (wg 0 [] [] rfl (le_upd (le_top _) (DLe.tup (ac (TLe.one .sc) (ac (TLe.one .sc) an)))) an)⟩
 ·refine AW.cond_no rfl c1 (AW.skip (AW.seq ?_))
  refine AW.weak (st' := ⟨80, (upd 80 topF 0 (D.one (C.p false (.sl a0.length (a0.flatMap e_u8))))), []⟩) (wg 0 [] [] hx (le_upd (le_top _) (o1 .same)) an) ?_
  obtain ⟨v2, ev2, h⟩ := bnd h
  obtain ⟨pv2, qv2, gv2⟩ := rd_some ev2
  refine AW.draw (n := 80) (L := 0) [(ft 0 11 (D.one (C.p false (.sl a0.length (a0.flatMap e_u8)))) [(0, (D.one (C.p false (.sl a0.length (a0.flatMap e_u8)))))]), (ft 1 12 (D.one (C.peek false [P.v (.int .u8 v2)])) [(11, (D.one (C.p false (.sl a0.length (a0.flatMap e_u8)))))]), (ft 2 13 (sc (.int .u8 v2)) [(12, (D.one (C.peek false [P.v (.int .u8 v2)])))]), (ft 3 14 (si (IntKind.i64.wrap v2)) [(13, (sc (.int .u8 v2)))]), (ft 4 4 (si 1) []), (ft 5 5 (si (IntKind.i64.wrap v2)) [(14, (si (IntKind.i64.wrap v2)))])] [[], [0], [0, 1], [0, 1, 2], [], (.range 5)] (nl rfl) [1, 2, 3, 4, 0, 5] rfl (TK := []) rfl AllK.nil' (by repeat (first | refine fC ⟨?_, ?_⟩ ?_ | refine sC rfl ?_ | refine hC rfl ?_ | trivial)) ?_ ?_
  ·refine (pC ?_ (pC ?_ (pC ?_ (pC ?_ (pC ?_ (pC ?_ AllStep.nil'))))))
   ·intro K rest fr hv htk k
    show AWops _ x _ _ K ⟨80, (upd 80 fr 0 (D.one (C.p false (.sl a0.length (a0.flatMap e_u8))))), _⟩
    refine s_move (d := (D.one (C.p false (.sl a0.length (a0.flatMap e_u8))))) rfl k
   ·intro K rest fr hv htk k
    show AWops _ x _ _ K ⟨80, (upd 80 fr 11 (D.one (C.p false (.sl a0.length (a0.flatMap e_u8))))), []⟩
    refine s_indexImm (ps := [P.v (.int .u8 v2)]) F.u_59 F.sz_5 rfl rfl pv2 qv2 (flat_at e_u8_len gv2 (e_u8_eq v2)) k
   ·intro K rest fr hv htk k
    show AWops _ x _ _ K ⟨80, (upd 80 fr 12 (D.one (C.peek false [P.v (.int .u8 v2)]))), []⟩
    refine s_load1 (c' := (C.p true (.v (.int .u8 v2)))) F.ag_5 rfl rfl k
   ·intro K rest fr hv htk k
    show AWops _ x _ _ K ⟨80, (upd 80 fr 13 (sc (.int .u8 v2))), []⟩
    refine s_convI F.u_5 F.u_3 rfl k
   ·intro K rest fr hv htk k
    show AWops _ x _ _ K ⟨80, fr, _⟩
    refine s_assign (d := (si 1)) rfl k
   ·intro K rest fr hv htk k
    show AWops _ x _ _ K ⟨80, (upd 80 fr 14 (si (IntKind.i64.wrap v2))), _⟩
    refine s_assign (d := (si (IntKind.i64.wrap v2))) rfl k
  ·refine AWops.weak (st' := ⟨80, (upd 80 (upd 80 (upd 80 topF 0 (D.one (C.p false (.sl a0.length (a0.flatMap e_u8))))) 4 (si 1)) 5 (si (IntKind.i64.wrap v2))), []⟩) (wg 0 [] [] hx (le_upd (le_upd (le_upd (le_top _) (o1 .same)) (o1 .sc)) (o1 .sc)) an) (AWops.nil ?_)
   refine AW.seqJ (fun st => ∃ (x12 : Int) (x13 : Int), dossierref01_Decode.j0 k x12 x13 a0 = some r ∧ st = ⟨80, (upd 80 (upd 80 (upd 80 topF 0 (D.one (C.p false (.sl a0.length (a0.flatMap e_u8))))) 4 (si x12)) 5 (si x13)), []⟩) ?_ ?_
   ·refine AW.block (AW.seq (AW.region ?_))
    refine s_move (d := (D.one (C.p false (.sl a0.length (a0.flatMap e_u8))))) rfl ?_
    obtain ⟨v3, ev3, h⟩ := bnd h
    obtain ⟨pv3, qv3, gv3⟩ := rd_some ev3
    refine s_indexImm (ps := [P.v (.int .u8 v3)]) F.u_59 F.sz_5 rfl rfl pv3 qv3 (flat_at e_u8_len gv3 (e_u8_eq v3)) (s_load1 (c' := (C.p true (.v (.int .u8 v3)))) F.ag_5 rfl rfl (s_binI (v := (.bool (decide (v3 ≥ 240)))) rfl rfl rfl (s_assign (d := (sb (decide (v3 ≥ 240)))) rfl (AWops.nil ?_))))
    rcases itH h with ⟨c4, h⟩ | ⟨c4, h⟩
    ·refine AW.cond_yes rfl c4 ?_
     refine AW.weak (st' := ⟨80, (upd 80 (upd 80 (upd 80 topF 0 (D.one (C.p false (.sl a0.length (a0.flatMap e_u8))))) 4 (si 1)) 5 (si (IntKind.i64.wrap v2))), []⟩) (wg 0 [] [] hx (le_upd (le_upd (le_upd (le_top _) (o1 .same)) (o1 .sc)) (o1 .sc)) an) ?_
     obtain ⟨v5, ev5, h⟩ := bnd h
     obtain ⟨pv5, qv5, gv5⟩ := rd_some ev5
     refine AW.draw (n := 80) (L := 0) [(ft 0 20 (D.one (C.p false (.sl a0.length (a0.flatMap e_u8)))) [(0, (D.one (C.p false (.sl a0.length (a0.flatMap e_u8)))))]), (ft 1 21 (D.one (C.peek false [P.v (.int .u8 v5)])) [(20, (D.one (C.p false (.sl a0.length (a0.flatMap e_u8)))))]), (ft 2 22 (sc (.int .u8 v5)) [(21, (D.one (C.peek false [P.v (.int .u8 v5)])))]), (ft 3 23 (si (IntKind.i64.wrap v5)) [(22, (sc (.int .u8 v5)))]), (ft 4 24 (si (IntKind.i64.wrap ((IntKind.i64.wrap v5) - 240))) [(23, (si (IntKind.i64.wrap v5)))]), (ft 5 4 (si 4) []), (ft 6 5 (si (IntKind.i64.wrap ((IntKind.i64.wrap v5) - 240))) [(24, (si (IntKind.i64.wrap ((IntKind.i64.wrap v5) - 240))))])] [[], [0], [0, 1], [0, 1, 2], [0, 1, 2, 3], [], (.range 6)] (nl rfl) [1, 2, 3, 4, 5, 0, 6] rfl (TK := []) rfl AllK.nil' (by repeat (first | refine fC ⟨?_, ?_⟩ ?_ | refine sC rfl ?_ | refine hC rfl ?_ | trivial)) ?_ ?_
     ·refine (pC ?_ (pC ?_ (pC ?_ (pC ?_ (pC ?_ (pC ?_ (pC ?_ AllStep.nil')))))))
      ·intro K rest fr hv htk k
       show AWops _ x _ _ K ⟨80, (upd 80 fr 0 (D.one (C.p false (.sl a0.length (a0.flatMap e_u8))))), _⟩
       refine s_move (d := (D.one (C.p false (.sl a0.length (a0.flatMap e_u8))))) rfl k
      ·intro K rest fr hv htk k
       show AWops _ x _ _ K ⟨80, (upd 80 fr 20 (D.one (C.p false (.sl a0.length (a0.flatMap e_u8))))), []⟩
       refine s_indexImm (ps := [P.v (.int .u8 v5)]) F.u_59 F.sz_5 rfl rfl pv5 qv5 (flat_at e_u8_len gv5 (e_u8_eq v5)) k
      ·intro K rest fr hv htk k
       show AWops _ x _ _ K ⟨80, (upd 80 fr 21 (D.one (C.peek false [P.v (.int .u8 v5)]))), []⟩
       refine s_load1 (c' := (C.p true (.v (.int .u8 v5)))) F.ag_5 rfl rfl k
      ·intro K rest fr hv htk k
       show AWops _ x _ _ K ⟨80, (upd 80 fr 22 (sc (.int .u8 v5))), []⟩
       refine s_convI F.u_5 F.u_3 rfl k
      ·intro K rest fr hv htk k
       show AWops _ x _ _ K ⟨80, (upd 80 fr 23 (si (IntKind.i64.wrap v5))), _⟩
       refine s_binI (v := (.int .i64 (IntKind.i64.wrap ((IntKind.i64.wrap v5) - 240)))) rfl rfl rfl k
      ·intro K rest fr hv htk k
       show AWops _ x _ _ K ⟨80, fr, _⟩
       refine s_assign (d := (si 4)) rfl k
      ·intro K rest fr hv htk k
       show AWops _ x _ _ K ⟨80, (upd 80 fr 24 (si (IntKind.i64.wrap ((IntKind.i64.wrap v5) - 240)))), _⟩
       refine s_assign (d := (si (IntKind.i64.wrap ((IntKind.i64.wrap v5) - 240)))) rfl k
     ·refine AWops.weak (st' := ⟨80, (upd 80 (upd 80 (upd 80 topF 0 (D.one (C.p false (.sl a0.length (a0.flatMap e_u8))))) 4 (si 4)) 5 (si (IntKind.i64.wrap ((IntKind.i64.wrap v5) - 240)))), []⟩) (wg 0 [] [] hx (le_upd (le_upd (le_upd (le_top _) (o1 .same)) (o1 .sc)) (o1 .sc)) an) (AWops.nil ?_)
      exact ⟨⟨80, (upd 80 (upd 80 (upd 80 topF 0 (D.one (C.p false (.sl a0.length (a0.flatMap e_u8))))) 4 (si 4)) 5 (si (IntKind.i64.wrap ((IntKind.i64.wrap v5) - 240)))), []⟩, (wg 0 [] [] hx (le_upd (le_upd (le_upd (le_top _) (o1 .same)) (o1 .sc)) (o1 .sc)) an), 4, IntKind.i64.wrap ((IntKind.i64.wrap v5) - 240), h, rfl⟩
    ·refine AW.cond_no rfl c4 (AW.seq (AW.region ?_))
     refine s_move (d := (D.one (C.p false (.sl a0.length (a0.flatMap e_u8))))) rfl ?_
     obtain ⟨v6, ev6, h⟩ := bnd h
     obtain ⟨pv6, qv6, gv6⟩ := rd_some ev6
     refine s_indexImm (ps := [P.v (.int .u8 v6)]) F.u_59 F.sz_5 rfl rfl pv6 qv6 (flat_at e_u8_len gv6 (e_u8_eq v6)) (s_load1 (c' := (C.p true (.v (.int .u8 v6)))) F.ag_5 rfl rfl (s_binI (v := (.bool (decide (v6 ≥ 224)))) rfl rfl rfl (s_assign (d := (sb (decide (v6 ≥ 224)))) rfl (AWops.nil ?_))))
     rcases itH h with ⟨c7, h⟩ | ⟨c7, h⟩
     ·refine AW.cond_yes rfl c7 ?_
      refine AW.weak (st' := ⟨80, (upd 80 (upd 80 (upd 80 topF 0 (D.one (C.p false (.sl a0.length (a0.flatMap e_u8))))) 4 (si 1)) 5 (si (IntKind.i64.wrap v2))), []⟩) (wg 0 [] [] hx (le_upd (le_upd (le_upd (le_top _) (o1 .same)) (o1 .sc)) (o1 .sc)) an) ?_
      obtain ⟨v8, ev8, h⟩ := bnd h
      obtain ⟨pv8, qv8, gv8⟩ := rd_some ev8
      refine AW.draw (n := 80) (L := 0) [(ft 0 30 (D.one (C.p false (.sl a0.length (a0.flatMap e_u8)))) [(0, (D.one (C.p false (.sl a0.length (a0.flatMap e_u8)))))]), (ft 1 31 (D.one (C.peek false [P.v (.int .u8 v8)])) [(30, (D.one (C.p false (.sl a0.length (a0.flatMap e_u8)))))]), (ft 2 32 (sc (.int .u8 v8)) [(31, (D.one (C.peek false [P.v (.int .u8 v8)])))]), (ft 3 33 (si (IntKind.i64.wrap v8)) [(32, (sc (.int .u8 v8)))]), (ft 4 34 (si (IntKind.i64.wrap ((IntKind.i64.wrap v8) - 224))) [(33, (si (IntKind.i64.wrap v8)))]), (ft 5 4 (si 3) []), (ft 6 5 (si (IntKind.i64.wrap ((IntKind.i64.wrap v8) - 224))) [(34, (si (IntKind.i64.wrap ((IntKind.i64.wrap v8) - 224))))])] [[], [0], [0, 1], [0, 1, 2], [0, 1, 2, 3], [], (.range 6)] (nl rfl) [1, 2, 3, 4, 5, 0, 6] rfl (TK := []) rfl AllK.nil' (by repeat (first | refine fC ⟨?_, ?_⟩ ?_ | refine sC rfl ?_ | refine hC rfl ?_ | trivial)) ?_ ?_
      ·refine (pC ?_ (pC ?_ (pC ?_ (pC ?_ (pC ?_ (pC ?_ (pC ?_ AllStep.nil')))))))
       ·intro K rest fr hv htk k
        show AWops _ x _ _ K ⟨80, (upd 80 fr 0 (D.one (C.p false (.sl a0.length (a0.flatMap e_u8))))), _⟩
        refine s_move (d := (D.one (C.p false (.sl a0.length (a0.flatMap e_u8))))) rfl k
       ·intro K rest fr hv htk k
        show AWops _ x _ _ K ⟨80, (upd 80 fr 30 (D.one (C.p false (.sl a0.length (a0.flatMap e_u8))))), []⟩
        refine s_indexImm (ps := [P.v (.int .u8 v8)]) F.u_59 F.sz_5 rfl rfl pv8 qv8 (flat_at e_u8_len gv8 (e_u8_eq v8)) k
       ·intro K rest fr hv htk k
        show AWops _ x _ _ K ⟨80, (upd 80 fr 31 (D.one (C.peek false [P.v (.int .u8 v8)]))), []⟩
        refine s_load1 (c' := (C.p true (.v (.int .u8 v8)))) F.ag_5 rfl rfl k
       ·intro K rest fr hv htk k
        show AWops _ x _ _ K ⟨80, (upd 80 fr 32 (sc (.int .u8 v8))), []⟩
        refine s_convI F.u_5 F.u_3 rfl k
       ·intro K rest fr hv htk k
        show AWops _ x _ _ K ⟨80, (upd 80 fr 33 (si (IntKind.i64.wrap v8))), _⟩
        refine s_binI (v := (.int .i64 (IntKind.i64.wrap ((IntKind.i64.wrap v8) - 224)))) rfl rfl rfl k
       ·intro K rest fr hv htk k
        show AWops _ x _ _ K ⟨80, fr, _⟩
        refine s_assign (d := (si 3)) rfl k
       ·intro K rest fr hv htk k
        show AWops _ x _ _ K ⟨80, (upd 80 fr 34 (si (IntKind.i64.wrap ((IntKind.i64.wrap v8) - 224)))), _⟩
        refine s_assign (d := (si (IntKind.i64.wrap ((IntKind.i64.wrap v8) - 224)))) rfl k
      ·refine AWops.weak (st' := ⟨80, (upd 80 (upd 80 (upd 80 topF 0 (D.one (C.p false (.sl a0.length (a0.flatMap e_u8))))) 4 (si 3)) 5 (si (IntKind.i64.wrap ((IntKind.i64.wrap v8) - 224)))), []⟩) (wg 0 [] [] hx (le_upd (le_upd (le_upd (le_top _) (o1 .same)) (o1 .sc)) (o1 .sc)) an) (AWops.nil ?_)
       exact ⟨⟨80, (upd 80 (upd 80 (upd 80 topF 0 (D.one (C.p false (.sl a0.length (a0.flatMap e_u8))))) 4 (si 3)) 5 (si (IntKind.i64.wrap ((IntKind.i64.wrap v8) - 224)))), []⟩, (wg 0 [] [] hx (le_upd (le_upd (le_upd (le_top _) (o1 .same)) (o1 .sc)) (o1 .sc)) an), 3, IntKind.i64.wrap ((IntKind.i64.wrap v8) - 224), h, rfl⟩
     ·refine AW.cond_no rfl c7 (AW.seq (AW.region ?_))
      refine s_move (d := (D.one (C.p false (.sl a0.length (a0.flatMap e_u8))))) rfl ?_
      obtain ⟨v9, ev9, h⟩ := bnd h
      obtain ⟨pv9, qv9, gv9⟩ := rd_some ev9
      refine s_indexImm (ps := [P.v (.int .u8 v9)]) F.u_59 F.sz_5 rfl rfl pv9 qv9 (flat_at e_u8_len gv9 (e_u8_eq v9)) (s_load1 (c' := (C.p true (.v (.int .u8 v9)))) F.ag_5 rfl rfl (s_binI (v := (.bool (decide (v9 ≥ 192)))) rfl rfl rfl (s_assign (d := (sb (decide (v9 ≥ 192)))) rfl (AWops.nil ?_))))
      rcases itH h with ⟨c10, h⟩ | ⟨c10, h⟩
      ·refine AW.cond_yes rfl c10 ?_
       refine AW.weak (st' := ⟨80, (upd 80 (upd 80 (upd 80 topF 0 (D.one (C.p false (.sl a0.length (a0.flatMap e_u8))))) 4 (si 1)) 5 (si (IntKind.i64.wrap v2))), []⟩) (wg 0 [] [] hx (le_upd (le_upd (le_upd (le_top _) (o1 .same)) (o1 .sc)) (o1 .sc)) an) ?_
       obtain ⟨v11, ev11, h⟩ := bnd h
       obtain ⟨pv11, qv11, gv11⟩ := rd_some ev11
       refine AW.draw (n := 80) (L := 0) [(ft 0 40 (D.one (C.p false (.sl a0.length (a0.flatMap e_u8)))) [(0, (D.one (C.p false (.sl a0.length (a0.flatMap e_u8)))))]), (ft 1 41 (D.one (C.peek false [P.v (.int .u8 v11)])) [(40, (D.one (C.p false (.sl a0.length (a0.flatMap e_u8)))))]), (ft 2 42 (sc (.int .u8 v11)) [(41, (D.one (C.peek false [P.v (.int .u8 v11)])))]), (ft 3 43 (si (IntKind.i64.wrap v11)) [(42, (sc (.int .u8 v11)))]), (ft 4 44 (si (IntKind.i64.wrap ((IntKind.i64.wrap v11) - 192))) [(43, (si (IntKind.i64.wrap v11)))]), (ft 5 4 (si 2) []), (ft 6 5 (si (IntKind.i64.wrap ((IntKind.i64.wrap v11) - 192))) [(44, (si (IntKind.i64.wrap ((IntKind.i64.wrap v11) - 192))))])] [[], [0], [0, 1], [0, 1, 2], [0, 1, 2, 3], [], (.range 6)] (nl rfl) [1, 2, 3, 4, 5, 0, 6] rfl (TK := []) rfl AllK.nil' (by repeat (first | refine fC ⟨?_, ?_⟩ ?_ | refine sC rfl ?_ | refine hC rfl ?_ | trivial)) ?_ ?_
       ·refine (pC ?_ (pC ?_ (pC ?_ (pC ?_ (pC ?_ (pC ?_ (pC ?_ AllStep.nil')))))))
        ·intro K rest fr hv htk k
         show AWops _ x _ _ K ⟨80, (upd 80 fr 0 (D.one (C.p false (.sl a0.length (a0.flatMap e_u8))))), _⟩
         refine s_move (d := (D.one (C.p false (.sl a0.length (a0.flatMap e_u8))))) rfl k
        ·intro K rest fr hv htk k
         show AWops _ x _ _ K ⟨80, (upd 80 fr 40 (D.one (C.p false (.sl a0.length (a0.flatMap e_u8))))), []⟩
         refine s_indexImm (ps := [P.v (.int .u8 v11)]) F.u_59 F.sz_5 rfl rfl pv11 qv11 (flat_at e_u8_len gv11 (e_u8_eq v11)) k
        ·intro K rest fr hv htk k
         show AWops _ x _ _ K ⟨80, (upd 80 fr 41 (D.one (C.peek false [P.v (.int .u8 v11)]))), []⟩
         refine s_load1 (c' := (C.p true (.v (.int .u8 v11)))) F.ag_5 rfl rfl k
        ·intro K rest fr hv htk k
         show AWops _ x _ _ K ⟨80, (upd 80 fr 42 (sc (.int .u8 v11))), []⟩
         refine s_convI F.u_5 F.u_3 rfl k
        ·intro K rest fr hv htk k
         show AWops _ x _ _ K ⟨80, (upd 80 fr 43 (si (IntKind.i64.wrap v11))), _⟩
         refine s_binI (v := (.int .i64 (IntKind.i64.wrap ((IntKind.i64.wrap v11) - 192)))) rfl rfl rfl k
        ·intro K rest fr hv htk k
         show AWops _ x _ _ K ⟨80, fr, _⟩
         refine s_assign (d := (si 2)) rfl k
        ·intro K rest fr hv htk k
         show AWops _ x _ _ K ⟨80, (upd 80 fr 44 (si (IntKind.i64.wrap ((IntKind.i64.wrap v11) - 192)))), _⟩
         refine s_assign (d := (si (IntKind.i64.wrap ((IntKind.i64.wrap v11) - 192)))) rfl k
       ·refine AWops.weak (st' := ⟨80, (upd 80 (upd 80 (upd 80 topF 0 (D.one (C.p false (.sl a0.length (a0.flatMap e_u8))))) 4 (si 2)) 5 (si (IntKind.i64.wrap ((IntKind.i64.wrap v11) - 192)))), []⟩) (wg 0 [] [] hx (le_upd (le_upd (le_upd (le_top _) (o1 .same)) (o1 .sc)) (o1 .sc)) an) (AWops.nil ?_)
        exact ⟨⟨80, (upd 80 (upd 80 (upd 80 topF 0 (D.one (C.p false (.sl a0.length (a0.flatMap e_u8))))) 4 (si 2)) 5 (si (IntKind.i64.wrap ((IntKind.i64.wrap v11) - 192)))), []⟩, (wg 0 [] [] hx (le_upd (le_upd (le_upd (le_top _) (o1 .same)) (o1 .sc)) (o1 .sc)) an), 2, IntKind.i64.wrap ((IntKind.i64.wrap v11) - 192), h, rfl⟩
      ·refine AW.cond_no rfl c10 (AW.skip ?_)
       exact ⟨⟨80, (upd 80 (upd 80 (upd 80 topF 0 (D.one (C.p false (.sl a0.length (a0.flatMap e_u8))))) 4 (si 1)) 5 (si (IntKind.i64.wrap v2))), []⟩, (wg 0 [] [] hx (le_upd (le_upd (le_upd (le_top _) (o1 .same)) (o1 .sc)) (o1 .sc)) an), 1, IntKind.i64.wrap v2, h, rfl⟩
   ·rintro st ⟨x12, x13, h, rfl⟩
    cases k with
    | zero => exact absurd h (by simp [dossierref01_Decode.j0])
    | succ qj0 =>
     replace h := (dossierref01_Decode.j0.eq_2 _ _ _ _).symm.trans h
     refine AW.seq (AW.seq (AW.region ?_))
     refine s_move (d := (si x12)) rfl (s_move (d := (D.one (C.p false (.sl a0.length (a0.flatMap e_u8))))) rfl (s_len (n := a0.length) F.u_59 rfl (.inr ⟨(fun _ _ h => by cases h), ⟨_, rfl⟩⟩) (s_binI (v := (.bool (decide (x12 > (a0.length : Int))))) rfl rfl rfl (AWops.nil ?_))))
     rcases itH h with ⟨c14, h⟩ | ⟨c14, h⟩
     ·refine AW.cond_yes rfl c14 (AW.seq (AW.region ?_))
      refine s_assign (d := (si 0)) rfl (s_assign (d := (si 0)) rfl (AWops.nil (AW.ret ?_)))
      obtain rfl := Option.some.inj h
      exact ⟨_, rfl, (wg 0 [] [] rfl (le_upd (le_top _) (DLe.tup (ac (TLe.one .sc) (ac (TLe.one .sc) an)))) an)⟩
     ·refine AW.cond_no rfl c14 (AW.skip (AW.seq (AW.seq (AW.region ?_))))
      refine s_move (d := (D.one (C.p false (.sl a0.length (a0.flatMap e_u8))))) rfl (s_move (d := (si x12)) rfl ?_)
      obtain ⟨c15, h⟩ := gdH h
      have dc15 := of_decide_eq_true c15
      refine t_sliceImm (a := 1) (b := x12) F.u_59 F.sz_5 e_u8_len rfl (by omega) (by omega) (by omega) (.yes rfl (by omega) rfl) (.yes rfl (by omega) rfl) (s_len (n := (sub a0 1 x12).length) F.u_59 rfl (.inr ⟨(fun _ _ h => by cases h), ⟨_, rfl⟩⟩) (s_move (d := (si 0)) rfl (AWops.nil (AW.block ?_))))
      refine AW.loopw (st0 := ⟨80, (upd 80 (upd 80 (upd 80 (upd 80 (upd 80 (upd 80 topF 0 (D.one (C.p false (.sl a0.length (a0.flatMap e_u8))))) 4 (si x12)) 5 (si x13)) 51 (D.one (C.p false (.sl (sub a0 1 x12).length ((sub a0 1 x12).flatMap e_u8))))) 52 (si ((sub a0 1 x12).length : Int))) 53 (si 0)), []⟩) (fun kv st => kv ≤ qj0 ∧ ∃ (x16 : Int) (x17 : Int), dossierref01_Decode.l1 kv x16 x17 a0 x12 = some r ∧ st = ⟨80, (upd 80 (upd 80 (upd 80 (upd 80 (upd 80 (upd 80 topF 0 (D.one (C.p false (.sl a0.length (a0.flatMap e_u8))))) 4 (si x12)) 5 (si x16)) 51 (D.one (C.p false (.sl (sub a0 1 x12).length ((sub a0 1 x12).flatMap e_u8))))) 52 (si ((sub a0 1 x12).length : Int))) 53 (si x17)), []⟩) (k := qj0) (wg 0 [] [] hx (le_upd (le_upd (le_upd (le_upd (le_upd (le_upd (le_top _) (o1 .same)) (o1 .sc)) (o1 .sc)) (o1 .same)) (o1 .sc)) (o1 .sc)) an) ⟨Nat.le_refl _, x13, 0, h, rfl⟩ ?_
      rintro ql1 st ⟨hkl1, x16, x17, h, rfl⟩
      cases ql1 with
      | zero => exact absurd h (by simp [dossierref01_Decode.l1])
      | succ ql1 =>
       replace h := (dossierref01_Decode.l1.eq_2 _ _ _ _ _).symm.trans h
       refine AW.seq (AW.region ?_)
       refine s_binI (v := (.bool (decide (x17 < ((sub a0 1 x12).length : Int))))) rfl rfl rfl (AWops.nil (AW.seq ?_))
       rcases itH h with ⟨c18, h⟩ | ⟨c18, h⟩
       ·refine AW.cond_yes rfl c18 (AW.skip (AW.seq (AW.block (AW.seq (AW.region ?_)))))
        obtain ⟨v19, ev19, h⟩ := bnd h
        obtain ⟨pv19, qv19, gv19⟩ := rd_some ev19
        refine s_indexImm (ps := [P.v (.int .u8 v19)]) F.u_59 F.sz_5 rfl rfl pv19 qv19 (flat_at e_u8_len gv19 (e_u8_eq v19)) (s_load1 (c' := (C.p true (.v (.int .u8 v19)))) F.ag_5 rfl rfl (s_assign (d := (sc (.int .u8 v19))) rfl (AWops.nil (AW.seq (AW.seq (AW.region (s_move (d := (sc (.int .u8 v19))) rfl (s_binI (v := (.bool (decide (v19 < 128)))) rfl rfl rfl (s_move (d := (sb (decide (v19 < 128)))) rfl ?_)))))))))
        rcases itH h with ⟨c20, h⟩ | ⟨c20, h⟩
        ·refine AWops.guard_no rfl (nl rfl) rfl c20 ?_
         refine AWops.guard_no rfl (nl rfl) rfl c20 ?_
         refine s_pick_yes (d := (sb true)) rfl c20 rfl (AWops.nil ?_)
         refine AW.cond_yes rfl rfl (AW.seq (AW.region ?_))
         refine s_assign (d := (si 0)) rfl (s_assign (d := (si 0)) rfl (AWops.nil (AW.ret ?_)))
         obtain rfl := Option.some.inj h
         exact ⟨_, rfl, (wg 0 [] [] rfl (le_upd (le_top _) (DLe.tup (ac (TLe.one .sc) (ac (TLe.one .sc) an)))) an)⟩
        ·refine AWops.guard_yes rfl (nl rfl) rfl c20 ?_
         refine s_move (d := (sc (.int .u8 v19))) rfl ?_
         refine AWops.guard_yes rfl (nl rfl) rfl c20 ?_
         refine s_binI (v := (.bool (decide (v19 > 191)))) rfl rfl rfl (s_pick_no (d := (sb (decide (v19 > 191)))) rfl c20 rfl (AWops.nil ?_))
         rcases itH h with ⟨c21, h⟩ | ⟨c21, h⟩
         ·refine AW.cond_yes rfl c21 (AW.seq (AW.region ?_))
          refine s_assign (d := (si 0)) rfl (s_assign (d := (si 0)) rfl (AWops.nil (AW.ret ?_)))
          obtain rfl := Option.some.inj h
          exact ⟨_, rfl, (wg 0 [] [] rfl (le_upd (le_top _) (DLe.tup (ac (TLe.one .sc) (ac (TLe.one .sc) an)))) an)⟩
         ·refine AW.cond_no rfl c21 (AW.skip (AW.region ?_))
          refine s_move (d := (si x16)) rfl (s_binI (v := (.int .i64 (IntKind.i64.wrap (x16 * 64)))) rfl rfl rfl (s_move (d := (sc (.int .u8 v19))) rfl (s_convI F.u_5 F.u_3 rfl (s_binI (v := (.int .i64 (IntKind.i64.wrap ((IntKind.i64.wrap (x16 * 64)) + (IntKind.i64.wrap v19))))) rfl rfl rfl (s_binI (v := (.int .i64 (IntKind.i64.wrap ((IntKind.i64.wrap ((IntKind.i64.wrap (x16 * 64)) + (IntKind.i64.wrap v19))) - 128)))) rfl rfl rfl ?_)))))
          refine s_assign (d := (si (IntKind.i64.wrap ((IntKind.i64.wrap ((IntKind.i64.wrap (x16 * 64)) + (IntKind.i64.wrap v19))) - 128)))) rfl (AWops.nil (AW.region ?_))
          refine s_binI (v := (.int .i64 (IntKind.i64.wrap (x17 + 1)))) rfl rfl rfl (s_move (d := (si (IntKind.i64.wrap (x17 + 1)))) rfl (AWops.nil ?_))
          exact ⟨_, ⟨80, (upd 80 (upd 80 (upd 80 (upd 80 (upd 80 (upd 80 topF 0 (D.one (C.p false (.sl a0.length (a0.flatMap e_u8))))) 4 (si x12)) 5 (si (IntKind.i64.wrap ((IntKind.i64.wrap ((IntKind.i64.wrap (x16 * 64)) + (IntKind.i64.wrap v19))) - 128)))) 51 (D.one (C.p false (.sl (sub a0 1 x12).length ((sub a0 1 x12).flatMap e_u8))))) 52 (si ((sub a0 1 x12).length : Int))) 53 (si (IntKind.i64.wrap (x17 + 1)))), []⟩, by omega, (wg 0 [] [] hx (le_upd (le_upd (le_upd (le_upd (le_upd (le_upd (le_top _) (o1 .same)) (o1 .sc)) (o1 .sc)) (o1 .same)) (o1 .sc)) (o1 .sc)) an), by omega, IntKind.i64.wrap ((IntKind.i64.wrap ((IntKind.i64.wrap (x16 * 64)) + (IntKind.i64.wrap v19))) - 128), IntKind.i64.wrap (x17 + 1), h, rfl⟩
       ·refine AW.cond_no rfl c18 (AW.exit (AW.seq (AW.seq ?_)))
        refine AW.weak (st' := ⟨80, (upd 80 (upd 80 (upd 80 topF 0 (D.one (C.p false (.sl a0.length (a0.flatMap e_u8))))) 4 (si x12)) 5 (si x16)), []⟩) (wg 0 [] [] hx (le_upd (le_upd (le_upd (le_top _) (o1 .same)) (o1 .sc)) (o1 .sc)) an) ?_
        obtain ⟨r22, er22, h⟩ := bnd h
        obtain ⟨c23, h⟩ := gdH h
        have dc23 := of_decide_eq_true c23
        refine AW.draw (n := 80) (L := 1) [(ft 0 70 (si x16) [(5, (si x16))]), (1, ⟨some 71, (D.one (C.own 0 0 r22.length 1)), [(70, (si x16))], [], [(0, (ow_ e_u8 r22))], some 0⟩), (2, ⟨some 72, (st_ (ofNums r22)), [(71, (D.one (C.own 0 0 r22.length 1)))], [(0, (ow_ e_u8 r22))], [], none⟩), (ft 3 73 (D.one (C.p false (.sl a0.length (a0.flatMap e_u8)))) [(0, (D.one (C.p false (.sl a0.length (a0.flatMap e_u8)))))]), (ft 4 74 (si x12) [(4, (si x12))]), (ft 5 75 (D.one (C.p false (.sl (sub a0 0 x12).length ((sub a0 0 x12).flatMap e_u8)))) [(73, (D.one (C.p false (.sl a0.length (a0.flatMap e_u8))))), (74, (si x12))]), (ft 6 76 (st_ (ofNums (sub a0 0 x12))) [(75, (D.one (C.p false (.sl (sub a0 0 x12).length ((sub a0 0 x12).flatMap e_u8)))))]), (ft 7 77 (sb (!((ofNums r22).toList == (ofNums (sub a0 0 x12)).toList))) [(72, (st_ (ofNums r22))), (76, (st_ (ofNums (sub a0 0 x12))))])] [[], [0], [0, 1], [], [], [3, 4], [3, 4, 5], (.range 7)] (nl rfl) [0, 1, 2, 0, 0, 1, 2, 3] rfl (TK := [(1, 0)]) rfl (AllK.cons' ⟨(tk_upd (tk_upd (tk_upd tk_top rfl) rfl) rfl), AllT.nil', (fC (.inr rfl) (fC (.inl rfl) (fC (.inl rfl) (fC (.inr rfl) (fC (.inr rfl) (fC (.inr rfl) (fC (.inr rfl) (fC (.inl rfl) AllF.nil'))))))))⟩ AllK.nil') (by repeat (first | refine fC ⟨?_, ?_⟩ ?_ | refine sC rfl ?_ | refine hC rfl ?_ | trivial)) ?_ ?_
        ·refine (pC ?_ (pC ?_ (pC ?_ (pC ?_ (pC ?_ (pC ?_ (pC ?_ (pC ?_ AllStep.nil'))))))))
         ·intro K rest fr hv htk k
          show AWops _ x _ _ K ⟨80, (upd 80 fr 5 (si x16)), _⟩
          refine s_move (d := (si x16)) rfl k
         ·intro K rest fr hv htk k
          show AWops _ x _ _ K ⟨80, (upd 80 fr 70 (si x16)), [(hv 0)]⟩
          refine cc [] [(hv 0), (ow_ e_u8 r22)] (D.one (C.own 1 0 r22.length 1)) F.ca_64 rfl rfl (ac (.one .sc) an) an (dossierref01_Encode.meets _ x16 r22 er22) ?_
          refine AWops.weak (st' := ⟨80, (upd 80 (upd 80 fr 70 (si x16)) 71 (D.one (C.own 0 0 r22.length 1))), [(ow_ e_u8 r22)]⟩) (wg 0 [1] [] hx (le_upd2 (le_ok (p := 0) (L := 1) rfl (htk 0 rfl).1) (o1 (.own rfl))) (ac (.cells (fun _ => rfl) (all2_row _)) an)) k
         ·intro K rest fr hv htk k
          show AWops _ x _ _ K ⟨80, (upd 80 fr 71 (D.one (C.own 0 0 r22.length 1))), [(ow_ e_u8 r22)]⟩
          refine t_toStr (xs := r22) F.u_59 F.u_5 F.u_9 (.own rfl rfl) k
         ·intro K rest fr hv htk k
          show AWops _ x _ _ K ⟨80, (upd 80 fr 0 (D.one (C.p false (.sl a0.length (a0.flatMap e_u8))))), _⟩
          refine s_move (d := (D.one (C.p false (.sl a0.length (a0.flatMap e_u8))))) rfl k
         ·intro K rest fr hv htk k
          show AWops _ x _ _ K ⟨80, (upd 80 fr 4 (si x12)), _⟩
          refine s_move (d := (si x12)) rfl k
         ·intro K rest fr hv htk k
          show AWops _ x _ _ K ⟨80, (upd 80 (upd 80 fr 74 (si x12)) 73 (D.one (C.p false (.sl a0.length (a0.flatMap e_u8))))), [(hv 0)]⟩
          refine t_sliceImm (a := 0) (b := x12) F.u_59 F.sz_5 e_u8_len rfl (by omega) (by omega) (by omega) .no (.yes rfl (by omega) rfl) k
         ·intro K rest fr hv htk k
          show AWops _ x _ _ K ⟨80, (upd 80 fr 75 (D.one (C.p false (.sl (sub a0 0 x12).length ((sub a0 0 x12).flatMap e_u8))))), [(hv 0)]⟩
          refine t_toStr (xs := sub a0 0 x12) F.u_59 F.u_5 F.u_9 .imm k
         ·intro K rest fr hv htk k
          show AWops _ x _ _ K ⟨80, (upd 80 (upd 80 fr 76 (st_ (ofNums (sub a0 0 x12)))) 72 (st_ (ofNums r22))), [(hv 0)]⟩
          refine s_binS (v := (.bool (!((ofNums r22).toList == (ofNums (sub a0 0 x12)).toList)))) rfl rfl rfl k
        ·refine AWops.weak (st' := ⟨80, (upd 80 (upd 80 (upd 80 topF 4 (si x12)) 5 (si x16)) 77 (sb (!((ofNums r22).toList == (ofNums (sub a0 0 x12)).toList)))), []⟩) (wg 0 [] [] hx (le_upd (le_upd (le_upd (le_top _) (o1 .sc)) (o1 .sc)) (o1 .sc)) an) (AWops.nil ?_)
         rcases itH h with ⟨c24, h⟩ | ⟨c24, h⟩
         ·refine AW.cond_no rfl (by rw [c24] <;> rfl) (AW.skip (AW.seq (AW.region ?_)))
          refine s_move (d := (si x16)) rfl (s_move (d := (si x12)) rfl (s_assign (d := (si x16)) rfl (s_assign (d := (si x12)) rfl (AWops.nil (AW.ret ?_)))))
          obtain rfl := Option.some.inj h
          exact ⟨_, rfl, (wg 0 [] [] rfl (le_upd (le_top _) (DLe.tup (ac (TLe.one .sc) (ac (TLe.one .sc) an)))) an)⟩
         ·refine AW.cond_yes rfl (by rw [c24] <;> rfl) (AW.seq (AW.region ?_))
          refine s_assign (d := (si 0)) rfl (s_assign (d := (si 0)) rfl (AWops.nil (AW.ret ?_)))
          obtain rfl := Option.some.inj h
          exact ⟨_, rfl, (wg 0 [] [] rfl (le_upd (le_top _) (DLe.tup (ac (TLe.one .sc) (ac (TLe.one .sc) an)))) an)⟩
mutual
def dossierref01_within.l0 : Nat → Int → Int → (List Int) → Option Bool
 | 0, _, _, _ => none
 | k + 1, x1, a0, a1 => if (decide ((IntKind.i64.wrap (x1 + 1)) < (a1.length : Int))) = true then ((rd a1 x1).bind fun v3 => if (decide (a0 ≥ v3)) = true then ((rd a1 (IntKind.i64.wrap (x1 + 1))).bind fun v5 => if (decide (a0 ≤ v5)) = true then (some true) else (dossierref01_within.l0 k (IntKind.i64.wrap (x1 + 2)) a0 a1)) else (dossierref01_within.l0 k (IntKind.i64.wrap (x1 + 2)) a0 a1)) else (some false)
end
def dossierref01_within.f (k : Nat) (a0 : Int) (a1 : List Int) : Option Bool := dossierref01_within.l0 k 0 a0 a1
theorem dossierref01_within.meets (k : Nat) (a0 : Int) (a1 : List Int) (r : Bool) (h : dossierref01_within.f k a0 a1 = some r) : Meets Tryd.prog 65 [(si a0), (D.one (C.p false (.sl a1.length (a1.flatMap e_i64))))] [] (sb r) [] := by
 unfold dossierref01_within.f at h
 refine Meets.of_body (n := 28) Tryd.func65 rfl rfl (nl rfl) fun x hx => ?_
 replace hx : x.k = 0 := hx
 show AW _ x _ _ ⟨28, fr0 [(si a0), (D.one (C.p false (.sl a1.length (a1.flatMap e_i64))))], []⟩
 refine AW.seq (AW.region ?_)
 refine s_assign (d := (sb false)) rfl (AWops.nil (AW.seq (AW.seq (AW.region ?_))))
 refine s_assign (d := (si 0)) rfl (AWops.nil (AW.block ?_))
 refine AW.loopw (st0 := ⟨28, (upd 28 (upd 28 (upd 28 topF 0 (si a0)) 1 (D.one (C.p false (.sl a1.length (a1.flatMap e_i64))))) 5 (si 0)), []⟩) (fun kv st => kv ≤ k ∧ ∃ (x1 : Int), dossierref01_within.l0 kv x1 a0 a1 = some r ∧ st = ⟨28, (upd 28 (upd 28 (upd 28 topF 0 (si a0)) 1 (D.one (C.p false (.sl a1.length (a1.flatMap e_i64))))) 5 (si x1)), []⟩) (k := k) (wg 0 [] [] hx (le_upd (le_upd (le_upd (le_top _) (o1 .sc)) (o1 .same)) (o1 .sc)) an) ⟨Nat.le_refl _, 0, h, rfl⟩ ?_
 rintro ql0 st ⟨hkl0, x1, h, rfl⟩
 cases ql0 with
 | zero => exact absurd h (by simp [dossierref01_within.l0])
 | succ ql0 =>
  replace h := (dossierref01_within.l0.eq_2 _ _ _ _).symm.trans h
  refine AW.seq (AW.seq (AW.region ?_))
  refine s_move (d := (si x1)) rfl (s_binI (v := (.int .i64 (IntKind.i64.wrap (x1 + 1)))) rfl rfl rfl (s_move (d := (D.one (C.p false (.sl a1.length (a1.flatMap e_i64))))) rfl (s_len (n := a1.length) F.u_52 rfl (.inr ⟨(fun _ _ h => by cases h), ⟨_, rfl⟩⟩) (s_binI (v := (.bool (decide ((IntKind.i64.wrap (x1 + 1)) < (a1.length : Int))))) rfl rfl rfl (AWops.nil ?_)))))
  rcases itH h with ⟨c2, h⟩ | ⟨c2, h⟩
  ·refine AW.cond_yes rfl c2 (AW.skip (AW.seq (AW.block (AW.seq (AW.region ?_)))))
   refine s_move (d := (si a0)) rfl (s_move (d := (D.one (C.p false (.sl a1.length (a1.flatMap e_i64))))) rfl (s_move (d := (si x1)) rfl ?_))
   obtain ⟨v3, ev3, h⟩ := bnd h
   obtain ⟨pv3, qv3, gv3⟩ := rd_some ev3
   refine s_indexImm (ps := [P.v (.int .i64 v3)]) F.u_52 F.sz_3 rfl rfl pv3 qv3 (flat_at e_i64_len gv3 (e_i64_eq v3)) (s_load1 (c' := (ci v3)) F.ag_3 rfl rfl (s_binI (v := (.bool (decide (a0 ≥ v3)))) rfl rfl rfl (s_move (d := (sb (decide (a0 ≥ v3)))) rfl ?_)))
   rcases itH h with ⟨c4, h⟩ | ⟨c4, h⟩
   ·refine AWops.guard_yes rfl (nl rfl) rfl c4 ?_
    refine s_move (d := (si a0)) rfl ?_
    refine AWops.guard_yes rfl (nl rfl) rfl c4 ?_
    refine s_move (d := (D.one (C.p false (.sl a1.length (a1.flatMap e_i64))))) rfl ?_
    refine AWops.guard_yes rfl (nl rfl) rfl c4 ?_
    refine s_move (d := (si x1)) rfl ?_
    refine AWops.guard_yes rfl (nl rfl) rfl c4 ?_
    refine s_binI (v := (.int .i64 (IntKind.i64.wrap (x1 + 1)))) rfl rfl rfl ?_
    refine AWops.guard_yes rfl (nl rfl) rfl c4 ?_
    obtain ⟨v5, ev5, h⟩ := bnd h
    obtain ⟨pv5, qv5, gv5⟩ := rd_some ev5
    refine s_indexImm (ps := [P.v (.int .i64 v5)]) F.u_52 F.sz_3 rfl rfl pv5 qv5 (flat_at e_i64_len gv5 (e_i64_eq v5)) ?_
    refine AWops.guard_yes rfl (nl rfl) rfl c4 ?_
    refine s_load1 (c' := (ci v5)) F.ag_3 rfl rfl ?_
    refine AWops.guard_yes rfl (nl rfl) rfl c4 ?_
    refine s_binI (v := (.bool (decide (a0 ≤ v5)))) rfl rfl rfl (s_pick_yes (d := (sb (decide (a0 ≤ v5)))) rfl c4 rfl (AWops.nil ?_))
    rcases itH h with ⟨c6, h⟩ | ⟨c6, h⟩
    ·refine AW.cond_yes rfl c6 (AW.seq (AW.region ?_))
     refine s_assign (d := (sb true)) rfl (AWops.nil (AW.ret ?_))
     obtain rfl := Option.some.inj h
     exact ⟨_, rfl, (wg 0 [] [] rfl (le_upd (le_top _) (o1 .sc)) an)⟩
    ·refine AW.cond_no rfl c6 (AW.skip (AW.region ?_))
     refine s_move (d := (si x1)) rfl (s_binI (v := (.int .i64 (IntKind.i64.wrap (x1 + 2)))) rfl rfl rfl (s_assign (d := (si (IntKind.i64.wrap (x1 + 2)))) rfl (AWops.nil ?_)))
     exact ⟨_, ⟨28, (upd 28 (upd 28 (upd 28 topF 0 (si a0)) 1 (D.one (C.p false (.sl a1.length (a1.flatMap e_i64))))) 5 (si (IntKind.i64.wrap (x1 + 2)))), []⟩, by omega, (wg 0 [] [] hx (le_upd (le_upd (le_upd (le_top _) (o1 .sc)) (o1 .same)) (o1 .sc)) an), by omega, IntKind.i64.wrap (x1 + 2), h, rfl⟩
   ·iterate 7 refine AWops.guard_no rfl (nl rfl) rfl c4 ?_
    refine s_pick_no (d := (sb false)) rfl c4 rfl (AWops.nil ?_)
    refine AW.cond_no rfl rfl (AW.skip (AW.region ?_))
    refine s_move (d := (si x1)) rfl (s_binI (v := (.int .i64 (IntKind.i64.wrap (x1 + 2)))) rfl rfl rfl (s_assign (d := (si (IntKind.i64.wrap (x1 + 2)))) rfl (AWops.nil ?_)))
    exact ⟨_, ⟨28, (upd 28 (upd 28 (upd 28 topF 0 (si a0)) 1 (D.one (C.p false (.sl a1.length (a1.flatMap e_i64))))) 5 (si (IntKind.i64.wrap (x1 + 2)))), []⟩, by omega, (wg 0 [] [] hx (le_upd (le_upd (le_upd (le_top _) (o1 .sc)) (o1 .same)) (o1 .sc)) an), by omega, IntKind.i64.wrap (x1 + 2), h, rfl⟩
  ·refine AW.cond_no rfl c2 (AW.exit (AW.seq (AW.region ?_)))
   refine s_assign (d := (sb false)) rfl (AWops.nil (AW.ret ?_))
   obtain rfl := Option.some.inj h
   exact ⟨_, rfl, (wg 0 [] [] rfl (le_upd (le_top _) (o1 .sc)) an)⟩
def dossierref01_OfXML.f (k : Nat) (a0 : Int) : Option Bool := (dossierref01_within.f k a0 ([9, 10, 13, 13, 32, 55295, 57344, 65533, 65536, 1114111] : List Int)).bind fun r1 => some r1
theorem dossierref01_OfXML.meets (k : Nat) (a0 : Int) (r : Bool) (h : dossierref01_OfXML.f k a0 = some r) : Meets Tryd.prog 54 [(si a0)] [] (sb r) [] := by
 unfold dossierref01_OfXML.f at h
 refine Meets.of_body (n := 6) Tryd.func54 rfl rfl (nl rfl) fun x hx => ?_
 replace hx : x.k = 0 := hx
 show AW _ x _ _ ⟨6, fr0 [(si a0)], []⟩
 refine AW.seq (AW.region ?_)
 refine s_assign (d := (sb false)) rfl (AWops.nil (AW.seq (AW.region ?_)))
 refine s_move (d := (si a0)) rfl (s_buildSlice (n := 10) (ps := [(0, (si 9)), (1, (si 10)), (2, (si 13)), (3, (si 13)), (4, (si 32)), (5, (si 55295)), (6, (si 57344)), (7, (si 65533)), (8, (si 65536)), (9, (si 1114111))]) (cs := rowC e_i64 ([9, 10, 13, 13, 32, 55295, 57344, 65533, 65536, 1114111] : List Int)) F.u_52 F.sz_3 F.z_3 rfl rfl (by decide) (by decide) rfl rfl ?_)
 obtain ⟨r1, er1, h⟩ := bnd h
 refine s_call2 (ρ := []) (br := true) (H2 := [(some (AObj.cells true (rowC e_i64 ([9, 10, 13, 13, 32, 55295, 57344, 65533, 65536, 1114111] : List Int))))]) (d := (sb r1)) F.ca_65 rfl rfl (ac (.one .sc) (ac (.one (LendC.bor e_i64_len rfl rfl rfl)) an)) an (by decide) rfl (dossierref01_within.meets _ a0 ([9, 10, 13, 13, 32, 55295, 57344, 65533, 65536, 1114111] : List Int) r1 er1) (.inr ⟨rfl, rfl⟩) rfl rfl (s_assign (d := (sb r1)) rfl (AWops.nil (AW.ret ?_)))
 obtain rfl := Option.some.inj h
 exact ⟨_, rfl, (wg 0 [] [] rfl (le_upd (le_top _) (o1 .sc)) an)⟩
mutual
def dossierref01_Wrong.l0 : Nat → Int → (List Int) → Option Int
 | 0, _, _ => none
 | k + 1, x1, a0 => if (decide (x1 < (a0.length : Int))) = true then (if (decide (0 ≤ x1 ∧ x1 ≤ (a0.length : Int) ∧ (a0.length : Int) ≤ (a0.length : Int))) = true then ((dossierref01_Decode.f k (sub a0 x1 (a0.length : Int))).bind fun r4 => if (r4.2 == 0) = true then (some x1) else ((dossierref01_OfXML.f k r4.1).bind fun r6 => if r6 = true then (dossierref01_Wrong.l0 k (IntKind.i64.wrap (x1 + r4.2)) a0) else (some x1))) else none) else (some (-1))
end
def dossierref01_Wrong.f (k : Nat) (a0 : List Int) : Option Int := dossierref01_Wrong.l0 k 0 a0
theorem dossierref01_Wrong.meets (k : Nat) (a0 : List Int) (r : Int) (h : dossierref01_Wrong.f k a0 = some r) : Meets Tryd.prog 46 [(D.one (C.p false (.sl a0.length (a0.flatMap e_u8))))] [] (si r) [] := by
 unfold dossierref01_Wrong.f at h
 refine Meets.of_body (n := 28) Tryd.func46 rfl rfl (nl rfl) fun x hx => ?_
 replace hx : x.k = 0 := hx
 show AW _ x _ _ ⟨28, fr0 [(D.one (C.p false (.sl a0.length (a0.flatMap e_u8))))], []⟩
 refine AW.seq (AW.region ?_)
 refine s_assign (d := (si 0)) rfl (AWops.nil (AW.seq (AW.seq (AW.region ?_))))
 refine s_assign (d := (si 0)) rfl (AWops.nil (AW.block ?_))
 refine AW.loopw (st0 := ⟨28, (upd 28 (upd 28 topF 0 (D.one (C.p false (.sl a0.length (a0.flatMap e_u8))))) 3 (si 0)), []⟩) (fun kv st => kv ≤ k ∧ ∃ (x1 : Int), dossierref01_Wrong.l0 kv x1 a0 = some r ∧ st = ⟨28, (upd 28 (upd 28 topF 0 (D.one (C.p false (.sl a0.length (a0.flatMap e_u8))))) 3 (si x1)), []⟩) (k := k) (wg 0 [] [] hx (le_upd (le_upd (le_top _) (o1 .same)) (o1 .sc)) an) ⟨Nat.le_refl _, 0, h, rfl⟩ ?_
 rintro ql0 st ⟨hkl0, x1, h, rfl⟩
 cases ql0 with
 | zero => exact absurd h (by simp [dossierref01_Wrong.l0])
 | succ ql0 =>
  replace h := (dossierref01_Wrong.l0.eq_2 _ _ _).symm.trans h
  refine AW.seq (AW.seq (AW.region ?_))
  refine s_move (d := (si x1)) rfl (s_move (d := (D.one (C.p false (.sl a0.length (a0.flatMap e_u8))))) rfl (s_len (n := a0.length) F.u_59 rfl (.inr ⟨(fun _ _ h => by cases h), ⟨_, rfl⟩⟩) (s_binI (v := (.bool (decide (x1 < (a0.length : Int))))) rfl rfl rfl (AWops.nil ?_))))
  rcases itH h with ⟨c2, h⟩ | ⟨c2, h⟩
  ·refine AW.cond_yes rfl c2 (AW.skip (AW.block (AW.seq (AW.region ?_))))
   refine s_move (d := (D.one (C.p false (.sl a0.length (a0.flatMap e_u8))))) rfl (s_move (d := (si x1)) rfl ?_)
   obtain ⟨c3, h⟩ := gdH h
   have dc3 := of_decide_eq_true c3
   refine t_sliceImm (a := x1) (b := (a0.length : Int)) F.u_59 F.sz_5 e_u8_len rfl (by omega) (by omega) (by omega) (.yes rfl (by omega) rfl) .no ?_
   obtain ⟨r4, er4, h⟩ := bnd h
   refine cc [] [] (D.tup [(si r4.1), (si r4.2)]) F.ca_53 rfl rfl (ac (.one .imm) an) an (dossierref01_Decode.meets _ (sub a0 x1 (a0.length : Int)) r4 er4) (s_move (d := (D.tup [(si r4.1), (si r4.2)])) rfl (s_extract (d := (si r4.1)) rfl rfl (s_extract (d := (si r4.2)) rfl rfl (s_assign (d := (si r4.1)) rfl (s_assign (d := (si r4.2)) rfl (AWops.nil (AW.seq (AW.seq (AW.region ?_)))))))))
   refine s_move (d := (si r4.2)) rfl (s_binI (v := (.bool (r4.2 == 0))) rfl rfl rfl (s_move (d := (sb (r4.2 == 0))) rfl ?_))
   rcases itH h with ⟨c5, h⟩ | ⟨c5, h⟩
   ·iterate 3 refine AWops.guard_no rfl (nl rfl) rfl c5 ?_
    refine s_pick_yes (d := (sb true)) rfl c5 rfl (AWops.nil ?_)
    refine AW.cond_yes rfl rfl (AW.seq (AW.region ?_))
    refine s_move (d := (si x1)) rfl (s_assign (d := (si x1)) rfl (AWops.nil (AW.ret ?_)))
    obtain rfl := Option.some.inj h
    exact ⟨_, rfl, (wg 0 [] [] rfl (le_upd (le_top _) (o1 .sc)) an)⟩
   ·refine AWops.guard_yes rfl (nl rfl) rfl c5 ?_
    refine s_move (d := (si r4.1)) rfl ?_
    refine AWops.guard_yes rfl (nl rfl) rfl c5 ?_
    obtain ⟨r6, er6, h⟩ := bnd h
    refine cc [] [] (sb r6) F.ca_54 rfl rfl (ac (.one .sc) an) an (dossierref01_OfXML.meets _ r4.1 r6 er6) ?_
    refine AWops.guard_yes rfl (nl rfl) rfl c5 ?_
    refine s_not rfl (s_pick_no (d := (sb (!r6))) rfl c5 rfl (AWops.nil ?_))
    rcases itH h with ⟨c7, h⟩ | ⟨c7, h⟩
    ·refine AW.cond_no rfl (by rw [c7] <;> rfl) (AW.skip (AW.region ?_))
     refine s_move (d := (si x1)) rfl (s_move (d := (si r4.2)) rfl (s_binI (v := (.int .i64 (IntKind.i64.wrap (x1 + r4.2)))) rfl rfl rfl (s_assign (d := (si (IntKind.i64.wrap (x1 + r4.2)))) rfl (AWops.nil ?_))))
     exact ⟨_, ⟨28, (upd 28 (upd 28 topF 0 (D.one (C.p false (.sl a0.length (a0.flatMap e_u8))))) 3 (si (IntKind.i64.wrap (x1 + r4.2)))), []⟩, by omega, (wg 0 [] [] hx (le_upd (le_upd (le_top _) (o1 .same)) (o1 .sc)) an), by omega, IntKind.i64.wrap (x1 + r4.2), h, rfl⟩
    ·refine AW.cond_yes rfl (by rw [c7] <;> rfl) (AW.seq (AW.region ?_))
     refine s_move (d := (si x1)) rfl (s_assign (d := (si x1)) rfl (AWops.nil (AW.ret ?_)))
     obtain rfl := Option.some.inj h
     exact ⟨_, rfl, (wg 0 [] [] rfl (le_upd (le_top _) (o1 .sc)) an)⟩
  ·refine AW.cond_no rfl c2 (AW.exit (AW.seq (AW.region ?_)))
   refine s_assign (d := (si (-1))) rfl (AWops.nil (AW.ret ?_))
   obtain rfl := Option.some.inj h
   exact ⟨_, rfl, (wg 0 [] [] rfl (le_upd (le_top _) (o1 .sc)) an)⟩
def dossierref09_NameFits.f (k : Nat) (a0 : ByteArray) : Option Bool := (dossierref09_Named.f k a0).bind fun r1 => if r1 = true then (if (decide ((a0.size : Int) ≤ 64)) = true then ((dossierref01_Wrong.f k (bytesI a0)).bind fun r4 => some (decide (r4 < 0))) else (some false)) else (some false)
theorem dossierref09_NameFits.meets (k : Nat) (a0 : ByteArray) (r : Bool) (h : dossierref09_NameFits.f k a0 = some r) : Meets Tryd.prog 34 [(st_ a0)] [] (sb r) [] := by
 unfold dossierref09_NameFits.f at h
 refine Meets.of_body (n := 16) Tryd.func34 rfl rfl (nl rfl) fun x hx => ?_
 replace hx : x.k = 0 := hx
 show AW _ x _ _ ⟨16, fr0 [(st_ a0)], []⟩
 refine AW.seq (AW.region ?_)
 refine s_assign (d := (sb false)) rfl (AWops.nil (AW.seq (AW.region ?_)))
 refine s_move (d := (st_ a0)) rfl ?_
 obtain ⟨r1, er1, h⟩ := bnd h
 refine cc [] [] (sb r1) F.ca_45 rfl rfl (ac (.one .sc) an) an (dossierref09_Named.meets _ a0 r1 er1) (s_move (d := (sb r1)) rfl ?_)
 rcases itH h with ⟨c2, h⟩ | ⟨c2, h⟩
 ·refine AWops.guard_yes rfl (nl rfl) rfl c2 ?_
  refine s_move (d := (st_ a0)) rfl ?_
  refine AWops.guard_yes rfl (nl rfl) rfl c2 ?_
  refine s_len (n := a0.size) F.u_9 rfl (.inl ⟨⟨_, _, rfl⟩, rfl⟩) ?_
  refine AWops.guard_yes rfl (nl rfl) rfl c2 ?_
  refine s_binI (v := (.bool (decide ((a0.size : Int) ≤ 64)))) rfl rfl rfl (s_pick_yes (d := (sb (decide ((a0.size : Int) ≤ 64)))) rfl c2 rfl (s_move (d := (sb (decide ((a0.size : Int) ≤ 64)))) rfl ?_))
  rcases itH h with ⟨c3, h⟩ | ⟨c3, h⟩
  ·refine AWops.guard_yes rfl (nl rfl) rfl c3 ?_
   refine s_move (d := (st_ a0)) rfl ?_
   refine AWops.guard_yes rfl (nl rfl) rfl c3 ?_
   refine t_ofStr F.u_9 F.u_59 F.u_5 rfl ?_
   refine AWops.guard_yes rfl (nl rfl) rfl c3 ?_
   obtain ⟨r4, er4, h⟩ := bnd h
   refine cc [] [] (si r4) F.ca_46 rfl rfl (ac (.one .imm) an) an (dossierref01_Wrong.meets _ (bytesI a0) r4 er4) ?_
   refine AWops.guard_yes rfl (nl rfl) rfl c3 ?_
   refine s_binI (v := (.bool (decide (r4 < 0)))) rfl rfl rfl (s_pick_yes (d := (sb (decide (r4 < 0)))) rfl c3 rfl (s_assign (d := (sb (decide (r4 < 0)))) rfl (AWops.nil (AW.ret ?_))))
   obtain rfl := Option.some.inj h
   exact ⟨_, rfl, (wg 0 [] [] rfl (le_upd (le_top _) (o1 .sc)) an)⟩
  ·iterate 4 refine AWops.guard_no rfl (nl rfl) rfl c3 ?_
   refine s_pick_no (d := (sb false)) rfl c3 rfl (s_assign (d := (sb false)) rfl (AWops.nil (AW.ret ?_)))
   obtain rfl := Option.some.inj h
   exact ⟨_, rfl, (wg 0 [] [] rfl (le_upd (le_top _) (o1 .sc)) an)⟩
 ·iterate 3 refine AWops.guard_no rfl (nl rfl) rfl c2 ?_
  refine s_pick_no (d := (sb false)) rfl c2 rfl (s_move (d := (sb false)) rfl ?_)
  iterate 4 refine AWops.guard_no rfl (nl rfl) rfl rfl ?_
  refine s_pick_no (d := (sb false)) rfl rfl rfl (s_assign (d := (sb false)) rfl (AWops.nil (AW.ret ?_)))
  obtain rfl := Option.some.inj h
  exact ⟨_, rfl, (wg 0 [] [] rfl (le_upd (le_top _) (o1 .sc)) an)⟩
mutual
def dossierref01_Text.f : Nat → Int → Option ByteArray
 | 0, _ => none
 | k + 1, a0 => if (decide (a0 < 0)) = true then (if (decide (a0 > (-10))) = true then ((dossierref01_Text.f k (IntKind.i64.wrap (0 - a0))).bind fun r3 => if (decide ((⟨#[45]⟩ : ByteArray).size + r3.size ≤ 9223372036854775807)) = true then (some ((⟨#[45]⟩ : ByteArray) ++ r3)) else none) else ((dossierref01_Text.f k (IntKind.i64.wrap (Int.tdiv a0 10))).bind fun r5 => (dossierref01_Text.f k (IntKind.i64.wrap (0 - (Int.tmod a0 10)))).bind fun r6 => if (decide (r5.size + r6.size ≤ 9223372036854775807)) = true then (some (r5 ++ r6)) else none)) else (if (decide (a0 < 10)) = true then (if (decide (0 ≤ a0 ∧ a0 ≤ (IntKind.i64.wrap (a0 + 1)) ∧ (IntKind.i64.wrap (a0 + 1)) ≤ ((⟨#[48, 49, 50, 51, 52, 53, 54, 55, 56, 57]⟩ : ByteArray).size : Int))) = true then (some ((⟨#[48, 49, 50, 51, 52, 53, 54, 55, 56, 57]⟩ : ByteArray).extract a0.toNat (IntKind.i64.wrap (a0 + 1)).toNat)) else none) else ((dossierref01_Text.f k (IntKind.i64.wrap (Int.tdiv a0 10))).bind fun r10 => (dossierref01_Text.f k (Int.tmod a0 10)).bind fun r11 => if (decide (r10.size + r11.size ≤ 9223372036854775807)) = true then (some (r10 ++ r11)) else none))
end
theorem dossierref01_Text.meets (k : Nat) : ∀ (a0 : Int) (r : ByteArray), dossierref01_Text.f k a0 = some r → Meets Tryd.prog 31 [(si a0)] [] (st_ r) [] := by
 induction k using Nat.strongRecOn with
 | _ k ih =>
  cases k with
  | zero =>
   ·intro a0 r h; exact absurd h (by simp [dossierref01_Text.f])
  | succ k =>
   ·intro a0 r h
    replace h := (dossierref01_Text.f.eq_2 _ _).symm.trans h
    refine Meets.of_body (n := 32) Tryd.func31 rfl rfl (nl rfl) fun x hx => ?_
    replace hx : x.k = 0 := hx
    show AW _ x _ _ ⟨32, fr0 [(si a0)], []⟩
    refine AW.seq (AW.region ?_)
    refine s_assign (d := (st_ (⟨#[]⟩ : ByteArray))) rfl (AWops.nil (AW.seq (AW.seq (AW.region ?_))))
    refine s_move (d := (si a0)) rfl (s_binI (v := (.bool (decide (a0 < 0)))) rfl rfl rfl (AWops.nil ?_))
    rcases itH h with ⟨c1, h⟩ | ⟨c1, h⟩
    ·refine AW.cond_yes rfl c1 (AW.seq (AW.seq (AW.region ?_)))
     refine s_move (d := (si a0)) rfl (s_binI (v := (.bool (decide (a0 > (-10))))) rfl rfl rfl (AWops.nil ?_))
     rcases itH h with ⟨c2, h⟩ | ⟨c2, h⟩
     ·refine AW.cond_yes rfl c2 (AW.seq (AW.region ?_))
      refine s_move (d := (si a0)) rfl (s_unI (v := (.int .i64 (IntKind.i64.wrap (0 - a0)))) rfl rfl ?_)
      obtain ⟨r3, er3, h⟩ := bnd h
      refine cc [] [] (st_ r3) F.ca_31 rfl rfl (ac (.one .sc) an) an (ih _ (by omega) (IntKind.i64.wrap (0 - a0)) r3 er3) ?_
      obtain ⟨c4, h⟩ := gdH h
      refine s_binS (v := (.string ((⟨#[45]⟩ : ByteArray) ++ r3))) rfl rfl (if_neg (by have := of_decide_eq_true c4; omega)) (s_assign (d := (st_ ((⟨#[45]⟩ : ByteArray) ++ r3))) rfl (AWops.nil (AW.ret ?_)))
      obtain rfl := Option.some.inj h
      exact ⟨_, rfl, (wg 0 [] [] rfl (le_upd (le_top _) (o1 .sc)) an)⟩
     ·refine AW.cond_no rfl c2 (AW.skip (AW.seq (AW.region ?_)))
      refine s_move (d := (si a0)) rfl (s_binI (v := (.int .i64 (IntKind.i64.wrap (Int.tdiv a0 10)))) rfl rfl rfl ?_)
      obtain ⟨r5, er5, h⟩ := bnd h
      refine cc [] [] (st_ r5) F.ca_31 rfl rfl (ac (.one .sc) an) an (ih _ (by omega) (IntKind.i64.wrap (Int.tdiv a0 10)) r5 er5) (s_move (d := (si a0)) rfl (s_binI (v := (.int .i64 (Int.tmod a0 10))) rfl rfl rfl (s_unI (v := (.int .i64 (IntKind.i64.wrap (0 - (Int.tmod a0 10))))) rfl rfl ?_)))
      obtain ⟨r6, er6, h⟩ := bnd h
      refine cc [] [] (st_ r6) F.ca_31 rfl rfl (ac (.one .sc) an) an (ih _ (by omega) (IntKind.i64.wrap (0 - (Int.tmod a0 10))) r6 er6) ?_
      obtain ⟨c7, h⟩ := gdH h
      refine s_binS (v := (.string (r5 ++ r6))) rfl rfl (if_neg (by have := of_decide_eq_true c7; omega)) (s_assign (d := (st_ (r5 ++ r6))) rfl (AWops.nil (AW.ret ?_)))
      obtain rfl := Option.some.inj h
      exact ⟨_, rfl, (wg 0 [] [] rfl (le_upd (le_top _) (o1 .sc)) an)⟩
    ·refine AW.cond_no rfl c1 (AW.skip (AW.seq (AW.seq (AW.region ?_))))
     refine s_move (d := (si a0)) rfl (s_binI (v := (.bool (decide (a0 < 10)))) rfl rfl rfl (AWops.nil ?_))
     rcases itH h with ⟨c8, h⟩ | ⟨c8, h⟩
     ·refine AW.cond_yes rfl c8 (AW.seq (AW.region ?_))
      refine s_move (d := (si a0)) rfl (s_move (d := (si a0)) rfl (s_binI (v := (.int .i64 (IntKind.i64.wrap (a0 + 1)))) rfl rfl rfl ?_))
      obtain ⟨c9, h⟩ := gdH h
      have dc9 := of_decide_eq_true c9
      refine s_sliceStr F.u_9 rfl (.yes rfl (by omega) rfl) (.yes rfl (by omega) rfl) (by omega) (by omega) (s_assign (d := (st_ ((⟨#[48, 49, 50, 51, 52, 53, 54, 55, 56, 57]⟩ : ByteArray).extract a0.toNat (IntKind.i64.wrap (a0 + 1)).toNat))) rfl (AWops.nil (AW.ret ?_)))
      obtain rfl := Option.some.inj h
      exact ⟨_, rfl, (wg 0 [] [] rfl (le_upd (le_top _) (o1 .sc)) an)⟩
     ·refine AW.cond_no rfl c8 (AW.skip (AW.seq (AW.region ?_)))
      refine s_move (d := (si a0)) rfl (s_binI (v := (.int .i64 (IntKind.i64.wrap (Int.tdiv a0 10)))) rfl rfl rfl ?_)
      obtain ⟨r10, er10, h⟩ := bnd h
      refine cc [] [] (st_ r10) F.ca_31 rfl rfl (ac (.one .sc) an) an (ih _ (by omega) (IntKind.i64.wrap (Int.tdiv a0 10)) r10 er10) (s_move (d := (si a0)) rfl (s_binI (v := (.int .i64 (Int.tmod a0 10))) rfl rfl rfl ?_))
      obtain ⟨r11, er11, h⟩ := bnd h
      refine cc [] [] (st_ r11) F.ca_31 rfl rfl (ac (.one .sc) an) an (ih _ (by omega) (Int.tmod a0 10) r11 er11) ?_
      obtain ⟨c12, h⟩ := gdH h
      refine s_binS (v := (.string (r10 ++ r11))) rfl rfl (if_neg (by have := of_decide_eq_true c12; omega)) (s_assign (d := (st_ (r10 ++ r11))) rfl (AWops.nil (AW.ret ?_)))
      obtain rfl := Option.some.inj h
      exact ⟨_, rfl, (wg 0 [] [] rfl (le_upd (le_top _) (o1 .sc)) an)⟩
end Go.Abs.GenS
