import Derived.Test.YtkcaljadkfpefaaDoorGenQc
set_option linter.unusedVariables false
set_option linter.unusedSimpArgs false
set_option maxRecDepth 100000
set_option maxHeartbeats 4000000
namespace Go.Abs.GenQ
open Go.Abs Go.Proofs
mutual
def dossierref16_Same.l0 : Nat → Int → (List api_Doc) → (List api_Doc) → Option Bool
 | 0, _, _, _ => none
 | k + 1, x2, a0, a1 => if (decide (x2 < (a0.length : Int))) = true then ((rd a0 x2).bind fun v4 => (rd a1 x2).bind fun v5 => if (v4.Path.toList == v5.Path.toList) = true then ((rd a0 x2).bind fun v7 => (rd a1 x2).bind fun v8 => if ((v7.Value.Kind == v8.Value.Kind) && ((v7.Value.Int == v8.Value.Int) && ((v7.Value.Bool == v8.Value.Bool) && ((v7.Value.Text.toList == v8.Value.Text.toList) && true)))) = true then ((rd a0 x2).bind fun v10 => (rd a1 x2).bind fun v11 => (dossierref12_SameTexts.f k v10.Refs v11.Refs).bind fun r12 => if r12 = true then (dossierref16_Same.l0 k (IntKind.i64.wrap (x2 + 1)) a0 a1) else (some false)) else (some false)) else (some false)) else (some true)
end
def dossierref16_Same.f (k : Nat) (a0 : List api_Doc) (a1 : List api_Doc) : Option Bool := if ((a0.length : Int) != (a1.length : Int)) = true then (some false) else (dossierref16_Same.l0 k 0 a0 a1)
theorem dossierref16_Same.meets (k : Nat) (a0 : List api_Doc) (a1 : List api_Doc) (r : Bool) (h : dossierref16_Same.f k a0 a1 = some r) : Meets Tryd.prog 22 [(D.one (C.p false (.sl a0.length (a0.flatMap e_api_Doc)))), (D.one (C.p false (.sl a1.length (a1.flatMap e_api_Doc))))] [] (sb r) [] := by
 unfold dossierref16_Same.f at h
 refine Meets.of_body (n := 55) Tryd.func22 rfl rfl (nl rfl) fun x hx => ?_
 replace hx : x.k = 0 := hx
 show AW _ x _ _ ⟨55, fr0 [(D.one (C.p false (.sl a0.length (a0.flatMap e_api_Doc)))), (D.one (C.p false (.sl a1.length (a1.flatMap e_api_Doc))))], []⟩
 refine AW.seq (AW.region ?_)
 refine s_assign (d := (sb false)) rfl (AWops.nil (AW.seq (AW.seq (AW.region ?_))))
 refine s_move (d := (D.one (C.p false (.sl a0.length (a0.flatMap e_api_Doc))))) rfl (s_len (n := a0.length) F.u_23 rfl (.inr ⟨(fun _ _ h => by cases h), ⟨_, rfl⟩⟩) (s_move (d := (D.one (C.p false (.sl a1.length (a1.flatMap e_api_Doc))))) rfl (s_len (n := a1.length) F.u_23 rfl (.inr ⟨(fun _ _ h => by cases h), ⟨_, rfl⟩⟩) (s_binI (v := (.bool ((a0.length : Int) != (a1.length : Int)))) rfl rfl rfl (AWops.nil ?_)))))
 rcases itH h with ⟨c1, h⟩ | ⟨c1, h⟩
 ·refine AW.cond_yes rfl c1 (AW.seq (AW.region ?_))
  refine s_assign (d := (sb false)) rfl (AWops.nil (AW.ret ?_))
  obtain rfl := Option.some.inj h
  exact ⟨_, rfl, (wg 0 [] [] rfl (le_upd (le_top _) (o1 .sc)) an)⟩
 ·refine AW.cond_no rfl c1 (AW.skip (AW.seq (AW.seq (AW.region ?_))))
  refine s_move (d := (D.one (C.p false (.sl a0.length (a0.flatMap e_api_Doc))))) rfl (s_len (n := a0.length) F.u_23 rfl (.inr ⟨(fun _ _ h => by cases h), ⟨_, rfl⟩⟩) (s_move (d := (si 0)) rfl (AWops.nil (AW.block ?_))))
  refine AW.loopw (st0 := ⟨55, (upd 55 (upd 55 (upd 55 (upd 55 topF 0 (D.one (C.p false (.sl a0.length (a0.flatMap e_api_Doc))))) 1 (D.one (C.p false (.sl a1.length (a1.flatMap e_api_Doc))))) 12 (si (a0.length : Int))) 13 (si 0)), []⟩) (fun kv st => kv ≤ k ∧ ∃ (x2 : Int), dossierref16_Same.l0 kv x2 a0 a1 = some r ∧ st = ⟨55, (upd 55 (upd 55 (upd 55 (upd 55 topF 0 (D.one (C.p false (.sl a0.length (a0.flatMap e_api_Doc))))) 1 (D.one (C.p false (.sl a1.length (a1.flatMap e_api_Doc))))) 12 (si (a0.length : Int))) 13 (si x2)), []⟩) (k := k) (wg 0 [] [] hx (le_upd (le_upd (le_upd (le_upd (le_top _) (o1 .same)) (o1 .same)) (o1 .sc)) (o1 .sc)) an) ⟨Nat.le_refl _, 0, h, rfl⟩ ?_
  rintro ql0 st ⟨hkl0, x2, h, rfl⟩
  cases ql0 with
  | zero => exact absurd h (by simp [dossierref16_Same.l0])
  | succ ql0 =>
   replace h := (dossierref16_Same.l0.eq_2 _ _ _ _).symm.trans h
   refine AW.seq (AW.region ?_)
   refine s_binI (v := (.bool (decide (x2 < (a0.length : Int))))) rfl rfl rfl (AWops.nil (AW.seq ?_))
   rcases itH h with ⟨c3, h⟩ | ⟨c3, h⟩
   ·refine AW.cond_yes rfl c3 (AW.skip (AW.seq (AW.block (AW.seq (AW.region ?_)))))
    refine s_move (d := (si x2)) rfl (s_assign (d := (si x2)) rfl (AWops.nil (AW.seq ?_)))
    refine AW.weak (st' := ⟨55, (upd 55 (upd 55 (upd 55 (upd 55 (upd 55 topF 0 (D.one (C.p false (.sl a0.length (a0.flatMap e_api_Doc))))) 1 (D.one (C.p false (.sl a1.length (a1.flatMap e_api_Doc))))) 5 (si x2)) 12 (si (a0.length : Int))) 13 (si x2)), []⟩) (wg 0 [] [] hx (le_upd (le_upd (le_upd (le_upd (le_upd (le_top _) (o1 .same)) (o1 .same)) (o1 .sc)) (o1 .sc)) (o1 .sc)) an) ?_
    obtain ⟨v4, ev4, h⟩ := bnd h
    obtain ⟨pv4, qv4, gv4⟩ := rd_some ev4
    obtain ⟨v5, ev5, h⟩ := bnd h
    obtain ⟨pv5, qv5, gv5⟩ := rd_some ev5
    rcases itH h with ⟨c6, h⟩ | ⟨c6, h⟩
    ·obtain ⟨v7, ev7, h⟩ := bnd h
     obtain ⟨pv7, qv7, gv7⟩ := rd_some ev7
     obtain ⟨v8, ev8, h⟩ := bnd h
     obtain ⟨pv8, qv8, gv8⟩ := rd_some ev8
     rcases itH h with ⟨c9, h⟩ | ⟨c9, h⟩
     ·obtain ⟨v10, ev10, h⟩ := bnd h
      obtain ⟨pv10, qv10, gv10⟩ := rd_some ev10
      obtain ⟨v11, ev11, h⟩ := bnd h
      obtain ⟨pv11, qv11, gv11⟩ := rd_some ev11
      obtain ⟨r12, er12, h⟩ := bnd h
      refine AW.draw (n := 55) (L := 1) [(ft 0 16 (D.one (C.p false (.sl a0.length (a0.flatMap e_api_Doc)))) [(0, (D.one (C.p false (.sl a0.length (a0.flatMap e_api_Doc)))))]), (ft 1 17 (si x2) [(5, (si x2))]), (ft 2 18 (D.one (C.peek false (p_api_Doc v4))) [(16, (D.one (C.p false (.sl a0.length (a0.flatMap e_api_Doc))))), (17, (si x2))]), (ft 3 19 (D.one (C.peek false (p_api_Doc v4))) [(18, (D.one (C.peek false (p_api_Doc v4))))]), (ft 4 20 (st_ v4.Path) [(19, (D.one (C.peek false (p_api_Doc v4))))]), (ft 5 21 (D.one (C.p false (.sl a1.length (a1.flatMap e_api_Doc)))) [(1, (D.one (C.p false (.sl a1.length (a1.flatMap e_api_Doc)))))]), (ft 6 22 (si x2) [(5, (si x2))]), (ft 7 23 (D.one (C.peek false (p_api_Doc v5))) [(21, (D.one (C.p false (.sl a1.length (a1.flatMap e_api_Doc))))), (22, (si x2))]), (ft 8 24 (D.one (C.peek false (p_api_Doc v5))) [(23, (D.one (C.peek false (p_api_Doc v5))))]), (ft 9 25 (st_ v5.Path) [(24, (D.one (C.peek false (p_api_Doc v5))))]), (ft 10 26 (sb (!(v4.Path.toList == v5.Path.toList))) [(20, (st_ v4.Path)), (25, (st_ v5.Path))]), (ft 11 27 (sb (!(v4.Path.toList == v5.Path.toList))) [(26, (sb (!(v4.Path.toList == v5.Path.toList))))]), (ft 12 28 (D.one (C.p false (.sl a0.length (a0.flatMap e_api_Doc)))) [(0, (D.one (C.p false (.sl a0.length (a0.flatMap e_api_Doc))))), (27, (sb (!(v4.Path.toList == v5.Path.toList))))]), (ft 13 29 (si x2) [(5, (si x2)), (27, (sb (!(v4.Path.toList == v5.Path.toList))))]), (ft 14 30 (D.one (C.peek false (p_api_Doc v7))) [(27, (sb (!(v4.Path.toList == v5.Path.toList)))), (28, (D.one (C.p false (.sl a0.length (a0.flatMap e_api_Doc))))), (29, (si x2))]), (ft 15 31 (D.one (C.peek false [P.v (.int .i64 v7.Value.Kind), P.v (.int .i64 v7.Value.Int), P.v (.bool v7.Value.Bool), P.v (.string v7.Value.Text), P.sl v7.Refs.length (v7.Refs.flatMap e_str)])) [(27, (sb (!(v4.Path.toList == v5.Path.toList)))), (30, (D.one (C.peek false (p_api_Doc v7))))]), (ft 16 32 (D.agg (c_api_Value v7.Value)) [(27, (sb (!(v4.Path.toList == v5.Path.toList)))), (31, (D.one (C.peek false [P.v (.int .i64 v7.Value.Kind), P.v (.int .i64 v7.Value.Int), P.v (.bool v7.Value.Bool), P.v (.string v7.Value.Text), P.sl v7.Refs.length (v7.Refs.flatMap e_str)])))]), (ft 17 33 (D.one (C.p false (.sl a1.length (a1.flatMap e_api_Doc)))) [(1, (D.one (C.p false (.sl a1.length (a1.flatMap e_api_Doc))))), (27, (sb (!(v4.Path.toList == v5.Path.toList))))]), (ft 18 34 (si x2) [(5, (si x2)), (27, (sb (!(v4.Path.toList == v5.Path.toList))))]), (ft 19 35 (D.one (C.peek false (p_api_Doc v8))) [(27, (sb (!(v4.Path.toList == v5.Path.toList)))), (33, (D.one (C.p false (.sl a1.length (a1.flatMap e_api_Doc))))), (34, (si x2))]), (ft 20 36 (D.one (C.peek false [P.v (.int .i64 v8.Value.Kind), P.v (.int .i64 v8.Value.Int), P.v (.bool v8.Value.Bool), P.v (.string v8.Value.Text), P.sl v8.Refs.length (v8.Refs.flatMap e_str)])) [(27, (sb (!(v4.Path.toList == v5.Path.toList)))), (35, (D.one (C.peek false (p_api_Doc v8))))]), (ft 21 37 (D.agg (c_api_Value v8.Value)) [(27, (sb (!(v4.Path.toList == v5.Path.toList)))), (36, (D.one (C.peek false [P.v (.int .i64 v8.Value.Kind), P.v (.int .i64 v8.Value.Int), P.v (.bool v8.Value.Bool), P.v (.string v8.Value.Text), P.sl v8.Refs.length (v8.Refs.flatMap e_str)])))]), (ft 22 38 (sb (!((v7.Value.Kind == v8.Value.Kind) && ((v7.Value.Int == v8.Value.Int) && ((v7.Value.Bool == v8.Value.Bool) && ((v7.Value.Text.toList == v8.Value.Text.toList) && true)))))) [(27, (sb (!(v4.Path.toList == v5.Path.toList)))), (32, (D.agg (c_api_Value v7.Value))), (37, (D.agg (c_api_Value v8.Value)))]), (ft 23 39 (sb (!((v7.Value.Kind == v8.Value.Kind) && ((v7.Value.Int == v8.Value.Int) && ((v7.Value.Bool == v8.Value.Bool) && ((v7.Value.Text.toList == v8.Value.Text.toList) && true)))))) [(27, (sb (!(v4.Path.toList == v5.Path.toList)))), (38, (sb (!((v7.Value.Kind == v8.Value.Kind) && ((v7.Value.Int == v8.Value.Int) && ((v7.Value.Bool == v8.Value.Bool) && ((v7.Value.Text.toList == v8.Value.Text.toList) && true)))))))]), (ft 24 40 (sb (!((v7.Value.Kind == v8.Value.Kind) && ((v7.Value.Int == v8.Value.Int) && ((v7.Value.Bool == v8.Value.Bool) && ((v7.Value.Text.toList == v8.Value.Text.toList) && true)))))) [(39, (sb (!((v7.Value.Kind == v8.Value.Kind) && ((v7.Value.Int == v8.Value.Int) && ((v7.Value.Bool == v8.Value.Bool) && ((v7.Value.Text.toList == v8.Value.Text.toList) && true)))))))]), (ft 25 41 (D.one (C.p false (.sl a0.length (a0.flatMap e_api_Doc)))) [(0, (D.one (C.p false (.sl a0.length (a0.flatMap e_api_Doc))))), (40, (sb (!((v7.Value.Kind == v8.Value.Kind) && ((v7.Value.Int == v8.Value.Int) && ((v7.Value.Bool == v8.Value.Bool) && ((v7.Value.Text.toList == v8.Value.Text.toList) && true)))))))]), (ft 26 42 (si x2) [(5, (si x2)), (40, (sb (!((v7.Value.Kind == v8.Value.Kind) && ((v7.Value.Int == v8.Value.Int) && ((v7.Value.Bool == v8.Value.Bool) && ((v7.Value.Text.toList == v8.Value.Text.toList) && true)))))))]), (ft 27 43 (D.one (C.peek false (p_api_Doc v10))) [(40, (sb (!((v7.Value.Kind == v8.Value.Kind) && ((v7.Value.Int == v8.Value.Int) && ((v7.Value.Bool == v8.Value.Bool) && ((v7.Value.Text.toList == v8.Value.Text.toList) && true))))))), (41, (D.one (C.p false (.sl a0.length (a0.flatMap e_api_Doc))))), (42, (si x2))]), (ft 28 44 (D.one (C.peek false [P.sl v10.Refs.length (v10.Refs.flatMap e_str)])) [(40, (sb (!((v7.Value.Kind == v8.Value.Kind) && ((v7.Value.Int == v8.Value.Int) && ((v7.Value.Bool == v8.Value.Bool) && ((v7.Value.Text.toList == v8.Value.Text.toList) && true))))))), (43, (D.one (C.peek false (p_api_Doc v10))))]), (ft 29 45 (D.one (C.p false (.sl v10.Refs.length (v10.Refs.flatMap e_str)))) [(40, (sb (!((v7.Value.Kind == v8.Value.Kind) && ((v7.Value.Int == v8.Value.Int) && ((v7.Value.Bool == v8.Value.Bool) && ((v7.Value.Text.toList == v8.Value.Text.toList) && true))))))), (44, (D.one (C.peek false [P.sl v10.Refs.length (v10.Refs.flatMap e_str)])))]), (ft 30 46 (D.one (C.p false (.sl a1.length (a1.flatMap e_api_Doc)))) [(1, (D.one (C.p false (.sl a1.length (a1.flatMap e_api_Doc))))), (40, (sb (!((v7.Value.Kind == v8.Value.Kind) && ((v7.Value.Int == v8.Value.Int) && ((v7.Value.Bool == v8.Value.Bool) && ((v7.Value.Text.toList == v8.Value.Text.toList) && true)))))))]), (ft 31 47 (si x2) [(5, (si x2)), (40, (sb (!((v7.Value.Kind == v8.Value.Kind) && ((v7.Value.Int == v8.Value.Int) && ((v7.Value.Bool == v8.Value.Bool) && ((v7.Value.Text.toList == v8.Value.Text.toList) && true)))))))]), (ft 32 48 (D.one (C.peek false (p_api_Doc v11))) [(40, (sb (!((v7.Value.Kind == v8.Value.Kind) && ((v7.Value.Int == v8.Value.Int) && ((v7.Value.Bool == v8.Value.Bool) && ((v7.Value.Text.toList == v8.Value.Text.toList) && true))))))), (46, (D.one (C.p false (.sl a1.length (a1.flatMap e_api_Doc))))), (47, (si x2))]), (ft 33 49 (D.one (C.peek false [P.sl v11.Refs.length (v11.Refs.flatMap e_str)])) [(40, (sb (!((v7.Value.Kind == v8.Value.Kind) && ((v7.Value.Int == v8.Value.Int) && ((v7.Value.Bool == v8.Value.Bool) && ((v7.Value.Text.toList == v8.Value.Text.toList) && true))))))), (48, (D.one (C.peek false (p_api_Doc v11))))]), (ft 34 50 (D.one (C.p false (.sl v11.Refs.length (v11.Refs.flatMap e_str)))) [(40, (sb (!((v7.Value.Kind == v8.Value.Kind) && ((v7.Value.Int == v8.Value.Int) && ((v7.Value.Bool == v8.Value.Bool) && ((v7.Value.Text.toList == v8.Value.Text.toList) && true))))))), (49, (D.one (C.peek false [P.sl v11.Refs.length (v11.Refs.flatMap e_str)])))]), (ft 35 51 (sb r12) [(40, (sb (!((v7.Value.Kind == v8.Value.Kind) && ((v7.Value.Int == v8.Value.Int) && ((v7.Value.Bool == v8.Value.Bool) && ((v7.Value.Text.toList == v8.Value.Text.toList) && true))))))), (45, (D.one (C.p false (.sl v10.Refs.length (v10.Refs.flatMap e_str))))), (50, (D.one (C.p false (.sl v11.Refs.length (v11.Refs.flatMap e_str)))))]), (ft 36 52 (sb (!r12)) [(40, (sb (!((v7.Value.Kind == v8.Value.Kind) && ((v7.Value.Int == v8.Value.Int) && ((v7.Value.Bool == v8.Value.Bool) && ((v7.Value.Text.toList == v8.Value.Text.toList) && true))))))), (51, (sb r12))]), (ft 37 53 (sb (!r12)) [(40, (sb (!((v7.Value.Kind == v8.Value.Kind) && ((v7.Value.Int == v8.Value.Int) && ((v7.Value.Bool == v8.Value.Bool) && ((v7.Value.Text.toList == v8.Value.Text.toList) && true))))))), (52, (sb (!r12)))])] [[], [], [0, 1], [0, 1, 2], [0, 1, 2, 3], [], [], [5, 6], [5, 6, 7], [5, 6, 7, 8], (.range 10), (.range 11), (.range 12), (.range 12), (.range 14), (.range 15), (.range 16), (.range 12), (.range 12), (.range 12 ++ [17, 18]), (.range 12 ++ [17, 18, 19]), (.range 12 ++ [17, 18, 19, 20]), (.range 22), (.range 23), (.range 24), (.range 25), (.range 25), (.range 27), (.range 28), (.range 29), (.range 25), (.range 25), (.range 25 ++ [30, 31]), (.range 25 ++ [30, 31, 32]), (.range 25 ++ [30, 31, 32, 33]), (.range 35), (.range 36), (.range 37)] (nl rfl) [0, 0, 1, 2, 3, 0, 0, 1, 2, 3, 4, 5, 6, 6, 7, 8, 9, 6, 6, 7, 8, 9, 10, 11, 12, 13, 13, 14, 15, 16, 13, 13, 14, 15, 16, 17, 18, 19] rfl (TK := []) rfl AllK.nil' (by repeat (first | refine fC ⟨?_, ?_⟩ ?_ | refine sC rfl ?_ | refine hC rfl ?_ | trivial)) ?_ ?_
      ·refine (pC ?_ (pC ?_ (pC ?_ (pC ?_ (pC ?_ (pC ?_ (pC ?_ (pC ?_ (pC ?_ (pC ?_ (pC ?_ (pC ?_ (pC ?_ (pC ?_ (pC ?_ (pC ?_ (pC ?_ (pC ?_ (pC ?_ (pC ?_ (pC ?_ (pC ?_ (pC ?_ (pC ?_ (pC ?_ (pC ?_ (pC ?_ (pC ?_ (pC ?_ (pC ?_ (pC ?_ (pC ?_ (pC ?_ (pC ?_ (pC ?_ (pC ?_ (pC ?_ (pC ?_ AllStep.nil'))))))))))))))))))))))))))))))))))))))
       ·intro K rest fr hv htk k
        show AWops _ x _ _ K ⟨55, (upd 55 fr 0 (D.one (C.p false (.sl a0.length (a0.flatMap e_api_Doc))))), _⟩
        refine s_move (d := (D.one (C.p false (.sl a0.length (a0.flatMap e_api_Doc))))) rfl k
       ·intro K rest fr hv htk k
        show AWops _ x _ _ K ⟨55, (upd 55 fr 5 (si x2)), _⟩
        refine s_move (d := (si x2)) rfl k
       ·intro K rest fr hv htk k
        show AWops _ x _ _ K ⟨55, (upd 55 (upd 55 fr 17 (si x2)) 16 (D.one (C.p false (.sl a0.length (a0.flatMap e_api_Doc))))), [(hv 0)]⟩
        refine s_indexImm (ps := (p_api_Doc v4)) F.u_23 F.sz_39 rfl rfl pv4 qv4 (flat_at e_api_Doc_len gv4 (e_api_Doc_eq v4)) k
       ·intro K rest fr hv htk k
        show AWops _ x _ _ K ⟨55, (upd 55 fr 18 (D.one (C.peek false (p_api_Doc v4)))), [(hv 0)]⟩
        refine s_fieldPeek (qs := (p_api_Doc v4)) F.fo_39_0 (by decide) rfl rfl k
       ·intro K rest fr hv htk k
        show AWops _ x _ _ K ⟨55, (upd 55 fr 19 (D.one (C.peek false (p_api_Doc v4)))), [(hv 0)]⟩
        refine s_load1 (c' := (ct v4.Path)) F.ag_9 rfl rfl k
       ·intro K rest fr hv htk k
        show AWops _ x _ _ K ⟨55, (upd 55 fr 1 (D.one (C.p false (.sl a1.length (a1.flatMap e_api_Doc))))), _⟩
        refine s_move (d := (D.one (C.p false (.sl a1.length (a1.flatMap e_api_Doc))))) rfl k
       ·intro K rest fr hv htk k
        show AWops _ x _ _ K ⟨55, (upd 55 fr 5 (si x2)), _⟩
        refine s_move (d := (si x2)) rfl k
       ·intro K rest fr hv htk k
        show AWops _ x _ _ K ⟨55, (upd 55 (upd 55 fr 22 (si x2)) 21 (D.one (C.p false (.sl a1.length (a1.flatMap e_api_Doc))))), [(hv 0)]⟩
        refine s_indexImm (ps := (p_api_Doc v5)) F.u_23 F.sz_39 rfl rfl pv5 qv5 (flat_at e_api_Doc_len gv5 (e_api_Doc_eq v5)) k
       ·intro K rest fr hv htk k
        show AWops _ x _ _ K ⟨55, (upd 55 fr 23 (D.one (C.peek false (p_api_Doc v5)))), [(hv 0)]⟩
        refine s_fieldPeek (qs := (p_api_Doc v5)) F.fo_39_0 (by decide) rfl rfl k
       ·intro K rest fr hv htk k
        show AWops _ x _ _ K ⟨55, (upd 55 fr 24 (D.one (C.peek false (p_api_Doc v5)))), [(hv 0)]⟩
        refine s_load1 (c' := (ct v5.Path)) F.ag_9 rfl rfl k
       ·intro K rest fr hv htk k
        show AWops _ x _ _ K ⟨55, (upd 55 (upd 55 fr 25 (st_ v5.Path)) 20 (st_ v4.Path)), [(hv 0)]⟩
        refine s_binS (v := (.bool (!(v4.Path.toList == v5.Path.toList)))) rfl rfl rfl k
       ·intro K rest fr hv htk k
        show AWops _ x _ _ K ⟨55, (upd 55 fr 26 (sb (!(v4.Path.toList == v5.Path.toList)))), _⟩
        refine s_move (d := (sb (!(v4.Path.toList == v5.Path.toList)))) rfl k
       ·intro K rest fr hv htk k
        show AWops _ x _ _ K ⟨55, (upd 55 (upd 55 fr 27 (sb (!(v4.Path.toList == v5.Path.toList)))) 0 (D.one (C.p false (.sl a0.length (a0.flatMap e_api_Doc))))), _⟩
        refine AWops.guard_yes rfl (nl rfl) rfl (by rw [c6] <;> rfl) ?_
        refine s_move (d := (D.one (C.p false (.sl a0.length (a0.flatMap e_api_Doc))))) rfl k
       ·intro K rest fr hv htk k
        show AWops _ x _ _ K ⟨55, (upd 55 (upd 55 fr 27 (sb (!(v4.Path.toList == v5.Path.toList)))) 5 (si x2)), _⟩
        refine AWops.guard_yes rfl (nl rfl) rfl (by rw [c6] <;> rfl) ?_
        refine s_move (d := (si x2)) rfl k
       ·intro K rest fr hv htk k
        show AWops _ x _ _ K ⟨55, (upd 55 (upd 55 (upd 55 fr 29 (si x2)) 28 (D.one (C.p false (.sl a0.length (a0.flatMap e_api_Doc))))) 27 (sb (!(v4.Path.toList == v5.Path.toList)))), [(hv 0)]⟩
        refine AWops.guard_yes rfl (nl rfl) rfl (by rw [c6] <;> rfl) ?_
        refine s_indexImm (ps := (p_api_Doc v7)) F.u_23 F.sz_39 rfl rfl pv7 qv7 (flat_at e_api_Doc_len gv7 (e_api_Doc_eq v7)) k
       ·intro K rest fr hv htk k
        show AWops _ x _ _ K ⟨55, (upd 55 (upd 55 fr 30 (D.one (C.peek false (p_api_Doc v7)))) 27 (sb (!(v4.Path.toList == v5.Path.toList)))), [(hv 0)]⟩
        refine AWops.guard_yes rfl (nl rfl) rfl (by rw [c6] <;> rfl) ?_
        refine s_fieldPeek (qs := [P.v (.int .i64 v7.Value.Kind), P.v (.int .i64 v7.Value.Int), P.v (.bool v7.Value.Bool), P.v (.string v7.Value.Text), P.sl v7.Refs.length (v7.Refs.flatMap e_str)]) F.fo_39_1 (by decide) rfl rfl k
       ·intro K rest fr hv htk k
        show AWops _ x _ _ K ⟨55, (upd 55 (upd 55 fr 31 (D.one (C.peek false [P.v (.int .i64 v7.Value.Kind), P.v (.int .i64 v7.Value.Int), P.v (.bool v7.Value.Bool), P.v (.string v7.Value.Text), P.sl v7.Refs.length (v7.Refs.flatMap e_str)]))) 27 (sb (!(v4.Path.toList == v5.Path.toList)))), [(hv 0)]⟩
        refine AWops.guard_yes rfl (nl rfl) rfl (by rw [c6] <;> rfl) ?_
        refine s_loadN (ds := (c_api_Value v7.Value)) F.ag_36 F.sz_36 rfl rfl rfl k
       ·intro K rest fr hv htk k
        show AWops _ x _ _ K ⟨55, (upd 55 (upd 55 fr 27 (sb (!(v4.Path.toList == v5.Path.toList)))) 1 (D.one (C.p false (.sl a1.length (a1.flatMap e_api_Doc))))), _⟩
        refine AWops.guard_yes rfl (nl rfl) rfl (by rw [c6] <;> rfl) ?_
        refine s_move (d := (D.one (C.p false (.sl a1.length (a1.flatMap e_api_Doc))))) rfl k
       ·intro K rest fr hv htk k
        show AWops _ x _ _ K ⟨55, (upd 55 (upd 55 fr 27 (sb (!(v4.Path.toList == v5.Path.toList)))) 5 (si x2)), _⟩
        refine AWops.guard_yes rfl (nl rfl) rfl (by rw [c6] <;> rfl) ?_
        refine s_move (d := (si x2)) rfl k
       ·intro K rest fr hv htk k
        show AWops _ x _ _ K ⟨55, (upd 55 (upd 55 (upd 55 fr 34 (si x2)) 33 (D.one (C.p false (.sl a1.length (a1.flatMap e_api_Doc))))) 27 (sb (!(v4.Path.toList == v5.Path.toList)))), [(hv 0)]⟩
        refine AWops.guard_yes rfl (nl rfl) rfl (by rw [c6] <;> rfl) ?_
        refine s_indexImm (ps := (p_api_Doc v8)) F.u_23 F.sz_39 rfl rfl pv8 qv8 (flat_at e_api_Doc_len gv8 (e_api_Doc_eq v8)) k
       ·intro K rest fr hv htk k
        show AWops _ x _ _ K ⟨55, (upd 55 (upd 55 fr 35 (D.one (C.peek false (p_api_Doc v8)))) 27 (sb (!(v4.Path.toList == v5.Path.toList)))), [(hv 0)]⟩
        refine AWops.guard_yes rfl (nl rfl) rfl (by rw [c6] <;> rfl) ?_
        refine s_fieldPeek (qs := [P.v (.int .i64 v8.Value.Kind), P.v (.int .i64 v8.Value.Int), P.v (.bool v8.Value.Bool), P.v (.string v8.Value.Text), P.sl v8.Refs.length (v8.Refs.flatMap e_str)]) F.fo_39_1 (by decide) rfl rfl k
       ·intro K rest fr hv htk k
        show AWops _ x _ _ K ⟨55, (upd 55 (upd 55 fr 36 (D.one (C.peek false [P.v (.int .i64 v8.Value.Kind), P.v (.int .i64 v8.Value.Int), P.v (.bool v8.Value.Bool), P.v (.string v8.Value.Text), P.sl v8.Refs.length (v8.Refs.flatMap e_str)]))) 27 (sb (!(v4.Path.toList == v5.Path.toList)))), [(hv 0)]⟩
        refine AWops.guard_yes rfl (nl rfl) rfl (by rw [c6] <;> rfl) ?_
        refine s_loadN (ds := (c_api_Value v8.Value)) F.ag_36 F.sz_36 rfl rfl rfl k
       ·intro K rest fr hv htk k
        show AWops _ x _ _ K ⟨55, (upd 55 (upd 55 (upd 55 fr 37 (D.agg (c_api_Value v8.Value))) 32 (D.agg (c_api_Value v7.Value))) 27 (sb (!(v4.Path.toList == v5.Path.toList)))), [(hv 0)]⟩
        refine AWops.guard_yes rfl (nl rfl) rfl (by rw [c6] <;> rfl) ?_
        refine s_binA (b := ((v7.Value.Kind == v8.Value.Kind) && ((v7.Value.Int == v8.Value.Int) && ((v7.Value.Bool == v8.Value.Bool) && ((v7.Value.Text.toList == v8.Value.Text.toList) && true))))) F.ff_36 rfl rfl rfl (.inr rfl) k
       ·intro K rest fr hv htk k
        show AWops _ x _ _ K ⟨55, (upd 55 (upd 55 fr 38 (sb (!((v7.Value.Kind == v8.Value.Kind) && ((v7.Value.Int == v8.Value.Int) && ((v7.Value.Bool == v8.Value.Bool) && ((v7.Value.Text.toList == v8.Value.Text.toList) && true))))))) 27 (sb (!(v4.Path.toList == v5.Path.toList)))), _⟩
        refine s_pick_no (d := (sb (!((v7.Value.Kind == v8.Value.Kind) && ((v7.Value.Int == v8.Value.Int) && ((v7.Value.Bool == v8.Value.Bool) && ((v7.Value.Text.toList == v8.Value.Text.toList) && true))))))) rfl (by rw [c6] <;> rfl) rfl k
       ·intro K rest fr hv htk k
        show AWops _ x _ _ K ⟨55, (upd 55 fr 39 (sb (!((v7.Value.Kind == v8.Value.Kind) && ((v7.Value.Int == v8.Value.Int) && ((v7.Value.Bool == v8.Value.Bool) && ((v7.Value.Text.toList == v8.Value.Text.toList) && true))))))), _⟩
        refine s_move (d := (sb (!((v7.Value.Kind == v8.Value.Kind) && ((v7.Value.Int == v8.Value.Int) && ((v7.Value.Bool == v8.Value.Bool) && ((v7.Value.Text.toList == v8.Value.Text.toList) && true))))))) rfl k
       ·intro K rest fr hv htk k
        show AWops _ x _ _ K ⟨55, (upd 55 (upd 55 fr 40 (sb (!((v7.Value.Kind == v8.Value.Kind) && ((v7.Value.Int == v8.Value.Int) && ((v7.Value.Bool == v8.Value.Bool) && ((v7.Value.Text.toList == v8.Value.Text.toList) && true))))))) 0 (D.one (C.p false (.sl a0.length (a0.flatMap e_api_Doc))))), _⟩
        refine AWops.guard_yes rfl (nl rfl) rfl (by rw [c9] <;> rfl) ?_
        refine s_move (d := (D.one (C.p false (.sl a0.length (a0.flatMap e_api_Doc))))) rfl k
       ·intro K rest fr hv htk k
        show AWops _ x _ _ K ⟨55, (upd 55 (upd 55 fr 40 (sb (!((v7.Value.Kind == v8.Value.Kind) && ((v7.Value.Int == v8.Value.Int) && ((v7.Value.Bool == v8.Value.Bool) && ((v7.Value.Text.toList == v8.Value.Text.toList) && true))))))) 5 (si x2)), _⟩
        refine AWops.guard_yes rfl (nl rfl) rfl (by rw [c9] <;> rfl) ?_
        refine s_move (d := (si x2)) rfl k
       ·intro K rest fr hv htk k
        show AWops _ x _ _ K ⟨55, (upd 55 (upd 55 (upd 55 fr 42 (si x2)) 41 (D.one (C.p false (.sl a0.length (a0.flatMap e_api_Doc))))) 40 (sb (!((v7.Value.Kind == v8.Value.Kind) && ((v7.Value.Int == v8.Value.Int) && ((v7.Value.Bool == v8.Value.Bool) && ((v7.Value.Text.toList == v8.Value.Text.toList) && true))))))), [(hv 0)]⟩
        refine AWops.guard_yes rfl (nl rfl) rfl (by rw [c9] <;> rfl) ?_
        refine s_indexImm (ps := (p_api_Doc v10)) F.u_23 F.sz_39 rfl rfl pv10 qv10 (flat_at e_api_Doc_len gv10 (e_api_Doc_eq v10)) k
       ·intro K rest fr hv htk k
        show AWops _ x _ _ K ⟨55, (upd 55 (upd 55 fr 43 (D.one (C.peek false (p_api_Doc v10)))) 40 (sb (!((v7.Value.Kind == v8.Value.Kind) && ((v7.Value.Int == v8.Value.Int) && ((v7.Value.Bool == v8.Value.Bool) && ((v7.Value.Text.toList == v8.Value.Text.toList) && true))))))), [(hv 0)]⟩
        refine AWops.guard_yes rfl (nl rfl) rfl (by rw [c9] <;> rfl) ?_
        refine s_fieldPeek (qs := [P.sl v10.Refs.length (v10.Refs.flatMap e_str)]) F.fo_39_2 (by decide) rfl rfl k
       ·intro K rest fr hv htk k
        show AWops _ x _ _ K ⟨55, (upd 55 (upd 55 fr 44 (D.one (C.peek false [P.sl v10.Refs.length (v10.Refs.flatMap e_str)]))) 40 (sb (!((v7.Value.Kind == v8.Value.Kind) && ((v7.Value.Int == v8.Value.Int) && ((v7.Value.Bool == v8.Value.Bool) && ((v7.Value.Text.toList == v8.Value.Text.toList) && true))))))), [(hv 0)]⟩
        refine AWops.guard_yes rfl (nl rfl) rfl (by rw [c9] <;> rfl) ?_
        refine s_load1 (c' := (C.p false (.sl v10.Refs.length (v10.Refs.flatMap e_str)))) F.ag_37 rfl rfl k
       ·intro K rest fr hv htk k
        show AWops _ x _ _ K ⟨55, (upd 55 (upd 55 fr 40 (sb (!((v7.Value.Kind == v8.Value.Kind) && ((v7.Value.Int == v8.Value.Int) && ((v7.Value.Bool == v8.Value.Bool) && ((v7.Value.Text.toList == v8.Value.Text.toList) && true))))))) 1 (D.one (C.p false (.sl a1.length (a1.flatMap e_api_Doc))))), _⟩
        refine AWops.guard_yes rfl (nl rfl) rfl (by rw [c9] <;> rfl) ?_
        refine s_move (d := (D.one (C.p false (.sl a1.length (a1.flatMap e_api_Doc))))) rfl k
       ·intro K rest fr hv htk k
        show AWops _ x _ _ K ⟨55, (upd 55 (upd 55 fr 40 (sb (!((v7.Value.Kind == v8.Value.Kind) && ((v7.Value.Int == v8.Value.Int) && ((v7.Value.Bool == v8.Value.Bool) && ((v7.Value.Text.toList == v8.Value.Text.toList) && true))))))) 5 (si x2)), _⟩
        refine AWops.guard_yes rfl (nl rfl) rfl (by rw [c9] <;> rfl) ?_
        refine s_move (d := (si x2)) rfl k
       ·intro K rest fr hv htk k
        show AWops _ x _ _ K ⟨55, (upd 55 (upd 55 (upd 55 fr 47 (si x2)) 46 (D.one (C.p false (.sl a1.length (a1.flatMap e_api_Doc))))) 40 (sb (!((v7.Value.Kind == v8.Value.Kind) && ((v7.Value.Int == v8.Value.Int) && ((v7.Value.Bool == v8.Value.Bool) && ((v7.Value.Text.toList == v8.Value.Text.toList) && true))))))), [(hv 0)]⟩
        refine AWops.guard_yes rfl (nl rfl) rfl (by rw [c9] <;> rfl) ?_
        refine s_indexImm (ps := (p_api_Doc v11)) F.u_23 F.sz_39 rfl rfl pv11 qv11 (flat_at e_api_Doc_len gv11 (e_api_Doc_eq v11)) k
       ·intro K rest fr hv htk k
        show AWops _ x _ _ K ⟨55, (upd 55 (upd 55 fr 48 (D.one (C.peek false (p_api_Doc v11)))) 40 (sb (!((v7.Value.Kind == v8.Value.Kind) && ((v7.Value.Int == v8.Value.Int) && ((v7.Value.Bool == v8.Value.Bool) && ((v7.Value.Text.toList == v8.Value.Text.toList) && true))))))), [(hv 0)]⟩
        refine AWops.guard_yes rfl (nl rfl) rfl (by rw [c9] <;> rfl) ?_
        refine s_fieldPeek (qs := [P.sl v11.Refs.length (v11.Refs.flatMap e_str)]) F.fo_39_2 (by decide) rfl rfl k
       ·intro K rest fr hv htk k
        show AWops _ x _ _ K ⟨55, (upd 55 (upd 55 fr 49 (D.one (C.peek false [P.sl v11.Refs.length (v11.Refs.flatMap e_str)]))) 40 (sb (!((v7.Value.Kind == v8.Value.Kind) && ((v7.Value.Int == v8.Value.Int) && ((v7.Value.Bool == v8.Value.Bool) && ((v7.Value.Text.toList == v8.Value.Text.toList) && true))))))), [(hv 0)]⟩
        refine AWops.guard_yes rfl (nl rfl) rfl (by rw [c9] <;> rfl) ?_
        refine s_load1 (c' := (C.p false (.sl v11.Refs.length (v11.Refs.flatMap e_str)))) F.ag_37 rfl rfl k
       ·intro K rest fr hv htk k
        show AWops _ x _ _ K ⟨55, (upd 55 (upd 55 (upd 55 fr 50 (D.one (C.p false (.sl v11.Refs.length (v11.Refs.flatMap e_str))))) 45 (D.one (C.p false (.sl v10.Refs.length (v10.Refs.flatMap e_str))))) 40 (sb (!((v7.Value.Kind == v8.Value.Kind) && ((v7.Value.Int == v8.Value.Int) && ((v7.Value.Bool == v8.Value.Bool) && ((v7.Value.Text.toList == v8.Value.Text.toList) && true))))))), [(hv 0)]⟩
        refine AWops.guard_yes rfl (nl rfl) rfl (by rw [c9] <;> rfl) ?_
        refine cc [] [(hv 0)] (sb r12) F.ca_41 rfl rfl (ac (.one .imm) (ac (.one .imm) an)) an (dossierref12_SameTexts.meets _ v10.Refs v11.Refs r12 er12) k
       ·intro K rest fr hv htk k
        show AWops _ x _ _ K ⟨55, (upd 55 (upd 55 fr 51 (sb r12)) 40 (sb (!((v7.Value.Kind == v8.Value.Kind) && ((v7.Value.Int == v8.Value.Int) && ((v7.Value.Bool == v8.Value.Bool) && ((v7.Value.Text.toList == v8.Value.Text.toList) && true))))))), [(hv 0)]⟩
        refine AWops.guard_yes rfl (nl rfl) rfl (by rw [c9] <;> rfl) ?_
        refine s_not rfl k
       ·intro K rest fr hv htk k
        show AWops _ x _ _ K ⟨55, (upd 55 (upd 55 fr 52 (sb (!r12))) 40 (sb (!((v7.Value.Kind == v8.Value.Kind) && ((v7.Value.Int == v8.Value.Int) && ((v7.Value.Bool == v8.Value.Bool) && ((v7.Value.Text.toList == v8.Value.Text.toList) && true))))))), _⟩
        refine s_pick_no (d := (sb (!r12))) rfl (by rw [c9] <;> rfl) rfl k
      ·refine AWops.weak (st' := ⟨55, (upd 55 (upd 55 (upd 55 (upd 55 (upd 55 (upd 55 (upd 55 (upd 55 (upd 55 (upd 55 (upd 55 (upd 55 (upd 55 (upd 55 (upd 55 (upd 55 (upd 55 (upd 55 (upd 55 (upd 55 (upd 55 (upd 55 (upd 55 (upd 55 (upd 55 (upd 55 (upd 55 (upd 55 topF 0 (D.one (C.p false (.sl a0.length (a0.flatMap e_api_Doc))))) 1 (D.one (C.p false (.sl a1.length (a1.flatMap e_api_Doc))))) 12 (si (a0.length : Int))) 13 (si x2)) 28 (D.one (C.p false (.sl a0.length (a0.flatMap e_api_Doc))))) 29 (si x2)) 30 (D.one (C.peek false (p_api_Doc v7)))) 31 (D.one (C.peek false [P.v (.int .i64 v7.Value.Kind), P.v (.int .i64 v7.Value.Int), P.v (.bool v7.Value.Bool), P.v (.string v7.Value.Text), P.sl v7.Refs.length (v7.Refs.flatMap e_str)]))) 32 (D.agg (c_api_Value v7.Value))) 33 (D.one (C.p false (.sl a1.length (a1.flatMap e_api_Doc))))) 34 (si x2)) 35 (D.one (C.peek false (p_api_Doc v8)))) 36 (D.one (C.peek false [P.v (.int .i64 v8.Value.Kind), P.v (.int .i64 v8.Value.Int), P.v (.bool v8.Value.Bool), P.v (.string v8.Value.Text), P.sl v8.Refs.length (v8.Refs.flatMap e_str)]))) 37 (D.agg (c_api_Value v8.Value))) 38 (sb (!((v7.Value.Kind == v8.Value.Kind) && ((v7.Value.Int == v8.Value.Int) && ((v7.Value.Bool == v8.Value.Bool) && ((v7.Value.Text.toList == v8.Value.Text.toList) && true))))))) 41 (D.one (C.p false (.sl a0.length (a0.flatMap e_api_Doc))))) 42 (si x2)) 43 (D.one (C.peek false (p_api_Doc v10)))) 44 (D.one (C.peek false [P.sl v10.Refs.length (v10.Refs.flatMap e_str)]))) 45 (D.one (C.p false (.sl v10.Refs.length (v10.Refs.flatMap e_str))))) 46 (D.one (C.p false (.sl a1.length (a1.flatMap e_api_Doc))))) 47 (si x2)) 48 (D.one (C.peek false (p_api_Doc v11)))) 49 (D.one (C.peek false [P.sl v11.Refs.length (v11.Refs.flatMap e_str)]))) 50 (D.one (C.p false (.sl v11.Refs.length (v11.Refs.flatMap e_str))))) 51 (sb r12)) 52 (sb (!r12))) 53 (sb (!r12))), []⟩) (wg 0 [] [] hx (le_upd (le_upd (le_upd (le_upd (le_upd (le_upd (le_upd (le_upd (le_upd (le_upd (le_upd (le_upd (le_upd (le_upd (le_upd (le_upd (le_upd (le_upd (le_upd (le_upd (le_upd (le_upd (le_upd (le_upd (le_upd (le_upd (le_upd (le_upd (le_top _) (o1 .same)) (o1 .same)) (o1 .sc)) (o1 .sc)) (o1 .same)) (o1 .sc)) (o1 .peek)) (o1 .peek)) (.t (.agg (ac .sc (ac .sc (ac .sc (ac .sc an))))))) (o1 .same)) (o1 .sc)) (o1 .peek)) (o1 .peek)) (.t (.agg (ac .sc (ac .sc (ac .sc (ac .sc an))))))) (o1 .sc)) (o1 .same)) (o1 .sc)) (o1 .peek)) (o1 .peek)) (o1 .same)) (o1 .same)) (o1 .sc)) (o1 .peek)) (o1 .peek)) (o1 .same)) (o1 .sc)) (o1 .sc)) (o1 .sc)) an) (AWops.nil ?_)
       rcases itH h with ⟨c13, h⟩ | ⟨c13, h⟩
       ·refine AW.cond_no rfl (by rw [c13] <;> rfl) (AW.skip (AW.region ?_))
        refine s_binI (v := (.int .i64 (IntKind.i64.wrap (x2 + 1)))) rfl rfl rfl (s_move (d := (si (IntKind.i64.wrap (x2 + 1)))) rfl (AWops.nil ?_))
        exact ⟨_, ⟨55, (upd 55 (upd 55 (upd 55 (upd 55 topF 0 (D.one (C.p false (.sl a0.length (a0.flatMap e_api_Doc))))) 1 (D.one (C.p false (.sl a1.length (a1.flatMap e_api_Doc))))) 12 (si (a0.length : Int))) 13 (si (IntKind.i64.wrap (x2 + 1)))), []⟩, by omega, (wg 0 [] [] hx (le_upd (le_upd (le_upd (le_upd (le_top _) (o1 .same)) (o1 .same)) (o1 .sc)) (o1 .sc)) an), by omega, IntKind.i64.wrap (x2 + 1), h, rfl⟩
       ·refine AW.cond_yes rfl (by rw [c13] <;> rfl) (AW.seq (AW.region ?_))
        refine s_assign (d := (sb false)) rfl (AWops.nil (AW.ret ?_))
        obtain rfl := Option.some.inj h
        exact ⟨_, rfl, (wg 0 [] [] rfl (le_upd (le_top _) (o1 .sc)) an)⟩
     ·refine AW.draw (n := 55) (L := 1) [(ft 0 16 (D.one (C.p false (.sl a0.length (a0.flatMap e_api_Doc)))) [(0, (D.one (C.p false (.sl a0.length (a0.flatMap e_api_Doc)))))]), (ft 1 17 (si x2) [(5, (si x2))]), (ft 2 18 (D.one (C.peek false (p_api_Doc v4))) [(16, (D.one (C.p false (.sl a0.length (a0.flatMap e_api_Doc))))), (17, (si x2))]), (ft 3 19 (D.one (C.peek false (p_api_Doc v4))) [(18, (D.one (C.peek false (p_api_Doc v4))))]), (ft 4 20 (st_ v4.Path) [(19, (D.one (C.peek false (p_api_Doc v4))))]), (ft 5 21 (D.one (C.p false (.sl a1.length (a1.flatMap e_api_Doc)))) [(1, (D.one (C.p false (.sl a1.length (a1.flatMap e_api_Doc)))))]), (ft 6 22 (si x2) [(5, (si x2))]), (ft 7 23 (D.one (C.peek false (p_api_Doc v5))) [(21, (D.one (C.p false (.sl a1.length (a1.flatMap e_api_Doc))))), (22, (si x2))]), (ft 8 24 (D.one (C.peek false (p_api_Doc v5))) [(23, (D.one (C.peek false (p_api_Doc v5))))]), (ft 9 25 (st_ v5.Path) [(24, (D.one (C.peek false (p_api_Doc v5))))]), (ft 10 26 (sb (!(v4.Path.toList == v5.Path.toList))) [(20, (st_ v4.Path)), (25, (st_ v5.Path))]), (ft 11 27 (sb (!(v4.Path.toList == v5.Path.toList))) [(26, (sb (!(v4.Path.toList == v5.Path.toList))))]), (ft 12 28 (D.one (C.p false (.sl a0.length (a0.flatMap e_api_Doc)))) [(0, (D.one (C.p false (.sl a0.length (a0.flatMap e_api_Doc))))), (27, (sb (!(v4.Path.toList == v5.Path.toList))))]), (ft 13 29 (si x2) [(5, (si x2)), (27, (sb (!(v4.Path.toList == v5.Path.toList))))]), (ft 14 30 (D.one (C.peek false (p_api_Doc v7))) [(27, (sb (!(v4.Path.toList == v5.Path.toList)))), (28, (D.one (C.p false (.sl a0.length (a0.flatMap e_api_Doc))))), (29, (si x2))]), (ft 15 31 (D.one (C.peek false [P.v (.int .i64 v7.Value.Kind), P.v (.int .i64 v7.Value.Int), P.v (.bool v7.Value.Bool), P.v (.string v7.Value.Text), P.sl v7.Refs.length (v7.Refs.flatMap e_str)])) [(27, (sb (!(v4.Path.toList == v5.Path.toList)))), (30, (D.one (C.peek false (p_api_Doc v7))))]), (ft 16 32 (D.agg (c_api_Value v7.Value)) [(27, (sb (!(v4.Path.toList == v5.Path.toList)))), (31, (D.one (C.peek false [P.v (.int .i64 v7.Value.Kind), P.v (.int .i64 v7.Value.Int), P.v (.bool v7.Value.Bool), P.v (.string v7.Value.Text), P.sl v7.Refs.length (v7.Refs.flatMap e_str)])))]), (ft 17 33 (D.one (C.p false (.sl a1.length (a1.flatMap e_api_Doc)))) [(1, (D.one (C.p false (.sl a1.length (a1.flatMap e_api_Doc))))), (27, (sb (!(v4.Path.toList == v5.Path.toList))))]), (ft 18 34 (si x2) [(5, (si x2)), (27, (sb (!(v4.Path.toList == v5.Path.toList))))]), (ft 19 35 (D.one (C.peek false (p_api_Doc v8))) [(27, (sb (!(v4.Path.toList == v5.Path.toList)))), (33, (D.one (C.p false (.sl a1.length (a1.flatMap e_api_Doc))))), (34, (si x2))]), (ft 20 36 (D.one (C.peek false [P.v (.int .i64 v8.Value.Kind), P.v (.int .i64 v8.Value.Int), P.v (.bool v8.Value.Bool), P.v (.string v8.Value.Text), P.sl v8.Refs.length (v8.Refs.flatMap e_str)])) [(27, (sb (!(v4.Path.toList == v5.Path.toList)))), (35, (D.one (C.peek false (p_api_Doc v8))))]), (ft 21 37 (D.agg (c_api_Value v8.Value)) [(27, (sb (!(v4.Path.toList == v5.Path.toList)))), (36, (D.one (C.peek false [P.v (.int .i64 v8.Value.Kind), P.v (.int .i64 v8.Value.Int), P.v (.bool v8.Value.Bool), P.v (.string v8.Value.Text), P.sl v8.Refs.length (v8.Refs.flatMap e_str)])))]), (ft 22 38 (sb (!((v7.Value.Kind == v8.Value.Kind) && ((v7.Value.Int == v8.Value.Int) && ((v7.Value.Bool == v8.Value.Bool) && ((v7.Value.Text.toList == v8.Value.Text.toList) && true)))))) [(27, (sb (!(v4.Path.toList == v5.Path.toList)))), (32, (D.agg (c_api_Value v7.Value))), (37, (D.agg (c_api_Value v8.Value)))]), (ft 23 39 (sb (!((v7.Value.Kind == v8.Value.Kind) && ((v7.Value.Int == v8.Value.Int) && ((v7.Value.Bool == v8.Value.Bool) && ((v7.Value.Text.toList == v8.Value.Text.toList) && true)))))) [(27, (sb (!(v4.Path.toList == v5.Path.toList)))), (38, (sb (!((v7.Value.Kind == v8.Value.Kind) && ((v7.Value.Int == v8.Value.Int) && ((v7.Value.Bool == v8.Value.Bool) && ((v7.Value.Text.toList == v8.Value.Text.toList) && true)))))))]), (ft 24 40 (sb (!((v7.Value.Kind == v8.Value.Kind) && ((v7.Value.Int == v8.Value.Int) && ((v7.Value.Bool == v8.Value.Bool) && ((v7.Value.Text.toList == v8.Value.Text.toList) && true)))))) [(39, (sb (!((v7.Value.Kind == v8.Value.Kind) && ((v7.Value.Int == v8.Value.Int) && ((v7.Value.Bool == v8.Value.Bool) && ((v7.Value.Text.toList == v8.Value.Text.toList) && true)))))))]), (ft 25 41 (D.tup []) [(0, (D.one (C.p false (.sl a0.length (a0.flatMap e_api_Doc))))), (40, (sb (!((v7.Value.Kind == v8.Value.Kind) && ((v7.Value.Int == v8.Value.Int) && ((v7.Value.Bool == v8.Value.Bool) && ((v7.Value.Text.toList == v8.Value.Text.toList) && true)))))))]), (ft 26 42 (D.tup []) [(40, (sb (!((v7.Value.Kind == v8.Value.Kind) && ((v7.Value.Int == v8.Value.Int) && ((v7.Value.Bool == v8.Value.Bool) && ((v7.Value.Text.toList == v8.Value.Text.toList) && true)))))))]), (ft 27 43 (D.tup []) [(40, (sb (!((v7.Value.Kind == v8.Value.Kind) && ((v7.Value.Int == v8.Value.Int) && ((v7.Value.Bool == v8.Value.Bool) && ((v7.Value.Text.toList == v8.Value.Text.toList) && true)))))))]), (ft 28 44 (D.tup []) [(40, (sb (!((v7.Value.Kind == v8.Value.Kind) && ((v7.Value.Int == v8.Value.Int) && ((v7.Value.Bool == v8.Value.Bool) && ((v7.Value.Text.toList == v8.Value.Text.toList) && true)))))))]), (ft 29 45 (D.tup []) [(40, (sb (!((v7.Value.Kind == v8.Value.Kind) && ((v7.Value.Int == v8.Value.Int) && ((v7.Value.Bool == v8.Value.Bool) && ((v7.Value.Text.toList == v8.Value.Text.toList) && true)))))))]), (ft 30 46 (D.tup []) [(40, (sb (!((v7.Value.Kind == v8.Value.Kind) && ((v7.Value.Int == v8.Value.Int) && ((v7.Value.Bool == v8.Value.Bool) && ((v7.Value.Text.toList == v8.Value.Text.toList) && true)))))))]), (ft 31 47 (D.tup []) [(40, (sb (!((v7.Value.Kind == v8.Value.Kind) && ((v7.Value.Int == v8.Value.Int) && ((v7.Value.Bool == v8.Value.Bool) && ((v7.Value.Text.toList == v8.Value.Text.toList) && true)))))))]), (ft 32 48 (D.tup []) [(40, (sb (!((v7.Value.Kind == v8.Value.Kind) && ((v7.Value.Int == v8.Value.Int) && ((v7.Value.Bool == v8.Value.Bool) && ((v7.Value.Text.toList == v8.Value.Text.toList) && true)))))))]), (ft 33 49 (D.tup []) [(40, (sb (!((v7.Value.Kind == v8.Value.Kind) && ((v7.Value.Int == v8.Value.Int) && ((v7.Value.Bool == v8.Value.Bool) && ((v7.Value.Text.toList == v8.Value.Text.toList) && true)))))))]), (ft 34 50 (D.tup []) [(40, (sb (!((v7.Value.Kind == v8.Value.Kind) && ((v7.Value.Int == v8.Value.Int) && ((v7.Value.Bool == v8.Value.Bool) && ((v7.Value.Text.toList == v8.Value.Text.toList) && true)))))))]), (ft 35 51 (D.tup []) [(40, (sb (!((v7.Value.Kind == v8.Value.Kind) && ((v7.Value.Int == v8.Value.Int) && ((v7.Value.Bool == v8.Value.Bool) && ((v7.Value.Text.toList == v8.Value.Text.toList) && true)))))))]), (ft 36 52 (D.tup []) [(40, (sb (!((v7.Value.Kind == v8.Value.Kind) && ((v7.Value.Int == v8.Value.Int) && ((v7.Value.Bool == v8.Value.Bool) && ((v7.Value.Text.toList == v8.Value.Text.toList) && true)))))))]), (ft 37 53 (sb true) [(40, (sb (!((v7.Value.Kind == v8.Value.Kind) && ((v7.Value.Int == v8.Value.Int) && ((v7.Value.Bool == v8.Value.Bool) && ((v7.Value.Text.toList == v8.Value.Text.toList) && true)))))))])] [[], [], [0, 1], [0, 1, 2], [0, 1, 2, 3], [], [], [5, 6], [5, 6, 7], [5, 6, 7, 8], (.range 10), (.range 11), (.range 12), (.range 12), (.range 14), (.range 15), (.range 16), (.range 12), (.range 12), (.range 12 ++ [17, 18]), (.range 12 ++ [17, 18, 19]), (.range 12 ++ [17, 18, 19, 20]), (.range 22), (.range 23), (.range 24), (.range 25), (.range 25), (.range 27), (.range 28), (.range 29), (.range 25), (.range 25), (.range 25 ++ [30, 31]), (.range 25 ++ [30, 31, 32]), (.range 25 ++ [30, 31, 32, 33]), (.range 35), (.range 36), (.range 37)] (nl rfl) [0, 0, 1, 2, 3, 0, 0, 1, 2, 3, 4, 5, 6, 6, 7, 8, 9, 6, 6, 7, 8, 9, 10, 11, 12, 13, 13, 14, 15, 16, 13, 13, 14, 15, 16, 17, 18, 19] rfl (TK := []) rfl AllK.nil' (by repeat (first | refine fC ⟨?_, ?_⟩ ?_ | refine sC rfl ?_ | refine hC rfl ?_ | trivial)) ?_ ?_
      ·refine (pC ?_ (pC ?_ (pC ?_ (pC ?_ (pC ?_ (pC ?_ (pC ?_ (pC ?_ (pC ?_ (pC ?_ (pC ?_ (pC ?_ (pC ?_ (pC ?_ (pC ?_ (pC ?_ (pC ?_ (pC ?_ (pC ?_ (pC ?_ (pC ?_ (pC ?_ (pC ?_ (pC ?_ (pC ?_ (pC ?_ (pC ?_ (pC ?_ (pC ?_ (pC ?_ (pC ?_ (pC ?_ (pC ?_ (pC ?_ (pC ?_ (pC ?_ (pC ?_ (pC ?_ AllStep.nil'))))))))))))))))))))))))))))))))))))))
       ·intro K rest fr hv htk k
        show AWops _ x _ _ K ⟨55, (upd 55 fr 0 (D.one (C.p false (.sl a0.length (a0.flatMap e_api_Doc))))), _⟩
        refine s_move (d := (D.one (C.p false (.sl a0.length (a0.flatMap e_api_Doc))))) rfl k
       ·intro K rest fr hv htk k
        show AWops _ x _ _ K ⟨55, (upd 55 fr 5 (si x2)), _⟩
        refine s_move (d := (si x2)) rfl k
       ·intro K rest fr hv htk k
        show AWops _ x _ _ K ⟨55, (upd 55 (upd 55 fr 17 (si x2)) 16 (D.one (C.p false (.sl a0.length (a0.flatMap e_api_Doc))))), [(hv 0)]⟩
        refine s_indexImm (ps := (p_api_Doc v4)) F.u_23 F.sz_39 rfl rfl pv4 qv4 (flat_at e_api_Doc_len gv4 (e_api_Doc_eq v4)) k
       ·intro K rest fr hv htk k
        show AWops _ x _ _ K ⟨55, (upd 55 fr 18 (D.one (C.peek false (p_api_Doc v4)))), [(hv 0)]⟩
        refine s_fieldPeek (qs := (p_api_Doc v4)) F.fo_39_0 (by decide) rfl rfl k
       ·intro K rest fr hv htk k
        show AWops _ x _ _ K ⟨55, (upd 55 fr 19 (D.one (C.peek false (p_api_Doc v4)))), [(hv 0)]⟩
        refine s_load1 (c' := (ct v4.Path)) F.ag_9 rfl rfl k
       ·intro K rest fr hv htk k
        show AWops _ x _ _ K ⟨55, (upd 55 fr 1 (D.one (C.p false (.sl a1.length (a1.flatMap e_api_Doc))))), _⟩
        refine s_move (d := (D.one (C.p false (.sl a1.length (a1.flatMap e_api_Doc))))) rfl k
       ·intro K rest fr hv htk k
        show AWops _ x _ _ K ⟨55, (upd 55 fr 5 (si x2)), _⟩
        refine s_move (d := (si x2)) rfl k
       ·intro K rest fr hv htk k
        show AWops _ x _ _ K ⟨55, (upd 55 (upd 55 fr 22 (si x2)) 21 (D.one (C.p false (.sl a1.length (a1.flatMap e_api_Doc))))), [(hv 0)]⟩
        refine s_indexImm (ps := (p_api_Doc v5)) F.u_23 F.sz_39 rfl rfl pv5 qv5 (flat_at e_api_Doc_len gv5 (e_api_Doc_eq v5)) k
       ·intro K rest fr hv htk k
        show AWops _ x _ _ K ⟨55, (upd 55 fr 23 (D.one (C.peek false (p_api_Doc v5)))), [(hv 0)]⟩
        refine s_fieldPeek (qs := (p_api_Doc v5)) F.fo_39_0 (by decide) rfl rfl k
       ·intro K rest fr hv htk k
        show AWops _ x _ _ K ⟨55, (upd 55 fr 24 (D.one (C.peek false (p_api_Doc v5)))), [(hv 0)]⟩
        refine s_load1 (c' := (ct v5.Path)) F.ag_9 rfl rfl k
       ·intro K rest fr hv htk k
        show AWops _ x _ _ K ⟨55, (upd 55 (upd 55 fr 25 (st_ v5.Path)) 20 (st_ v4.Path)), [(hv 0)]⟩
        refine s_binS (v := (.bool (!(v4.Path.toList == v5.Path.toList)))) rfl rfl rfl k
       ·intro K rest fr hv htk k
        show AWops _ x _ _ K ⟨55, (upd 55 fr 26 (sb (!(v4.Path.toList == v5.Path.toList)))), _⟩
        refine s_move (d := (sb (!(v4.Path.toList == v5.Path.toList)))) rfl k
       ·intro K rest fr hv htk k
        show AWops _ x _ _ K ⟨55, (upd 55 (upd 55 fr 27 (sb (!(v4.Path.toList == v5.Path.toList)))) 0 (D.one (C.p false (.sl a0.length (a0.flatMap e_api_Doc))))), _⟩
        refine AWops.guard_yes rfl (nl rfl) rfl (by rw [c6] <;> rfl) ?_
        refine s_move (d := (D.one (C.p false (.sl a0.length (a0.flatMap e_api_Doc))))) rfl k
       ·intro K rest fr hv htk k
        show AWops _ x _ _ K ⟨55, (upd 55 (upd 55 fr 27 (sb (!(v4.Path.toList == v5.Path.toList)))) 5 (si x2)), _⟩
        refine AWops.guard_yes rfl (nl rfl) rfl (by rw [c6] <;> rfl) ?_
        refine s_move (d := (si x2)) rfl k
       ·intro K rest fr hv htk k
        show AWops _ x _ _ K ⟨55, (upd 55 (upd 55 (upd 55 fr 29 (si x2)) 28 (D.one (C.p false (.sl a0.length (a0.flatMap e_api_Doc))))) 27 (sb (!(v4.Path.toList == v5.Path.toList)))), [(hv 0)]⟩
        refine AWops.guard_yes rfl (nl rfl) rfl (by rw [c6] <;> rfl) ?_
        refine s_indexImm (ps := (p_api_Doc v7)) F.u_23 F.sz_39 rfl rfl pv7 qv7 (flat_at e_api_Doc_len gv7 (e_api_Doc_eq v7)) k
       ·intro K rest fr hv htk k
        show AWops _ x _ _ K ⟨55, (upd 55 (upd 55 fr 30 (D.one (C.peek false (p_api_Doc v7)))) 27 (sb (!(v4.Path.toList == v5.Path.toList)))), [(hv 0)]⟩
        refine AWops.guard_yes rfl (nl rfl) rfl (by rw [c6] <;> rfl) ?_
        refine s_fieldPeek (qs := [P.v (.int .i64 v7.Value.Kind), P.v (.int .i64 v7.Value.Int), P.v (.bool v7.Value.Bool), P.v (.string v7.Value.Text), P.sl v7.Refs.length (v7.Refs.flatMap e_str)]) F.fo_39_1 (by decide) rfl rfl k
       ·intro K rest fr hv htk k
        show AWops _ x _ _ K ⟨55, (upd 55 (upd 55 fr 31 (D.one (C.peek false [P.v (.int .i64 v7.Value.Kind), P.v (.int .i64 v7.Value.Int), P.v (.bool v7.Value.Bool), P.v (.string v7.Value.Text), P.sl v7.Refs.length (v7.Refs.flatMap e_str)]))) 27 (sb (!(v4.Path.toList == v5.Path.toList)))), [(hv 0)]⟩
        refine AWops.guard_yes rfl (nl rfl) rfl (by rw [c6] <;> rfl) ?_
        refine s_loadN (ds := (c_api_Value v7.Value)) F.ag_36 F.sz_36 rfl rfl rfl k
       ·intro K rest fr hv htk k
        show AWops _ x _ _ K ⟨55, (upd 55 (upd 55 fr 27 (sb (!(v4.Path.toList == v5.Path.toList)))) 1 (D.one (C.p false (.sl a1.length (a1.flatMap e_api_Doc))))), _⟩
        refine AWops.guard_yes rfl (nl rfl) rfl (by rw [c6] <;> rfl) ?_
        refine s_move (d := (D.one (C.p false (.sl a1.length (a1.flatMap e_api_Doc))))) rfl k
       ·intro K rest fr hv htk k
        show AWops _ x _ _ K ⟨55, (upd 55 (upd 55 fr 27 (sb (!(v4.Path.toList == v5.Path.toList)))) 5 (si x2)), _⟩
        refine AWops.guard_yes rfl (nl rfl) rfl (by rw [c6] <;> rfl) ?_
        refine s_move (d := (si x2)) rfl k
       ·intro K rest fr hv htk k
        show AWops _ x _ _ K ⟨55, (upd 55 (upd 55 (upd 55 fr 34 (si x2)) 33 (D.one (C.p false (.sl a1.length (a1.flatMap e_api_Doc))))) 27 (sb (!(v4.Path.toList == v5.Path.toList)))), [(hv 0)]⟩
        refine AWops.guard_yes rfl (nl rfl) rfl (by rw [c6] <;> rfl) ?_
        refine s_indexImm (ps := (p_api_Doc v8)) F.u_23 F.sz_39 rfl rfl pv8 qv8 (flat_at e_api_Doc_len gv8 (e_api_Doc_eq v8)) k
       ·intro K rest fr hv htk k
        show AWops _ x _ _ K ⟨55, (upd 55 (upd 55 fr 35 (D.one (C.peek false (p_api_Doc v8)))) 27 (sb (!(v4.Path.toList == v5.Path.toList)))), [(hv 0)]⟩
        refine AWops.guard_yes rfl (nl rfl) rfl (by rw [c6] <;> rfl) ?_
        refine s_fieldPeek (qs := [P.v (.int .i64 v8.Value.Kind), P.v (.int .i64 v8.Value.Int), P.v (.bool v8.Value.Bool), P.v (.string v8.Value.Text), P.sl v8.Refs.length (v8.Refs.flatMap e_str)]) F.fo_39_1 (by decide) rfl rfl k
       ·intro K rest fr hv htk k
        show AWops _ x _ _ K ⟨55, (upd 55 (upd 55 fr 36 (D.one (C.peek false [P.v (.int .i64 v8.Value.Kind), P.v (.int .i64 v8.Value.Int), P.v (.bool v8.Value.Bool), P.v (.string v8.Value.Text), P.sl v8.Refs.length (v8.Refs.flatMap e_str)]))) 27 (sb (!(v4.Path.toList == v5.Path.toList)))), [(hv 0)]⟩
        refine AWops.guard_yes rfl (nl rfl) rfl (by rw [c6] <;> rfl) ?_
        refine s_loadN (ds := (c_api_Value v8.Value)) F.ag_36 F.sz_36 rfl rfl rfl k
       ·intro K rest fr hv htk k
        show AWops _ x _ _ K ⟨55, (upd 55 (upd 55 (upd 55 fr 37 (D.agg (c_api_Value v8.Value))) 32 (D.agg (c_api_Value v7.Value))) 27 (sb (!(v4.Path.toList == v5.Path.toList)))), [(hv 0)]⟩
        refine AWops.guard_yes rfl (nl rfl) rfl (by rw [c6] <;> rfl) ?_
        refine s_binA (b := ((v7.Value.Kind == v8.Value.Kind) && ((v7.Value.Int == v8.Value.Int) && ((v7.Value.Bool == v8.Value.Bool) && ((v7.Value.Text.toList == v8.Value.Text.toList) && true))))) F.ff_36 rfl rfl rfl (.inr rfl) k
       ·intro K rest fr hv htk k
        show AWops _ x _ _ K ⟨55, (upd 55 (upd 55 fr 38 (sb (!((v7.Value.Kind == v8.Value.Kind) && ((v7.Value.Int == v8.Value.Int) && ((v7.Value.Bool == v8.Value.Bool) && ((v7.Value.Text.toList == v8.Value.Text.toList) && true))))))) 27 (sb (!(v4.Path.toList == v5.Path.toList)))), _⟩
        refine s_pick_no (d := (sb (!((v7.Value.Kind == v8.Value.Kind) && ((v7.Value.Int == v8.Value.Int) && ((v7.Value.Bool == v8.Value.Bool) && ((v7.Value.Text.toList == v8.Value.Text.toList) && true))))))) rfl (by rw [c6] <;> rfl) rfl k
       ·intro K rest fr hv htk k
        show AWops _ x _ _ K ⟨55, (upd 55 fr 39 (sb (!((v7.Value.Kind == v8.Value.Kind) && ((v7.Value.Int == v8.Value.Int) && ((v7.Value.Bool == v8.Value.Bool) && ((v7.Value.Text.toList == v8.Value.Text.toList) && true))))))), _⟩
        refine s_move (d := (sb (!((v7.Value.Kind == v8.Value.Kind) && ((v7.Value.Int == v8.Value.Int) && ((v7.Value.Bool == v8.Value.Bool) && ((v7.Value.Text.toList == v8.Value.Text.toList) && true))))))) rfl k
       ·intro K rest fr hv htk k
        show AWops _ x _ _ K ⟨55, (upd 55 (upd 55 fr 40 (sb (!((v7.Value.Kind == v8.Value.Kind) && ((v7.Value.Int == v8.Value.Int) && ((v7.Value.Bool == v8.Value.Bool) && ((v7.Value.Text.toList == v8.Value.Text.toList) && true))))))) 0 (D.one (C.p false (.sl a0.length (a0.flatMap e_api_Doc))))), _⟩
        refine AWops.guard_no rfl (nl rfl) rfl (by rw [c9] <;> rfl) k
       ·intro K rest fr hv htk k
        show AWops _ x _ _ K ⟨55, (upd 55 fr 40 (sb (!((v7.Value.Kind == v8.Value.Kind) && ((v7.Value.Int == v8.Value.Int) && ((v7.Value.Bool == v8.Value.Bool) && ((v7.Value.Text.toList == v8.Value.Text.toList) && true))))))), _⟩
        refine AWops.guard_no rfl (nl rfl) rfl (by rw [c9] <;> rfl) k
       ·intro K rest fr hv htk k
        show AWops _ x _ _ K ⟨55, (upd 55 fr 40 (sb (!((v7.Value.Kind == v8.Value.Kind) && ((v7.Value.Int == v8.Value.Int) && ((v7.Value.Bool == v8.Value.Bool) && ((v7.Value.Text.toList == v8.Value.Text.toList) && true))))))), _⟩
        refine AWops.guard_no rfl (nl rfl) rfl (by rw [c9] <;> rfl) k
       ·intro K rest fr hv htk k
        show AWops _ x _ _ K ⟨55, (upd 55 fr 40 (sb (!((v7.Value.Kind == v8.Value.Kind) && ((v7.Value.Int == v8.Value.Int) && ((v7.Value.Bool == v8.Value.Bool) && ((v7.Value.Text.toList == v8.Value.Text.toList) && true))))))), _⟩
        refine AWops.guard_no rfl (nl rfl) rfl (by rw [c9] <;> rfl) k
       ·intro K rest fr hv htk k
        show AWops _ x _ _ K ⟨55, (upd 55 fr 40 (sb (!((v7.Value.Kind == v8.Value.Kind) && ((v7.Value.Int == v8.Value.Int) && ((v7.Value.Bool == v8.Value.Bool) && ((v7.Value.Text.toList == v8.Value.Text.toList) && true))))))), _⟩
        refine AWops.guard_no rfl (nl rfl) rfl (by rw [c9] <;> rfl) k
       ·intro K rest fr hv htk k
        show AWops _ x _ _ K ⟨55, (upd 55 fr 40 (sb (!((v7.Value.Kind == v8.Value.Kind) && ((v7.Value.Int == v8.Value.Int) && ((v7.Value.Bool == v8.Value.Bool) && ((v7.Value.Text.toList == v8.Value.Text.toList) && true))))))), _⟩
        refine AWops.guard_no rfl (nl rfl) rfl (by rw [c9] <;> rfl) k
       ·intro K rest fr hv htk k
        show AWops _ x _ _ K ⟨55, (upd 55 fr 40 (sb (!((v7.Value.Kind == v8.Value.Kind) && ((v7.Value.Int == v8.Value.Int) && ((v7.Value.Bool == v8.Value.Bool) && ((v7.Value.Text.toList == v8.Value.Text.toList) && true))))))), _⟩
        refine AWops.guard_no rfl (nl rfl) rfl (by rw [c9] <;> rfl) k
       ·intro K rest fr hv htk k
        show AWops _ x _ _ K ⟨55, (upd 55 fr 40 (sb (!((v7.Value.Kind == v8.Value.Kind) && ((v7.Value.Int == v8.Value.Int) && ((v7.Value.Bool == v8.Value.Bool) && ((v7.Value.Text.toList == v8.Value.Text.toList) && true))))))), _⟩
        refine AWops.guard_no rfl (nl rfl) rfl (by rw [c9] <;> rfl) k
       ·intro K rest fr hv htk k
        show AWops _ x _ _ K ⟨55, (upd 55 fr 40 (sb (!((v7.Value.Kind == v8.Value.Kind) && ((v7.Value.Int == v8.Value.Int) && ((v7.Value.Bool == v8.Value.Bool) && ((v7.Value.Text.toList == v8.Value.Text.toList) && true))))))), _⟩
        refine AWops.guard_no rfl (nl rfl) rfl (by rw [c9] <;> rfl) k
       ·intro K rest fr hv htk k
        show AWops _ x _ _ K ⟨55, (upd 55 fr 40 (sb (!((v7.Value.Kind == v8.Value.Kind) && ((v7.Value.Int == v8.Value.Int) && ((v7.Value.Bool == v8.Value.Bool) && ((v7.Value.Text.toList == v8.Value.Text.toList) && true))))))), _⟩
        refine AWops.guard_no rfl (nl rfl) rfl (by rw [c9] <;> rfl) k
       ·intro K rest fr hv htk k
        show AWops _ x _ _ K ⟨55, (upd 55 fr 40 (sb (!((v7.Value.Kind == v8.Value.Kind) && ((v7.Value.Int == v8.Value.Int) && ((v7.Value.Bool == v8.Value.Bool) && ((v7.Value.Text.toList == v8.Value.Text.toList) && true))))))), _⟩
        refine AWops.guard_no rfl (nl rfl) rfl (by rw [c9] <;> rfl) k
       ·intro K rest fr hv htk k
        show AWops _ x _ _ K ⟨55, (upd 55 fr 40 (sb (!((v7.Value.Kind == v8.Value.Kind) && ((v7.Value.Int == v8.Value.Int) && ((v7.Value.Bool == v8.Value.Bool) && ((v7.Value.Text.toList == v8.Value.Text.toList) && true))))))), _⟩
        refine AWops.guard_no rfl (nl rfl) rfl (by rw [c9] <;> rfl) k
       ·intro K rest fr hv htk k
        show AWops _ x _ _ K ⟨55, (upd 55 fr 40 (sb (!((v7.Value.Kind == v8.Value.Kind) && ((v7.Value.Int == v8.Value.Int) && ((v7.Value.Bool == v8.Value.Bool) && ((v7.Value.Text.toList == v8.Value.Text.toList) && true))))))), _⟩
        refine s_pick_yes (d := (sb true)) rfl (by rw [c9] <;> rfl) rfl k
      ·refine AWops.weak (st' := ⟨55, (upd 55 (upd 55 (upd 55 (upd 55 (upd 55 (upd 55 (upd 55 (upd 55 (upd 55 (upd 55 (upd 55 (upd 55 (upd 55 (upd 55 (upd 55 (upd 55 (upd 55 (upd 55 (upd 55 (upd 55 (upd 55 (upd 55 (upd 55 (upd 55 (upd 55 (upd 55 (upd 55 (upd 55 topF 0 (D.one (C.p false (.sl a0.length (a0.flatMap e_api_Doc))))) 1 (D.one (C.p false (.sl a1.length (a1.flatMap e_api_Doc))))) 12 (si (a0.length : Int))) 13 (si x2)) 28 (D.one (C.p false (.sl a0.length (a0.flatMap e_api_Doc))))) 29 (si x2)) 30 (D.one (C.peek false (p_api_Doc v7)))) 31 (D.one (C.peek false [P.v (.int .i64 v7.Value.Kind), P.v (.int .i64 v7.Value.Int), P.v (.bool v7.Value.Bool), P.v (.string v7.Value.Text), P.sl v7.Refs.length (v7.Refs.flatMap e_str)]))) 32 (D.agg (c_api_Value v7.Value))) 33 (D.one (C.p false (.sl a1.length (a1.flatMap e_api_Doc))))) 34 (si x2)) 35 (D.one (C.peek false (p_api_Doc v8)))) 36 (D.one (C.peek false [P.v (.int .i64 v8.Value.Kind), P.v (.int .i64 v8.Value.Int), P.v (.bool v8.Value.Bool), P.v (.string v8.Value.Text), P.sl v8.Refs.length (v8.Refs.flatMap e_str)]))) 37 (D.agg (c_api_Value v8.Value))) 38 (sb (!((v7.Value.Kind == v8.Value.Kind) && ((v7.Value.Int == v8.Value.Int) && ((v7.Value.Bool == v8.Value.Bool) && ((v7.Value.Text.toList == v8.Value.Text.toList) && true))))))) 41 (D.tup [])) 42 (D.tup [])) 43 (D.tup [])) 44 (D.tup [])) 45 (D.tup [])) 46 (D.tup [])) 47 (D.tup [])) 48 (D.tup [])) 49 (D.tup [])) 50 (D.tup [])) 51 (D.tup [])) 52 (D.tup [])) 53 (sb true)), []⟩) (wg 0 [] [] hx (le_upd (le_upd (le_upd (le_upd (le_upd (le_upd (le_upd (le_upd (le_upd (le_upd (le_upd (le_upd (le_upd (le_upd (le_upd (le_upd (le_upd (le_upd (le_upd (le_upd (le_upd (le_upd (le_upd (le_upd (le_upd (le_upd (le_upd (le_upd (le_top _) (o1 .same)) (o1 .same)) (o1 .sc)) (o1 .sc)) (o1 .same)) (o1 .sc)) (o1 .peek)) (o1 .peek)) (.t (.agg (ac .sc (ac .sc (ac .sc (ac .sc an))))))) (o1 .same)) (o1 .sc)) (o1 .peek)) (o1 .peek)) (.t (.agg (ac .sc (ac .sc (ac .sc (ac .sc an))))))) (o1 .sc)) (DLe.tup an)) (DLe.tup an)) (DLe.tup an)) (DLe.tup an)) (DLe.tup an)) (DLe.tup an)) (DLe.tup an)) (DLe.tup an)) (DLe.tup an)) (DLe.tup an)) (DLe.tup an)) (DLe.tup an)) (o1 .sc)) an) (AWops.nil ?_)
       refine AW.cond_yes rfl rfl (AW.seq (AW.region ?_))
       refine s_assign (d := (sb false)) rfl (AWops.nil (AW.ret ?_))
       obtain rfl := Option.some.inj h
       exact ⟨_, rfl, (wg 0 [] [] rfl (le_upd (le_top _) (o1 .sc)) an)⟩
    ·refine AW.draw (n := 55) (L := 1) [(ft 0 16 (D.one (C.p false (.sl a0.length (a0.flatMap e_api_Doc)))) [(0, (D.one (C.p false (.sl a0.length (a0.flatMap e_api_Doc)))))]), (ft 1 17 (si x2) [(5, (si x2))]), (ft 2 18 (D.one (C.peek false (p_api_Doc v4))) [(16, (D.one (C.p false (.sl a0.length (a0.flatMap e_api_Doc))))), (17, (si x2))]), (ft 3 19 (D.one (C.peek false (p_api_Doc v4))) [(18, (D.one (C.peek false (p_api_Doc v4))))]), (ft 4 20 (st_ v4.Path) [(19, (D.one (C.peek false (p_api_Doc v4))))]), (ft 5 21 (D.one (C.p false (.sl a1.length (a1.flatMap e_api_Doc)))) [(1, (D.one (C.p false (.sl a1.length (a1.flatMap e_api_Doc)))))]), (ft 6 22 (si x2) [(5, (si x2))]), (ft 7 23 (D.one (C.peek false (p_api_Doc v5))) [(21, (D.one (C.p false (.sl a1.length (a1.flatMap e_api_Doc))))), (22, (si x2))]), (ft 8 24 (D.one (C.peek false (p_api_Doc v5))) [(23, (D.one (C.peek false (p_api_Doc v5))))]), (ft 9 25 (st_ v5.Path) [(24, (D.one (C.peek false (p_api_Doc v5))))]), (ft 10 26 (sb (!(v4.Path.toList == v5.Path.toList))) [(20, (st_ v4.Path)), (25, (st_ v5.Path))]), (ft 11 27 (sb (!(v4.Path.toList == v5.Path.toList))) [(26, (sb (!(v4.Path.toList == v5.Path.toList))))]), (ft 12 28 (D.tup []) [(0, (D.one (C.p false (.sl a0.length (a0.flatMap e_api_Doc))))), (27, (sb (!(v4.Path.toList == v5.Path.toList))))]), (ft 13 29 (D.tup []) [(27, (sb (!(v4.Path.toList == v5.Path.toList))))]), (ft 14 30 (D.tup []) [(27, (sb (!(v4.Path.toList == v5.Path.toList))))]), (ft 15 31 (D.tup []) [(27, (sb (!(v4.Path.toList == v5.Path.toList))))]), (ft 16 32 (D.tup []) [(27, (sb (!(v4.Path.toList == v5.Path.toList))))]), (ft 17 33 (D.tup []) [(27, (sb (!(v4.Path.toList == v5.Path.toList))))]), (ft 18 34 (D.tup []) [(27, (sb (!(v4.Path.toList == v5.Path.toList))))]), (ft 19 35 (D.tup []) [(27, (sb (!(v4.Path.toList == v5.Path.toList))))]), (ft 20 36 (D.tup []) [(27, (sb (!(v4.Path.toList == v5.Path.toList))))]), (ft 21 37 (D.tup []) [(27, (sb (!(v4.Path.toList == v5.Path.toList))))]), (ft 22 38 (D.tup []) [(27, (sb (!(v4.Path.toList == v5.Path.toList))))]), (ft 23 39 (sb true) [(27, (sb (!(v4.Path.toList == v5.Path.toList))))]), (ft 24 40 (sb true) [(39, (sb true))]), (ft 25 41 (D.tup []) [(40, (sb true))]), (ft 26 42 (D.tup []) [(40, (sb true))]), (ft 27 43 (D.tup []) [(40, (sb true))]), (ft 28 44 (D.tup []) [(40, (sb true))]), (ft 29 45 (D.tup []) [(40, (sb true))]), (ft 30 46 (D.tup []) [(40, (sb true))]), (ft 31 47 (D.tup []) [(40, (sb true))]), (ft 32 48 (D.tup []) [(40, (sb true))]), (ft 33 49 (D.tup []) [(40, (sb true))]), (ft 34 50 (D.tup []) [(40, (sb true))]), (ft 35 51 (D.tup []) [(40, (sb true))]), (ft 36 52 (D.tup []) [(40, (sb true))]), (ft 37 53 (sb true) [(40, (sb true))])] [[], [], [0, 1], [0, 1, 2], [0, 1, 2, 3], [], [], [5, 6], [5, 6, 7], [5, 6, 7, 8], (.range 10), (.range 11), (.range 12), (.range 12), (.range 14), (.range 15), (.range 16), (.range 12), (.range 12), (.range 12 ++ [17, 18]), (.range 12 ++ [17, 18, 19]), (.range 12 ++ [17, 18, 19, 20]), (.range 22), (.range 23), (.range 24), (.range 25), (.range 25), (.range 27), (.range 28), (.range 29), (.range 25), (.range 25), (.range 25 ++ [30, 31]), (.range 25 ++ [30, 31, 32]), (.range 25 ++ [30, 31, 32, 33]), (.range 35), (.range 36), (.range 37)] (nl rfl) [0, 0, 1, 2, 3, 0, 0, 1, 2, 3, 4, 5, 6, 6, 7, 8, 9, 6, 6, 7, 8, 9, 10, 11, 12, 13, 13, 14, 15, 16, 13, 13, 14, 15, 16, 17, 18, 19] rfl (TK := []) rfl AllK.nil' (by repeat (first | refine fC ⟨?_, ?_⟩ ?_ | refine sC rfl ?_ | refine hC rfl ?_ | trivial)) ?_ ?_
     ·refine (pC ?_ (pC ?_ (pC ?_ (pC ?_ (pC ?_ (pC ?_ (pC ?_ (pC ?_ (pC ?_ (pC ?_ (pC ?_ (pC ?_ (pC ?_ (pC ?_ (pC ?_ (pC ?_ (pC ?_ (pC ?_ (pC ?_ (pC ?_ (pC ?_ (pC ?_ (pC ?_ (pC ?_ (pC ?_ (pC ?_ (pC ?_ (pC ?_ (pC ?_ (pC ?_ (pC ?_ (pC ?_ (pC ?_ (pC ?_ (pC ?_ (pC ?_ (pC ?_ (pC ?_ AllStep.nil'))))))))))))))))))))))))))))))))))))))
      ·intro K rest fr hv htk k
       show AWops _ x _ _ K ⟨55, (upd 55 fr 0 (D.one (C.p false (.sl a0.length (a0.flatMap e_api_Doc))))), _⟩
       refine s_move (d := (D.one (C.p false (.sl a0.length (a0.flatMap e_api_Doc))))) rfl k
      ·intro K rest fr hv htk k
       show AWops _ x _ _ K ⟨55, (upd 55 fr 5 (si x2)), _⟩
       refine s_move (d := (si x2)) rfl k
      ·intro K rest fr hv htk k
       show AWops _ x _ _ K ⟨55, (upd 55 (upd 55 fr 17 (si x2)) 16 (D.one (C.p false (.sl a0.length (a0.flatMap e_api_Doc))))), [(hv 0)]⟩
       refine s_indexImm (ps := (p_api_Doc v4)) F.u_23 F.sz_39 rfl rfl pv4 qv4 (flat_at e_api_Doc_len gv4 (e_api_Doc_eq v4)) k
      ·intro K rest fr hv htk k
       show AWops _ x _ _ K ⟨55, (upd 55 fr 18 (D.one (C.peek false (p_api_Doc v4)))), [(hv 0)]⟩
       refine s_fieldPeek (qs := (p_api_Doc v4)) F.fo_39_0 (by decide) rfl rfl k
      ·intro K rest fr hv htk k
       show AWops _ x _ _ K ⟨55, (upd 55 fr 19 (D.one (C.peek false (p_api_Doc v4)))), [(hv 0)]⟩
       refine s_load1 (c' := (ct v4.Path)) F.ag_9 rfl rfl k
      ·intro K rest fr hv htk k
       show AWops _ x _ _ K ⟨55, (upd 55 fr 1 (D.one (C.p false (.sl a1.length (a1.flatMap e_api_Doc))))), _⟩
       refine s_move (d := (D.one (C.p false (.sl a1.length (a1.flatMap e_api_Doc))))) rfl k
      ·intro K rest fr hv htk k
       show AWops _ x _ _ K ⟨55, (upd 55 fr 5 (si x2)), _⟩
       refine s_move (d := (si x2)) rfl k
      ·intro K rest fr hv htk k
       show AWops _ x _ _ K ⟨55, (upd 55 (upd 55 fr 22 (si x2)) 21 (D.one (C.p false (.sl a1.length (a1.flatMap e_api_Doc))))), [(hv 0)]⟩
       refine s_indexImm (ps := (p_api_Doc v5)) F.u_23 F.sz_39 rfl rfl pv5 qv5 (flat_at e_api_Doc_len gv5 (e_api_Doc_eq v5)) k
      ·intro K rest fr hv htk k
       show AWops _ x _ _ K ⟨55, (upd 55 fr 23 (D.one (C.peek false (p_api_Doc v5)))), [(hv 0)]⟩
       refine s_fieldPeek (qs := (p_api_Doc v5)) F.fo_39_0 (by decide) rfl rfl k
      ·intro K rest fr hv htk k
       show AWops _ x _ _ K ⟨55, (upd 55 fr 24 (D.one (C.peek false (p_api_Doc v5)))), [(hv 0)]⟩
       refine s_load1 (c' := (ct v5.Path)) F.ag_9 rfl rfl k
      ·intro K rest fr hv htk k
       show AWops _ x _ _ K ⟨55, (upd 55 (upd 55 fr 25 (st_ v5.Path)) 20 (st_ v4.Path)), [(hv 0)]⟩
       refine s_binS (v := (.bool (!(v4.Path.toList == v5.Path.toList)))) rfl rfl rfl k
      ·intro K rest fr hv htk k
       show AWops _ x _ _ K ⟨55, (upd 55 fr 26 (sb (!(v4.Path.toList == v5.Path.toList)))), _⟩
       refine s_move (d := (sb (!(v4.Path.toList == v5.Path.toList)))) rfl k
      ·intro K rest fr hv htk k
       show AWops _ x _ _ K ⟨55, (upd 55 (upd 55 fr 27 (sb (!(v4.Path.toList == v5.Path.toList)))) 0 (D.one (C.p false (.sl a0.length (a0.flatMap e_api_Doc))))), _⟩
       refine AWops.guard_no rfl (nl rfl) rfl (by rw [c6] <;> rfl) k
      ·intro K rest fr hv htk k
       show AWops _ x _ _ K ⟨55, (upd 55 fr 27 (sb (!(v4.Path.toList == v5.Path.toList)))), _⟩
       refine AWops.guard_no rfl (nl rfl) rfl (by rw [c6] <;> rfl) k
      ·intro K rest fr hv htk k
       show AWops _ x _ _ K ⟨55, (upd 55 fr 27 (sb (!(v4.Path.toList == v5.Path.toList)))), _⟩
       refine AWops.guard_no rfl (nl rfl) rfl (by rw [c6] <;> rfl) k
      ·intro K rest fr hv htk k
       show AWops _ x _ _ K ⟨55, (upd 55 fr 27 (sb (!(v4.Path.toList == v5.Path.toList)))), _⟩
       refine AWops.guard_no rfl (nl rfl) rfl (by rw [c6] <;> rfl) k
      ·intro K rest fr hv htk k
       show AWops _ x _ _ K ⟨55, (upd 55 fr 27 (sb (!(v4.Path.toList == v5.Path.toList)))), _⟩
       refine AWops.guard_no rfl (nl rfl) rfl (by rw [c6] <;> rfl) k
      ·intro K rest fr hv htk k
       show AWops _ x _ _ K ⟨55, (upd 55 fr 27 (sb (!(v4.Path.toList == v5.Path.toList)))), _⟩
       refine AWops.guard_no rfl (nl rfl) rfl (by rw [c6] <;> rfl) k
      ·intro K rest fr hv htk k
       show AWops _ x _ _ K ⟨55, (upd 55 fr 27 (sb (!(v4.Path.toList == v5.Path.toList)))), _⟩
       refine AWops.guard_no rfl (nl rfl) rfl (by rw [c6] <;> rfl) k
      ·intro K rest fr hv htk k
       show AWops _ x _ _ K ⟨55, (upd 55 fr 27 (sb (!(v4.Path.toList == v5.Path.toList)))), _⟩
       refine AWops.guard_no rfl (nl rfl) rfl (by rw [c6] <;> rfl) k
      ·intro K rest fr hv htk k
       show AWops _ x _ _ K ⟨55, (upd 55 fr 27 (sb (!(v4.Path.toList == v5.Path.toList)))), _⟩
       refine AWops.guard_no rfl (nl rfl) rfl (by rw [c6] <;> rfl) k
      ·intro K rest fr hv htk k
       show AWops _ x _ _ K ⟨55, (upd 55 fr 27 (sb (!(v4.Path.toList == v5.Path.toList)))), _⟩
       refine AWops.guard_no rfl (nl rfl) rfl (by rw [c6] <;> rfl) k
      ·intro K rest fr hv htk k
       show AWops _ x _ _ K ⟨55, (upd 55 fr 27 (sb (!(v4.Path.toList == v5.Path.toList)))), _⟩
       refine AWops.guard_no rfl (nl rfl) rfl (by rw [c6] <;> rfl) k
      ·intro K rest fr hv htk k
       show AWops _ x _ _ K ⟨55, (upd 55 fr 27 (sb (!(v4.Path.toList == v5.Path.toList)))), _⟩
       refine s_pick_yes (d := (sb true)) rfl (by rw [c6] <;> rfl) rfl k
      ·intro K rest fr hv htk k
       show AWops _ x _ _ K ⟨55, (upd 55 fr 39 (sb true)), _⟩
       refine s_move (d := (sb true)) rfl k
      ·intro K rest fr hv htk k
       show AWops _ x _ _ K ⟨55, (upd 55 fr 40 (sb true)), _⟩
       refine AWops.guard_no rfl (nl rfl) rfl rfl k
      ·intro K rest fr hv htk k
       show AWops _ x _ _ K ⟨55, (upd 55 fr 40 (sb true)), _⟩
       refine AWops.guard_no rfl (nl rfl) rfl rfl k
      ·intro K rest fr hv htk k
       show AWops _ x _ _ K ⟨55, (upd 55 fr 40 (sb true)), _⟩
       refine AWops.guard_no rfl (nl rfl) rfl rfl k
      ·intro K rest fr hv htk k
       show AWops _ x _ _ K ⟨55, (upd 55 fr 40 (sb true)), _⟩
       refine AWops.guard_no rfl (nl rfl) rfl rfl k
      ·intro K rest fr hv htk k
       show AWops _ x _ _ K ⟨55, (upd 55 fr 40 (sb true)), _⟩
       refine AWops.guard_no rfl (nl rfl) rfl rfl k
      ·intro K rest fr hv htk k
       show AWops _ x _ _ K ⟨55, (upd 55 fr 40 (sb true)), _⟩
       refine AWops.guard_no rfl (nl rfl) rfl rfl k
      ·intro K rest fr hv htk k
       show AWops _ x _ _ K ⟨55, (upd 55 fr 40 (sb true)), _⟩
       refine AWops.guard_no rfl (nl rfl) rfl rfl k
      ·intro K rest fr hv htk k
       show AWops _ x _ _ K ⟨55, (upd 55 fr 40 (sb true)), _⟩
       refine AWops.guard_no rfl (nl rfl) rfl rfl k
      ·intro K rest fr hv htk k
       show AWops _ x _ _ K ⟨55, (upd 55 fr 40 (sb true)), _⟩
       refine AWops.guard_no rfl (nl rfl) rfl rfl k
      ·intro K rest fr hv htk k
       show AWops _ x _ _ K ⟨55, (upd 55 fr 40 (sb true)), _⟩
       refine AWops.guard_no rfl (nl rfl) rfl rfl k
      ·intro K rest fr hv htk k
       show AWops _ x _ _ K ⟨55, (upd 55 fr 40 (sb true)), _⟩
       refine AWops.guard_no rfl (nl rfl) rfl rfl k
      ·intro K rest fr hv htk k
       show AWops _ x _ _ K ⟨55, (upd 55 fr 40 (sb true)), _⟩
       refine AWops.guard_no rfl (nl rfl) rfl rfl k
      ·intro K rest fr hv htk k
       show AWops _ x _ _ K ⟨55, (upd 55 fr 40 (sb true)), _⟩
       refine s_pick_yes (d := (sb true)) rfl rfl rfl k
     ·refine AWops.weak (st' := ⟨55, (upd 55 (upd 55 (upd 55 (upd 55 (upd 55 (upd 55 (upd 55 (upd 55 (upd 55 (upd 55 (upd 55 (upd 55 (upd 55 (upd 55 (upd 55 (upd 55 (upd 55 (upd 55 (upd 55 (upd 55 (upd 55 (upd 55 (upd 55 (upd 55 (upd 55 (upd 55 (upd 55 (upd 55 topF 0 (D.one (C.p false (.sl a0.length (a0.flatMap e_api_Doc))))) 1 (D.one (C.p false (.sl a1.length (a1.flatMap e_api_Doc))))) 12 (si (a0.length : Int))) 13 (si x2)) 28 (D.tup [])) 29 (D.tup [])) 30 (D.tup [])) 31 (D.tup [])) 32 (D.tup [])) 33 (D.tup [])) 34 (D.tup [])) 35 (D.tup [])) 36 (D.tup [])) 37 (D.tup [])) 38 (D.tup [])) 41 (D.tup [])) 42 (D.tup [])) 43 (D.tup [])) 44 (D.tup [])) 45 (D.tup [])) 46 (D.tup [])) 47 (D.tup [])) 48 (D.tup [])) 49 (D.tup [])) 50 (D.tup [])) 51 (D.tup [])) 52 (D.tup [])) 53 (sb true)), []⟩) (wg 0 [] [] hx (le_upd (le_upd (le_upd (le_upd (le_upd (le_upd (le_upd (le_upd (le_upd (le_upd (le_upd (le_upd (le_upd (le_upd (le_upd (le_upd (le_upd (le_upd (le_upd (le_upd (le_upd (le_upd (le_upd (le_upd (le_upd (le_upd (le_upd (le_upd (le_top _) (o1 .same)) (o1 .same)) (o1 .sc)) (o1 .sc)) (DLe.tup an)) (DLe.tup an)) (DLe.tup an)) (DLe.tup an)) (DLe.tup an)) (DLe.tup an)) (DLe.tup an)) (DLe.tup an)) (DLe.tup an)) (DLe.tup an)) (DLe.tup an)) (DLe.tup an)) (DLe.tup an)) (DLe.tup an)) (DLe.tup an)) (DLe.tup an)) (DLe.tup an)) (DLe.tup an)) (DLe.tup an)) (DLe.tup an)) (DLe.tup an)) (DLe.tup an)) (DLe.tup an)) (o1 .sc)) an) (AWops.nil ?_)
      refine AW.cond_yes rfl rfl (AW.seq (AW.region ?_))
      refine s_assign (d := (sb false)) rfl (AWops.nil (AW.ret ?_))
      obtain rfl := Option.some.inj h
      exact ⟨_, rfl, (wg 0 [] [] rfl (le_upd (le_top _) (o1 .sc)) an)⟩
   ·refine AW.cond_no rfl c3 (AW.exit (AW.seq (AW.region ?_)))
    refine s_assign (d := (sb true)) rfl (AWops.nil (AW.ret ?_))
    obtain rfl := Option.some.inj h
    exact ⟨_, rfl, (wg 0 [] [] rfl (le_upd (le_top _) (o1 .sc)) an)⟩
mutual
def dossierref18_SameInst.l0 : Nat → Int → api_Inst → api_Inst → Option Bool
 | 0, _, _, _ => none
 | k + 1, x7, a0, a1 => if (decide (x7 < (a0.Latches.length : Int))) = true then ((rd a0.Latches x7).bind fun v9 => (rd a1.Latches x7).bind fun v10 => if (v9 != v10) = true then (some false) else (dossierref18_SameInst.l0 k (IntKind.i64.wrap (x7 + 1)) a0 a1)) else (some true)
end
def dossierref18_SameInst.f (k : Nat) (a0 : api_Inst) (a1 : api_Inst) : Option Bool := if (a0.Path.toList == a1.Path.toList) = true then (if (a0.Item.toList == a1.Item.toList) = true then (if (a0.State != a1.State) = true then (some false) else (if (a0.Before != a1.Before) = true then (some false) else (if (a0.Due != a1.Due) = true then (some false) else (if ((a0.Latches.length : Int) != (a1.Latches.length : Int)) = true then (some false) else (dossierref18_SameInst.l0 k 0 a0 a1))))) else (some false)) else (some false)
theorem dossierref18_SameInst.meets (k : Nat) (a0 : api_Inst) (a1 : api_Inst) (r : Bool) (h : dossierref18_SameInst.f k a0 a1 = some r) : Meets Tryd.prog 23 [(D.agg (c_api_Inst a0)), (D.agg (c_api_Inst a1))] [] (sb r) [] := by
 unfold dossierref18_SameInst.f at h
 refine Meets.of_body (n := 66) Tryd.func23 rfl rfl (nl rfl) fun x hx => ?_
 replace hx : x.k = 0 := hx
 show AW _ x _ _ ⟨66, fr0 [(D.agg (c_api_Inst a0)), (D.agg (c_api_Inst a1))], []⟩
 refine AW.seq (AW.region ?_)
 refine s_box (cs := (c_api_Inst a0)) rfl (List.cons_ne_nil _ _) rfl (s_box (cs := (c_api_Inst a1)) rfl (List.cons_ne_nil _ _) rfl (s_assign (d := (sb false)) rfl (AWops.nil (AW.seq (AW.seq (AW.region (s_fieldRef F.fo_28_0 (by decide) rfl (s_load1 (c' := (ct a0.Path)) F.ag_9 rfl rfl (s_fieldRef F.fo_28_0 (by decide) rfl ?_)))))))))
 refine s_load1 (c' := (ct a1.Path)) F.ag_9 rfl rfl (s_binS (v := (.bool (!(a0.Path.toList == a1.Path.toList)))) rfl rfl rfl (s_move (d := (sb (!(a0.Path.toList == a1.Path.toList)))) rfl ?_))
 rcases itH h with ⟨c1, h⟩ | ⟨c1, h⟩
 ·refine AWops.guard_yes rfl (nl rfl) rfl (by rw [c1] <;> rfl) ?_
  refine s_fieldRef F.fo_28_1 (by decide) rfl ?_
  refine AWops.guard_yes rfl (nl rfl) rfl (by rw [c1] <;> rfl) ?_
  refine s_load1 (c' := (ct a0.Item)) F.ag_9 rfl rfl ?_
  refine AWops.guard_yes rfl (nl rfl) rfl (by rw [c1] <;> rfl) ?_
  refine s_fieldRef F.fo_28_1 (by decide) rfl ?_
  refine AWops.guard_yes rfl (nl rfl) rfl (by rw [c1] <;> rfl) ?_
  refine s_load1 (c' := (ct a1.Item)) F.ag_9 rfl rfl ?_
  refine AWops.guard_yes rfl (nl rfl) rfl (by rw [c1] <;> rfl) ?_
  refine s_binS (v := (.bool (!(a0.Item.toList == a1.Item.toList)))) rfl rfl rfl (s_pick_no (d := (sb (!(a0.Item.toList == a1.Item.toList)))) rfl (by rw [c1] <;> rfl) rfl (s_move (d := (sb (!(a0.Item.toList == a1.Item.toList)))) rfl ?_))
  rcases itH h with ⟨c2, h⟩ | ⟨c2, h⟩
  ·refine AWops.guard_yes rfl (nl rfl) rfl (by rw [c2] <;> rfl) ?_
   refine s_fieldRef F.fo_28_2 (by decide) rfl ?_
   refine AWops.guard_yes rfl (nl rfl) rfl (by rw [c2] <;> rfl) ?_
   refine s_load1 (c' := (ci a0.State)) F.ag_3 rfl rfl ?_
   refine AWops.guard_yes rfl (nl rfl) rfl (by rw [c2] <;> rfl) ?_
   refine s_fieldRef F.fo_28_2 (by decide) rfl ?_
   refine AWops.guard_yes rfl (nl rfl) rfl (by rw [c2] <;> rfl) ?_
   refine s_load1 (c' := (ci a1.State)) F.ag_3 rfl rfl ?_
   refine AWops.guard_yes rfl (nl rfl) rfl (by rw [c2] <;> rfl) ?_
   refine s_binI (v := (.bool (a0.State != a1.State))) rfl rfl rfl (s_pick_no (d := (sb (a0.State != a1.State))) rfl (by rw [c2] <;> rfl) rfl (s_move (d := (sb (a0.State != a1.State))) rfl ?_))
   rcases itH h with ⟨c3, h⟩ | ⟨c3, h⟩
   ·iterate 5 refine AWops.guard_no rfl (nl rfl) rfl c3 ?_
    refine s_pick_yes (d := (sb true)) rfl c3 rfl (s_move (d := (sb true)) rfl ?_)
    iterate 5 refine AWops.guard_no rfl (nl rfl) rfl rfl ?_
    refine s_pick_yes (d := (sb true)) rfl rfl rfl (s_move (d := (sb true)) rfl ?_)
    iterate 7 refine AWops.guard_no rfl (nl rfl) rfl rfl ?_
    refine s_pick_yes (d := (sb true)) rfl rfl rfl (AWops.nil ?_)
    refine AW.cond_yes rfl rfl (AW.seq (AW.region ?_))
    refine s_assign (d := (sb false)) rfl (AWops.nil (AW.ret ?_))
    obtain rfl := Option.some.inj h
    exact ⟨_, rfl, (wg 0 [] [] rfl (le_upd (le_top _) (o1 .sc)) an)⟩
   ·refine AWops.guard_yes rfl (nl rfl) rfl c3 ?_
    refine s_fieldRef F.fo_28_3 (by decide) rfl ?_
    refine AWops.guard_yes rfl (nl rfl) rfl c3 ?_
    refine s_load1 (c' := (ci a0.Before)) F.ag_3 rfl rfl ?_
    refine AWops.guard_yes rfl (nl rfl) rfl c3 ?_
    refine s_fieldRef F.fo_28_3 (by decide) rfl ?_
    refine AWops.guard_yes rfl (nl rfl) rfl c3 ?_
    refine s_load1 (c' := (ci a1.Before)) F.ag_3 rfl rfl ?_
    refine AWops.guard_yes rfl (nl rfl) rfl c3 ?_
    refine s_binI (v := (.bool (a0.Before != a1.Before))) rfl rfl rfl (s_pick_no (d := (sb (a0.Before != a1.Before))) rfl c3 rfl (s_move (d := (sb (a0.Before != a1.Before))) rfl ?_))
    rcases itH h with ⟨c4, h⟩ | ⟨c4, h⟩
    ·iterate 5 refine AWops.guard_no rfl (nl rfl) rfl c4 ?_
     refine s_pick_yes (d := (sb true)) rfl c4 rfl (s_move (d := (sb true)) rfl ?_)
     iterate 7 refine AWops.guard_no rfl (nl rfl) rfl rfl ?_
     refine s_pick_yes (d := (sb true)) rfl rfl rfl (AWops.nil ?_)
     refine AW.cond_yes rfl rfl (AW.seq (AW.region ?_))
     refine s_assign (d := (sb false)) rfl (AWops.nil (AW.ret ?_))
     obtain rfl := Option.some.inj h
     exact ⟨_, rfl, (wg 0 [] [] rfl (le_upd (le_top _) (o1 .sc)) an)⟩
    ·refine AWops.guard_yes rfl (nl rfl) rfl c4 ?_
     refine s_fieldRef F.fo_28_5 (by decide) rfl ?_
     refine AWops.guard_yes rfl (nl rfl) rfl c4 ?_
     refine s_load1 (c' := (ci a0.Due)) F.ag_3 rfl rfl ?_
     refine AWops.guard_yes rfl (nl rfl) rfl c4 ?_
     refine s_fieldRef F.fo_28_5 (by decide) rfl ?_
     refine AWops.guard_yes rfl (nl rfl) rfl c4 ?_
     refine s_load1 (c' := (ci a1.Due)) F.ag_3 rfl rfl ?_
     refine AWops.guard_yes rfl (nl rfl) rfl c4 ?_
     refine s_binI (v := (.bool (a0.Due != a1.Due))) rfl rfl rfl (s_pick_no (d := (sb (a0.Due != a1.Due))) rfl c4 rfl (s_move (d := (sb (a0.Due != a1.Due))) rfl ?_))
     rcases itH h with ⟨c5, h⟩ | ⟨c5, h⟩
     ·iterate 7 refine AWops.guard_no rfl (nl rfl) rfl c5 ?_
      refine s_pick_yes (d := (sb true)) rfl c5 rfl (AWops.nil ?_)
      refine AW.cond_yes rfl rfl (AW.seq (AW.region ?_))
      refine s_assign (d := (sb false)) rfl (AWops.nil (AW.ret ?_))
      obtain rfl := Option.some.inj h
      exact ⟨_, rfl, (wg 0 [] [] rfl (le_upd (le_top _) (o1 .sc)) an)⟩
     ·refine AWops.guard_yes rfl (nl rfl) rfl c5 ?_
      refine s_fieldRef F.fo_28_4 (by decide) rfl ?_
      refine AWops.guard_yes rfl (nl rfl) rfl c5 ?_
      refine s_load1 (c' := (C.p false (.sl a0.Latches.length (a0.Latches.flatMap e_i64)))) F.ag_26 rfl rfl ?_
      refine AWops.guard_yes rfl (nl rfl) rfl c5 ?_
      refine s_len (n := a0.Latches.length) F.u_26 rfl (.inr ⟨(fun _ _ h => by cases h), ⟨_, rfl⟩⟩) ?_
      refine AWops.guard_yes rfl (nl rfl) rfl c5 ?_
      refine s_fieldRef F.fo_28_4 (by decide) rfl ?_
      refine AWops.guard_yes rfl (nl rfl) rfl c5 ?_
      refine s_load1 (c' := (C.p false (.sl a1.Latches.length (a1.Latches.flatMap e_i64)))) F.ag_26 rfl rfl ?_
      refine AWops.guard_yes rfl (nl rfl) rfl c5 ?_
      refine s_len (n := a1.Latches.length) F.u_26 rfl (.inr ⟨(fun _ _ h => by cases h), ⟨_, rfl⟩⟩) ?_
      refine AWops.guard_yes rfl (nl rfl) rfl c5 ?_
      refine s_binI (v := (.bool ((a0.Latches.length : Int) != (a1.Latches.length : Int)))) rfl rfl rfl (s_pick_no (d := (sb ((a0.Latches.length : Int) != (a1.Latches.length : Int)))) rfl c5 rfl (AWops.nil ?_))
      rcases itH h with ⟨c6, h⟩ | ⟨c6, h⟩
      ·refine AW.cond_yes rfl c6 (AW.seq (AW.region ?_))
       refine s_assign (d := (sb false)) rfl (AWops.nil (AW.ret ?_))
       obtain rfl := Option.some.inj h
       exact ⟨_, rfl, (wg 0 [] [] rfl (le_upd (le_top _) (o1 .sc)) an)⟩
      ·refine AW.cond_no rfl c6 (AW.skip (AW.seq (AW.seq (AW.region ?_))))
       refine s_fieldRef F.fo_28_4 (by decide) rfl (s_load1 (c' := (C.p false (.sl a0.Latches.length (a0.Latches.flatMap e_i64)))) F.ag_26 rfl rfl (s_len (n := a0.Latches.length) F.u_26 rfl (.inr ⟨(fun _ _ h => by cases h), ⟨_, rfl⟩⟩) (s_move (d := (si 0)) rfl (AWops.nil (AW.block ?_)))))
       refine AW.loopw (st0 := ⟨66, (upd 66 (upd 66 (upd 66 (upd 66 topF 2 (rf 0 0)) 3 (rf 1 0)) 50 (si (a0.Latches.length : Int))) 51 (si 0)), [(some (AObj.cells true (c_api_Inst a0))), (some (AObj.cells true (c_api_Inst a1)))]⟩) (fun kv st => kv ≤ k ∧ ∃ (x7 : Int), dossierref18_SameInst.l0 kv x7 a0 a1 = some r ∧ st = ⟨66, (upd 66 (upd 66 (upd 66 (upd 66 topF 2 (rf 0 0)) 3 (rf 1 0)) 50 (si (a0.Latches.length : Int))) 51 (si x7)), [(some (AObj.cells true (c_api_Inst a0))), (some (AObj.cells true (c_api_Inst a1)))]⟩) (k := k) (wg 0 [0, 1] [] hx (le_upd (le_upd (le_upd (le_upd (le_top _) (o1 (.ref rfl))) (o1 (.ref rfl))) (o1 .sc)) (o1 .sc)) (ac (.cells (fun _ => rfl) (ac .sc (ac .sc (ac .sc (ac .sc (ac .same (ac .sc an))))))) (ac (.cells (fun _ => rfl) (ac .sc (ac .sc (ac .sc (ac .sc (ac .same (ac .sc an))))))) an))) ⟨Nat.le_refl _, 0, h, rfl⟩ ?_
       rintro ql0 st ⟨hkl0, x7, h, rfl⟩
       cases ql0 with
       | zero => exact absurd h (by simp [dossierref18_SameInst.l0])
       | succ ql0 =>
        replace h := (dossierref18_SameInst.l0.eq_2 _ _ _ _).symm.trans h
        refine AW.seq (AW.region ?_)
        refine s_binI (v := (.bool (decide (x7 < (a0.Latches.length : Int))))) rfl rfl rfl (AWops.nil (AW.seq ?_))
        rcases itH h with ⟨c8, h⟩ | ⟨c8, h⟩
        ·refine AW.cond_yes rfl c8 (AW.skip (AW.seq (AW.block (AW.seq (AW.region ?_)))))
         refine s_move (d := (si x7)) rfl (s_assign (d := (si x7)) rfl (AWops.nil (AW.seq ?_)))
         refine AW.weak (st' := ⟨66, (upd 66 (upd 66 (upd 66 (upd 66 (upd 66 topF 2 (rf 0 0)) 3 (rf 1 0)) 5 (si x7)) 50 (si (a0.Latches.length : Int))) 51 (si x7)), [(some (AObj.cells true (c_api_Inst a0))), (some (AObj.cells true (c_api_Inst a1)))]⟩) (wg 0 [0, 1] [] hx (le_upd (le_upd (le_upd (le_upd (le_upd (le_top _) (o1 (.ref rfl))) (o1 (.ref rfl))) (o1 .sc)) (o1 .sc)) (o1 .sc)) (ac (.cells (fun _ => rfl) (ac .sc (ac .sc (ac .sc (ac .sc (ac .same (ac .sc an))))))) (ac (.cells (fun _ => rfl) (ac .sc (ac .sc (ac .sc (ac .sc (ac .same (ac .sc an))))))) an))) ?_
         obtain ⟨v9, ev9, h⟩ := bnd h
         obtain ⟨pv9, qv9, gv9⟩ := rd_some ev9
         obtain ⟨v10, ev10, h⟩ := bnd h
         obtain ⟨pv10, qv10, gv10⟩ := rd_some ev10
         refine AW.draw (n := 66) (L := 2) [(ft 0 54 (rf 0 4) [(2, (rf 0 0))]), (1, ⟨some 55, (D.one (C.p false (.sl a0.Latches.length (a0.Latches.flatMap e_i64)))), [(54, (rf 0 4))], [(0, (some (AObj.cells true (c_api_Inst a0))))], [], none⟩), (ft 2 56 (si x7) [(5, (si x7))]), (ft 3 57 (D.one (C.peek false [P.v (.int .i64 v9)])) [(55, (D.one (C.p false (.sl a0.Latches.length (a0.Latches.flatMap e_i64))))), (56, (si x7))]), (ft 4 58 (si v9) [(57, (D.one (C.peek false [P.v (.int .i64 v9)])))]), (ft 5 59 (rf 1 4) [(3, (rf 1 0))]), (6, ⟨some 60, (D.one (C.p false (.sl a1.Latches.length (a1.Latches.flatMap e_i64)))), [(59, (rf 1 4))], [(1, (some (AObj.cells true (c_api_Inst a1))))], [], none⟩), (ft 7 61 (si x7) [(5, (si x7))]), (ft 8 62 (D.one (C.peek false [P.v (.int .i64 v10)])) [(60, (D.one (C.p false (.sl a1.Latches.length (a1.Latches.flatMap e_i64))))), (61, (si x7))]), (ft 9 63 (si v10) [(62, (D.one (C.peek false [P.v (.int .i64 v10)])))]), (ft 10 64 (sb (v9 != v10)) [(58, (si v9)), (63, (si v10))])] [[], [0], [], [0, 1, 2], [0, 1, 2, 3], [], [5], [], [5, 6, 7], [5, 6, 7, 8], (.range 10)] (nl rfl) [0, 1, 0, 2, 3, 0, 1, 0, 2, 3, 4] rfl (TK := []) rfl AllK.nil' (by repeat (first | refine fC ⟨?_, ?_⟩ ?_ | refine sC rfl ?_ | refine hC rfl ?_ | trivial)) ?_ ?_
         ·refine (pC ?_ (pC ?_ (pC ?_ (pC ?_ (pC ?_ (pC ?_ (pC ?_ (pC ?_ (pC ?_ (pC ?_ (pC ?_ AllStep.nil')))))))))))
          ·intro K rest fr hv htk k
           show AWops _ x _ _ K ⟨66, (upd 66 fr 2 (rf 0 0)), [(hv 0), (hv 1)]⟩
           refine s_fieldRef F.fo_28_4 (by decide) rfl k
          ·intro K rest fr hv htk k
           show AWops _ x _ _ K ⟨66, (upd 66 fr 54 (rf 0 4)), [(some (AObj.cells true (c_api_Inst a0))), (hv 1)]⟩
           refine s_load1 (c' := (C.p false (.sl a0.Latches.length (a0.Latches.flatMap e_i64)))) F.ag_26 rfl rfl k
          ·intro K rest fr hv htk k
           show AWops _ x _ _ K ⟨66, (upd 66 fr 5 (si x7)), _⟩
           refine s_move (d := (si x7)) rfl k
          ·intro K rest fr hv htk k
           show AWops _ x _ _ K ⟨66, (upd 66 (upd 66 fr 56 (si x7)) 55 (D.one (C.p false (.sl a0.Latches.length (a0.Latches.flatMap e_i64))))), [(hv 0), (hv 1)]⟩
           refine s_indexImm (ps := [P.v (.int .i64 v9)]) F.u_26 F.sz_3 rfl rfl pv9 qv9 (flat_at e_i64_len gv9 (e_i64_eq v9)) k
          ·intro K rest fr hv htk k
           show AWops _ x _ _ K ⟨66, (upd 66 fr 57 (D.one (C.peek false [P.v (.int .i64 v9)]))), [(hv 0), (hv 1)]⟩
           refine s_load1 (c' := (ci v9)) F.ag_3 rfl rfl k
          ·intro K rest fr hv htk k
           show AWops _ x _ _ K ⟨66, (upd 66 fr 3 (rf 1 0)), [(hv 0), (hv 1)]⟩
           refine s_fieldRef F.fo_28_4 (by decide) rfl k
          ·intro K rest fr hv htk k
           show AWops _ x _ _ K ⟨66, (upd 66 fr 59 (rf 1 4)), [(hv 0), (some (AObj.cells true (c_api_Inst a1)))]⟩
           refine s_load1 (c' := (C.p false (.sl a1.Latches.length (a1.Latches.flatMap e_i64)))) F.ag_26 rfl rfl k
          ·intro K rest fr hv htk k
           show AWops _ x _ _ K ⟨66, (upd 66 fr 5 (si x7)), _⟩
           refine s_move (d := (si x7)) rfl k
          ·intro K rest fr hv htk k
           show AWops _ x _ _ K ⟨66, (upd 66 (upd 66 fr 61 (si x7)) 60 (D.one (C.p false (.sl a1.Latches.length (a1.Latches.flatMap e_i64))))), [(hv 0), (hv 1)]⟩
           refine s_indexImm (ps := [P.v (.int .i64 v10)]) F.u_26 F.sz_3 rfl rfl pv10 qv10 (flat_at e_i64_len gv10 (e_i64_eq v10)) k
          ·intro K rest fr hv htk k
           show AWops _ x _ _ K ⟨66, (upd 66 fr 62 (D.one (C.peek false [P.v (.int .i64 v10)]))), [(hv 0), (hv 1)]⟩
           refine s_load1 (c' := (ci v10)) F.ag_3 rfl rfl k
          ·intro K rest fr hv htk k
           show AWops _ x _ _ K ⟨66, (upd 66 (upd 66 fr 63 (si v10)) 58 (si v9)), _⟩
           refine s_binI (v := (.bool (v9 != v10))) rfl rfl rfl k
         ·refine AWops.weak (st' := ⟨66, (upd 66 (upd 66 (upd 66 (upd 66 (upd 66 topF 2 (rf 0 0)) 3 (rf 1 0)) 50 (si (a0.Latches.length : Int))) 51 (si x7)) 64 (sb (v9 != v10))), [(some (AObj.cells true (c_api_Inst a0))), (some (AObj.cells true (c_api_Inst a1)))]⟩) (wg 0 [0, 1] [] hx (le_upd (le_upd (le_upd (le_upd (le_upd (le_top _) (o1 (.ref rfl))) (o1 (.ref rfl))) (o1 .sc)) (o1 .sc)) (o1 .sc)) (ac (.cells (fun _ => rfl) (ac .sc (ac .sc (ac .sc (ac .sc (ac .same (ac .sc an))))))) (ac (.cells (fun _ => rfl) (ac .sc (ac .sc (ac .sc (ac .sc (ac .same (ac .sc an))))))) an))) (AWops.nil ?_)
          rcases itH h with ⟨c11, h⟩ | ⟨c11, h⟩
          ·refine AW.cond_yes rfl c11 (AW.seq (AW.region ?_))
           refine s_assign (d := (sb false)) rfl (AWops.nil (AW.ret ?_))
           obtain rfl := Option.some.inj h
           exact ⟨_, rfl, (wg 0 [] [] rfl (le_upd (le_top _) (o1 .sc)) an)⟩
          ·refine AW.cond_no rfl c11 (AW.skip (AW.region ?_))
           refine s_binI (v := (.int .i64 (IntKind.i64.wrap (x7 + 1)))) rfl rfl rfl (s_move (d := (si (IntKind.i64.wrap (x7 + 1)))) rfl (AWops.nil ?_))
           exact ⟨_, ⟨66, (upd 66 (upd 66 (upd 66 (upd 66 topF 2 (rf 0 0)) 3 (rf 1 0)) 50 (si (a0.Latches.length : Int))) 51 (si (IntKind.i64.wrap (x7 + 1)))), [(some (AObj.cells true (c_api_Inst a0))), (some (AObj.cells true (c_api_Inst a1)))]⟩, by omega, (wg 0 [0, 1] [] hx (le_upd (le_upd (le_upd (le_upd (le_top _) (o1 (.ref rfl))) (o1 (.ref rfl))) (o1 .sc)) (o1 .sc)) (ac (.cells (fun _ => rfl) (ac .sc (ac .sc (ac .sc (ac .sc (ac .same (ac .sc an))))))) (ac (.cells (fun _ => rfl) (ac .sc (ac .sc (ac .sc (ac .sc (ac .same (ac .sc an))))))) an))), by omega, IntKind.i64.wrap (x7 + 1), h, rfl⟩
        ·refine AW.cond_no rfl c8 (AW.exit (AW.seq (AW.region ?_)))
         refine s_assign (d := (sb true)) rfl (AWops.nil (AW.ret ?_))
         obtain rfl := Option.some.inj h
         exact ⟨_, rfl, (wg 0 [] [] rfl (le_upd (le_top _) (o1 .sc)) an)⟩
  ·iterate 5 refine AWops.guard_no rfl (nl rfl) rfl (by rw [c2] <;> rfl) ?_
   refine s_pick_yes (d := (sb true)) rfl (by rw [c2] <;> rfl) rfl (s_move (d := (sb true)) rfl ?_)
   iterate 5 refine AWops.guard_no rfl (nl rfl) rfl rfl ?_
   refine s_pick_yes (d := (sb true)) rfl rfl rfl (s_move (d := (sb true)) rfl ?_)
   iterate 5 refine AWops.guard_no rfl (nl rfl) rfl rfl ?_
   refine s_pick_yes (d := (sb true)) rfl rfl rfl (s_move (d := (sb true)) rfl ?_)
   iterate 7 refine AWops.guard_no rfl (nl rfl) rfl rfl ?_
   refine s_pick_yes (d := (sb true)) rfl rfl rfl (AWops.nil ?_)
   refine AW.cond_yes rfl rfl (AW.seq (AW.region ?_))
   refine s_assign (d := (sb false)) rfl (AWops.nil (AW.ret ?_))
   obtain rfl := Option.some.inj h
   exact ⟨_, rfl, (wg 0 [] [] rfl (le_upd (le_top _) (o1 .sc)) an)⟩
 ·iterate 5 refine AWops.guard_no rfl (nl rfl) rfl (by rw [c1] <;> rfl) ?_
  refine s_pick_yes (d := (sb true)) rfl (by rw [c1] <;> rfl) rfl (s_move (d := (sb true)) rfl ?_)
  iterate 5 refine AWops.guard_no rfl (nl rfl) rfl rfl ?_
  refine s_pick_yes (d := (sb true)) rfl rfl rfl (s_move (d := (sb true)) rfl ?_)
  iterate 5 refine AWops.guard_no rfl (nl rfl) rfl rfl ?_
  refine s_pick_yes (d := (sb true)) rfl rfl rfl (s_move (d := (sb true)) rfl ?_)
  iterate 5 refine AWops.guard_no rfl (nl rfl) rfl rfl ?_
  refine s_pick_yes (d := (sb true)) rfl rfl rfl (s_move (d := (sb true)) rfl ?_)
  iterate 7 refine AWops.guard_no rfl (nl rfl) rfl rfl ?_
  refine s_pick_yes (d := (sb true)) rfl rfl rfl (AWops.nil ?_)
  refine AW.cond_yes rfl rfl (AW.seq (AW.region ?_))
  refine s_assign (d := (sb false)) rfl (AWops.nil (AW.ret ?_))
  obtain rfl := Option.some.inj h
  exact ⟨_, rfl, (wg 0 [] [] rfl (le_upd (le_top _) (o1 .sc)) an)⟩
mutual
def dossierref18_Same.l0 : Nat → Int → api_Case → api_Case → Option Bool
 | 0, _, _, _ => none
 | k + 1, x7, a0, a1 => if (decide (x7 < (a0.Insts.length : Int))) = true then ((rd a0.Insts x7).bind fun v9 => (rd a1.Insts x7).bind fun v10 => (dossierref18_SameInst.f k v9 v10).bind fun r11 => if r11 = true then (dossierref18_Same.l0 k (IntKind.i64.wrap (x7 + 1)) a0 a1) else (some false)) else (some true)
end
def dossierref18_Same.f (k : Nat) (a0 : api_Case) (a1 : api_Case) : Option Bool := if (a0.ID != a1.ID) = true then (some false) else (if (a0.Model.toList == a1.Model.toList) = true then (if (a0.Clock != a1.Clock) = true then (some false) else (if ((a0.Insts.length : Int) != (a1.Insts.length : Int)) = true then (some false) else ((dossierref16_Same.f k a0.Docs a1.Docs).bind fun r5 => if r5 = true then (dossierref18_Same.l0 k 0 a0 a1) else (some false)))) else (some false))
theorem dossierref18_Same.meets (k : Nat) (a0 : api_Case) (a1 : api_Case) (r : Bool) (h : dossierref18_Same.f k a0 a1 = some r) : Meets Tryd.prog 9 [(D.agg (c_api_Case a0)), (D.agg (c_api_Case a1))] [] (sb r) [] := by
 unfold dossierref18_Same.f at h
 refine Meets.of_body (n := 61) Tryd.func9 rfl rfl (nl rfl) fun x hx => ?_
 replace hx : x.k = 0 := hx
 show AW _ x _ _ ⟨61, fr0 [(D.agg (c_api_Case a0)), (D.agg (c_api_Case a1))], []⟩
 refine AW.seq (AW.region ?_)
 refine s_box (cs := (c_api_Case a0)) rfl (List.cons_ne_nil _ _) rfl (s_box (cs := (c_api_Case a1)) rfl (List.cons_ne_nil _ _) rfl (s_assign (d := (sb false)) rfl (AWops.nil (AW.seq (AW.seq (AW.region (s_fieldRef F.fo_25_0 (by decide) rfl (s_load1 (c' := (ci a0.ID)) F.ag_3 rfl rfl (s_fieldRef F.fo_25_0 (by decide) rfl ?_)))))))))
 refine s_load1 (c' := (ci a1.ID)) F.ag_3 rfl rfl (s_binI (v := (.bool (a0.ID != a1.ID))) rfl rfl rfl (s_move (d := (sb (a0.ID != a1.ID))) rfl ?_))
 rcases itH h with ⟨c1, h⟩ | ⟨c1, h⟩
 ·iterate 5 refine AWops.guard_no rfl (nl rfl) rfl c1 ?_
  refine s_pick_yes (d := (sb true)) rfl c1 rfl (s_move (d := (sb true)) rfl ?_)
  iterate 5 refine AWops.guard_no rfl (nl rfl) rfl rfl ?_
  refine s_pick_yes (d := (sb true)) rfl rfl rfl (s_move (d := (sb true)) rfl ?_)
  iterate 7 refine AWops.guard_no rfl (nl rfl) rfl rfl ?_
  refine s_pick_yes (d := (sb true)) rfl rfl rfl (s_move (d := (sb true)) rfl ?_)
  iterate 6 refine AWops.guard_no rfl (nl rfl) rfl rfl ?_
  refine s_pick_yes (d := (sb true)) rfl rfl rfl (AWops.nil ?_)
  refine AW.cond_yes rfl rfl (AW.seq (AW.region ?_))
  refine s_assign (d := (sb false)) rfl (AWops.nil (AW.ret ?_))
  obtain rfl := Option.some.inj h
  exact ⟨_, rfl, (wg 0 [] [] rfl (le_upd (le_top _) (o1 .sc)) an)⟩
 ·refine AWops.guard_yes rfl (nl rfl) rfl c1 ?_
  refine s_fieldRef F.fo_25_1 (by decide) rfl ?_
  refine AWops.guard_yes rfl (nl rfl) rfl c1 ?_
  refine s_load1 (c' := (ct a0.Model)) F.ag_9 rfl rfl ?_
  refine AWops.guard_yes rfl (nl rfl) rfl c1 ?_
  refine s_fieldRef F.fo_25_1 (by decide) rfl ?_
  refine AWops.guard_yes rfl (nl rfl) rfl c1 ?_
  refine s_load1 (c' := (ct a1.Model)) F.ag_9 rfl rfl ?_
  refine AWops.guard_yes rfl (nl rfl) rfl c1 ?_
  refine s_binS (v := (.bool (!(a0.Model.toList == a1.Model.toList)))) rfl rfl rfl (s_pick_no (d := (sb (!(a0.Model.toList == a1.Model.toList)))) rfl c1 rfl (s_move (d := (sb (!(a0.Model.toList == a1.Model.toList)))) rfl ?_))
  rcases itH h with ⟨c2, h⟩ | ⟨c2, h⟩
  ·refine AWops.guard_yes rfl (nl rfl) rfl (by rw [c2] <;> rfl) ?_
   refine s_fieldRef F.fo_25_4 (by decide) rfl ?_
   refine AWops.guard_yes rfl (nl rfl) rfl (by rw [c2] <;> rfl) ?_
   refine s_load1 (c' := (ci a0.Clock)) F.ag_3 rfl rfl ?_
   refine AWops.guard_yes rfl (nl rfl) rfl (by rw [c2] <;> rfl) ?_
   refine s_fieldRef F.fo_25_4 (by decide) rfl ?_
   refine AWops.guard_yes rfl (nl rfl) rfl (by rw [c2] <;> rfl) ?_
   refine s_load1 (c' := (ci a1.Clock)) F.ag_3 rfl rfl ?_
   refine AWops.guard_yes rfl (nl rfl) rfl (by rw [c2] <;> rfl) ?_
   refine s_binI (v := (.bool (a0.Clock != a1.Clock))) rfl rfl rfl (s_pick_no (d := (sb (a0.Clock != a1.Clock))) rfl (by rw [c2] <;> rfl) rfl (s_move (d := (sb (a0.Clock != a1.Clock))) rfl ?_))
   rcases itH h with ⟨c3, h⟩ | ⟨c3, h⟩
   ·iterate 7 refine AWops.guard_no rfl (nl rfl) rfl c3 ?_
    refine s_pick_yes (d := (sb true)) rfl c3 rfl (s_move (d := (sb true)) rfl ?_)
    iterate 6 refine AWops.guard_no rfl (nl rfl) rfl rfl ?_
    refine s_pick_yes (d := (sb true)) rfl rfl rfl (AWops.nil ?_)
    refine AW.cond_yes rfl rfl (AW.seq (AW.region ?_))
    refine s_assign (d := (sb false)) rfl (AWops.nil (AW.ret ?_))
    obtain rfl := Option.some.inj h
    exact ⟨_, rfl, (wg 0 [] [] rfl (le_upd (le_top _) (o1 .sc)) an)⟩
   ·refine AWops.guard_yes rfl (nl rfl) rfl c3 ?_
    refine s_fieldRef F.fo_25_2 (by decide) rfl ?_
    refine AWops.guard_yes rfl (nl rfl) rfl c3 ?_
    refine s_load1 (c' := (C.p false (.sl a0.Insts.length (a0.Insts.flatMap e_api_Inst)))) F.ag_22 rfl rfl ?_
    refine AWops.guard_yes rfl (nl rfl) rfl c3 ?_
    refine s_len (n := a0.Insts.length) F.u_22 rfl (.inr ⟨(fun _ _ h => by cases h), ⟨_, rfl⟩⟩) ?_
    refine AWops.guard_yes rfl (nl rfl) rfl c3 ?_
    refine s_fieldRef F.fo_25_2 (by decide) rfl ?_
    refine AWops.guard_yes rfl (nl rfl) rfl c3 ?_
    refine s_load1 (c' := (C.p false (.sl a1.Insts.length (a1.Insts.flatMap e_api_Inst)))) F.ag_22 rfl rfl ?_
    refine AWops.guard_yes rfl (nl rfl) rfl c3 ?_
    refine s_len (n := a1.Insts.length) F.u_22 rfl (.inr ⟨(fun _ _ h => by cases h), ⟨_, rfl⟩⟩) ?_
    refine AWops.guard_yes rfl (nl rfl) rfl c3 ?_
    refine s_binI (v := (.bool ((a0.Insts.length : Int) != (a1.Insts.length : Int)))) rfl rfl rfl (s_pick_no (d := (sb ((a0.Insts.length : Int) != (a1.Insts.length : Int)))) rfl c3 rfl (s_move (d := (sb ((a0.Insts.length : Int) != (a1.Insts.length : Int)))) rfl ?_))
    rcases itH h with ⟨c4, h⟩ | ⟨c4, h⟩
    ·iterate 6 refine AWops.guard_no rfl (nl rfl) rfl c4 ?_
     refine s_pick_yes (d := (sb true)) rfl c4 rfl (AWops.nil ?_)
     refine AW.cond_yes rfl rfl (AW.seq (AW.region ?_))
     refine s_assign (d := (sb false)) rfl (AWops.nil (AW.ret ?_))
     obtain rfl := Option.some.inj h
     exact ⟨_, rfl, (wg 0 [] [] rfl (le_upd (le_top _) (o1 .sc)) an)⟩
    ·refine AWops.guard_yes rfl (nl rfl) rfl c4 ?_
     refine s_fieldRef F.fo_25_3 (by decide) rfl ?_
     refine AWops.guard_yes rfl (nl rfl) rfl c4 ?_
     refine s_load1 (c' := (C.p false (.sl a0.Docs.length (a0.Docs.flatMap e_api_Doc)))) F.ag_23 rfl rfl ?_
     refine AWops.guard_yes rfl (nl rfl) rfl c4 ?_
     refine s_fieldRef F.fo_25_3 (by decide) rfl ?_
     refine AWops.guard_yes rfl (nl rfl) rfl c4 ?_
     refine s_load1 (c' := (C.p false (.sl a1.Docs.length (a1.Docs.flatMap e_api_Doc)))) F.ag_23 rfl rfl ?_
     refine AWops.guard_yes rfl (nl rfl) rfl c4 ?_
     obtain ⟨r5, er5, h⟩ := bnd h
     refine cc [] [(some (AObj.cells true (c_api_Case a0))), (some (AObj.cells true (c_api_Case a1)))] (sb r5) F.ca_22 rfl rfl (ac (.one .imm) (ac (.one .imm) an)) an (dossierref16_Same.meets _ a0.Docs a1.Docs r5 er5) ?_
     refine AWops.guard_yes rfl (nl rfl) rfl c4 ?_
     refine s_not rfl (s_pick_no (d := (sb (!r5))) rfl c4 rfl (AWops.nil ?_))
     rcases itH h with ⟨c6, h⟩ | ⟨c6, h⟩
     ·refine AW.cond_no rfl (by rw [c6] <;> rfl) (AW.skip (AW.seq (AW.seq (AW.region ?_))))
      refine s_fieldRef F.fo_25_2 (by decide) rfl (s_load1 (c' := (C.p false (.sl a0.Insts.length (a0.Insts.flatMap e_api_Inst)))) F.ag_22 rfl rfl (s_len (n := a0.Insts.length) F.u_22 rfl (.inr ⟨(fun _ _ h => by cases h), ⟨_, rfl⟩⟩) (s_move (d := (si 0)) rfl (AWops.nil (AW.block ?_)))))
      refine AW.loopw (st0 := ⟨61, (upd 61 (upd 61 (upd 61 (upd 61 topF 2 (rf 0 0)) 3 (rf 1 0)) 44 (si (a0.Insts.length : Int))) 45 (si 0)), [(some (AObj.cells true (c_api_Case a0))), (some (AObj.cells true (c_api_Case a1)))]⟩) (fun kv st => kv ≤ k ∧ ∃ (x7 : Int), dossierref18_Same.l0 kv x7 a0 a1 = some r ∧ st = ⟨61, (upd 61 (upd 61 (upd 61 (upd 61 topF 2 (rf 0 0)) 3 (rf 1 0)) 44 (si (a0.Insts.length : Int))) 45 (si x7)), [(some (AObj.cells true (c_api_Case a0))), (some (AObj.cells true (c_api_Case a1)))]⟩) (k := k) (wg 0 [0, 1] [] hx (le_upd (le_upd (le_upd (le_upd (le_top _) (o1 (.ref rfl))) (o1 (.ref rfl))) (o1 .sc)) (o1 .sc)) (ac (.cells (fun _ => rfl) (ac .sc (ac .sc (ac .same (ac .same (ac .sc an)))))) (ac (.cells (fun _ => rfl) (ac .sc (ac .sc (ac .same (ac .same (ac .sc an)))))) an))) ⟨Nat.le_refl _, 0, h, rfl⟩ ?_
      rintro ql0 st ⟨hkl0, x7, h, rfl⟩
      cases ql0 with
      | zero => exact absurd h (by simp [dossierref18_Same.l0])
      | succ ql0 =>
       replace h := (dossierref18_Same.l0.eq_2 _ _ _ _).symm.trans h
       refine AW.seq (AW.region ?_)
       refine s_binI (v := (.bool (decide (x7 < (a0.Insts.length : Int))))) rfl rfl rfl (AWops.nil (AW.seq ?_))
       rcases itH h with ⟨c8, h⟩ | ⟨c8, h⟩
       ·refine AW.cond_yes rfl c8 (AW.skip (AW.seq (AW.block (AW.seq (AW.region ?_)))))
        refine s_move (d := (si x7)) rfl (s_assign (d := (si x7)) rfl (AWops.nil (AW.seq ?_)))
        refine AW.weak (st' := ⟨61, (upd 61 (upd 61 (upd 61 (upd 61 (upd 61 topF 2 (rf 0 0)) 3 (rf 1 0)) 5 (si x7)) 44 (si (a0.Insts.length : Int))) 45 (si x7)), [(some (AObj.cells true (c_api_Case a0))), (some (AObj.cells true (c_api_Case a1)))]⟩) (wg 0 [0, 1] [] hx (le_upd (le_upd (le_upd (le_upd (le_upd (le_top _) (o1 (.ref rfl))) (o1 (.ref rfl))) (o1 .sc)) (o1 .sc)) (o1 .sc)) (ac (.cells (fun _ => rfl) (ac .sc (ac .sc (ac .same (ac .same (ac .sc an)))))) (ac (.cells (fun _ => rfl) (ac .sc (ac .sc (ac .same (ac .same (ac .sc an)))))) an))) ?_
        obtain ⟨v9, ev9, h⟩ := bnd h
        obtain ⟨pv9, qv9, gv9⟩ := rd_some ev9
        obtain ⟨v10, ev10, h⟩ := bnd h
        obtain ⟨pv10, qv10, gv10⟩ := rd_some ev10
        obtain ⟨r11, er11, h⟩ := bnd h
        refine AW.draw (n := 61) (L := 3) [(ft 0 48 (rf 0 2) [(2, (rf 0 0))]), (1, ⟨some 49, (D.one (C.p false (.sl a0.Insts.length (a0.Insts.flatMap e_api_Inst)))), [(48, (rf 0 2))], [(0, (some (AObj.cells true (c_api_Case a0))))], [], none⟩), (ft 2 50 (si x7) [(5, (si x7))]), (ft 3 51 (D.one (C.peek false (p_api_Inst v9))) [(49, (D.one (C.p false (.sl a0.Insts.length (a0.Insts.flatMap e_api_Inst))))), (50, (si x7))]), (ft 4 52 (D.agg (c_api_Inst v9)) [(51, (D.one (C.peek false (p_api_Inst v9))))]), (ft 5 53 (rf 1 2) [(3, (rf 1 0))]), (6, ⟨some 54, (D.one (C.p false (.sl a1.Insts.length (a1.Insts.flatMap e_api_Inst)))), [(53, (rf 1 2))], [(1, (some (AObj.cells true (c_api_Case a1))))], [], none⟩), (ft 7 55 (si x7) [(5, (si x7))]), (ft 8 56 (D.one (C.peek false (p_api_Inst v10))) [(54, (D.one (C.p false (.sl a1.Insts.length (a1.Insts.flatMap e_api_Inst))))), (55, (si x7))]), (ft 9 57 (D.agg (c_api_Inst v10)) [(56, (D.one (C.peek false (p_api_Inst v10))))]), (ft 10 58 (sb r11) [(52, (D.agg (c_api_Inst v9))), (57, (D.agg (c_api_Inst v10)))]), (ft 11 59 (sb (!r11)) [(58, (sb r11))])] [[], [0], [], [0, 1, 2], [0, 1, 2, 3], [], [5], [], [5, 6, 7], [5, 6, 7, 8], (.range 10), (.range 11)] (nl rfl) [0, 1, 0, 2, 3, 0, 1, 0, 2, 3, 4, 5] rfl (TK := []) rfl AllK.nil' (by repeat (first | refine fC ⟨?_, ?_⟩ ?_ | refine sC rfl ?_ | refine hC rfl ?_ | trivial)) ?_ ?_
        ·refine (pC ?_ (pC ?_ (pC ?_ (pC ?_ (pC ?_ (pC ?_ (pC ?_ (pC ?_ (pC ?_ (pC ?_ (pC ?_ (pC ?_ AllStep.nil'))))))))))))
         ·intro K rest fr hv htk k
          show AWops _ x _ _ K ⟨61, (upd 61 fr 2 (rf 0 0)), [(hv 0), (hv 1), (hv 2)]⟩
          refine s_fieldRef F.fo_25_2 (by decide) rfl k
         ·intro K rest fr hv htk k
          show AWops _ x _ _ K ⟨61, (upd 61 fr 48 (rf 0 2)), [(some (AObj.cells true (c_api_Case a0))), (hv 1), (hv 2)]⟩
          refine s_load1 (c' := (C.p false (.sl a0.Insts.length (a0.Insts.flatMap e_api_Inst)))) F.ag_22 rfl rfl k
         ·intro K rest fr hv htk k
          show AWops _ x _ _ K ⟨61, (upd 61 fr 5 (si x7)), _⟩
          refine s_move (d := (si x7)) rfl k
         ·intro K rest fr hv htk k
          show AWops _ x _ _ K ⟨61, (upd 61 (upd 61 fr 50 (si x7)) 49 (D.one (C.p false (.sl a0.Insts.length (a0.Insts.flatMap e_api_Inst))))), [(hv 0), (hv 1), (hv 2)]⟩
          refine s_indexImm (ps := (p_api_Inst v9)) F.u_22 F.sz_28 rfl rfl pv9 qv9 (flat_at e_api_Inst_len gv9 (e_api_Inst_eq v9)) k
         ·intro K rest fr hv htk k
          show AWops _ x _ _ K ⟨61, (upd 61 fr 51 (D.one (C.peek false (p_api_Inst v9)))), [(hv 0), (hv 1), (hv 2)]⟩
          refine s_loadN (ds := (c_api_Inst v9)) F.ag_28 F.sz_28 rfl rfl rfl k
         ·intro K rest fr hv htk k
          show AWops _ x _ _ K ⟨61, (upd 61 fr 3 (rf 1 0)), [(hv 0), (hv 1), (hv 2)]⟩
          refine s_fieldRef F.fo_25_2 (by decide) rfl k
         ·intro K rest fr hv htk k
          show AWops _ x _ _ K ⟨61, (upd 61 fr 53 (rf 1 2)), [(hv 0), (some (AObj.cells true (c_api_Case a1))), (hv 2)]⟩
          refine s_load1 (c' := (C.p false (.sl a1.Insts.length (a1.Insts.flatMap e_api_Inst)))) F.ag_22 rfl rfl k
         ·intro K rest fr hv htk k
          show AWops _ x _ _ K ⟨61, (upd 61 fr 5 (si x7)), _⟩
          refine s_move (d := (si x7)) rfl k
         ·intro K rest fr hv htk k
          show AWops _ x _ _ K ⟨61, (upd 61 (upd 61 fr 55 (si x7)) 54 (D.one (C.p false (.sl a1.Insts.length (a1.Insts.flatMap e_api_Inst))))), [(hv 0), (hv 1), (hv 2)]⟩
          refine s_indexImm (ps := (p_api_Inst v10)) F.u_22 F.sz_28 rfl rfl pv10 qv10 (flat_at e_api_Inst_len gv10 (e_api_Inst_eq v10)) k
         ·intro K rest fr hv htk k
          show AWops _ x _ _ K ⟨61, (upd 61 fr 56 (D.one (C.peek false (p_api_Inst v10)))), [(hv 0), (hv 1), (hv 2)]⟩
          refine s_loadN (ds := (c_api_Inst v10)) F.ag_28 F.sz_28 rfl rfl rfl k
         ·intro K rest fr hv htk k
          show AWops _ x _ _ K ⟨61, (upd 61 (upd 61 fr 57 (D.agg (c_api_Inst v10))) 52 (D.agg (c_api_Inst v9))), [(hv 0), (hv 1), (hv 2)]⟩
          refine cc [] [(hv 0), (hv 1), (hv 2)] (sb r11) F.ca_23 rfl rfl (ac (LendT.aggL (ac .sc (ac .sc (ac .sc (ac .sc (ac .imm (ac .sc an))))))) (ac (LendT.aggL (ac .sc (ac .sc (ac .sc (ac .sc (ac .imm (ac .sc an))))))) an)) an (dossierref18_SameInst.meets _ v9 v10 r11 er11) k
         ·intro K rest fr hv htk k
          show AWops _ x _ _ K ⟨61, (upd 61 fr 58 (sb r11)), [(hv 0), (hv 1), (hv 2)]⟩
          refine s_not rfl k
        ·refine AWops.weak (st' := ⟨61, (upd 61 (upd 61 (upd 61 (upd 61 (upd 61 topF 2 (rf 0 0)) 3 (rf 1 0)) 44 (si (a0.Insts.length : Int))) 45 (si x7)) 59 (sb (!r11))), [(some (AObj.cells true (c_api_Case a0))), (some (AObj.cells true (c_api_Case a1)))]⟩) (wg 0 [0, 1] [] hx (le_upd (le_upd (le_upd (le_upd (le_upd (le_top _) (o1 (.ref rfl))) (o1 (.ref rfl))) (o1 .sc)) (o1 .sc)) (o1 .sc)) (ac (.cells (fun _ => rfl) (ac .sc (ac .sc (ac .same (ac .same (ac .sc an)))))) (ac (.cells (fun _ => rfl) (ac .sc (ac .sc (ac .same (ac .same (ac .sc an)))))) an))) (AWops.nil ?_)
         rcases itH h with ⟨c12, h⟩ | ⟨c12, h⟩
         ·refine AW.cond_no rfl (by rw [c12] <;> rfl) (AW.skip (AW.region ?_))
          refine s_binI (v := (.int .i64 (IntKind.i64.wrap (x7 + 1)))) rfl rfl rfl (s_move (d := (si (IntKind.i64.wrap (x7 + 1)))) rfl (AWops.nil ?_))
          exact ⟨_, ⟨61, (upd 61 (upd 61 (upd 61 (upd 61 topF 2 (rf 0 0)) 3 (rf 1 0)) 44 (si (a0.Insts.length : Int))) 45 (si (IntKind.i64.wrap (x7 + 1)))), [(some (AObj.cells true (c_api_Case a0))), (some (AObj.cells true (c_api_Case a1)))]⟩, by omega, (wg 0 [0, 1] [] hx (le_upd (le_upd (le_upd (le_upd (le_top _) (o1 (.ref rfl))) (o1 (.ref rfl))) (o1 .sc)) (o1 .sc)) (ac (.cells (fun _ => rfl) (ac .sc (ac .sc (ac .same (ac .same (ac .sc an)))))) (ac (.cells (fun _ => rfl) (ac .sc (ac .sc (ac .same (ac .same (ac .sc an)))))) an))), by omega, IntKind.i64.wrap (x7 + 1), h, rfl⟩
         ·refine AW.cond_yes rfl (by rw [c12] <;> rfl) (AW.seq (AW.region ?_))
          refine s_assign (d := (sb false)) rfl (AWops.nil (AW.ret ?_))
          obtain rfl := Option.some.inj h
          exact ⟨_, rfl, (wg 0 [] [] rfl (le_upd (le_top _) (o1 .sc)) an)⟩
       ·refine AW.cond_no rfl c8 (AW.exit (AW.seq (AW.region ?_)))
        refine s_assign (d := (sb true)) rfl (AWops.nil (AW.ret ?_))
        obtain rfl := Option.some.inj h
        exact ⟨_, rfl, (wg 0 [] [] rfl (le_upd (le_top _) (o1 .sc)) an)⟩
     ·refine AW.cond_yes rfl (by rw [c6] <;> rfl) (AW.seq (AW.region ?_))
      refine s_assign (d := (sb false)) rfl (AWops.nil (AW.ret ?_))
      obtain rfl := Option.some.inj h
      exact ⟨_, rfl, (wg 0 [] [] rfl (le_upd (le_top _) (o1 .sc)) an)⟩
  ·iterate 5 refine AWops.guard_no rfl (nl rfl) rfl (by rw [c2] <;> rfl) ?_
   refine s_pick_yes (d := (sb true)) rfl (by rw [c2] <;> rfl) rfl (s_move (d := (sb true)) rfl ?_)
   iterate 7 refine AWops.guard_no rfl (nl rfl) rfl rfl ?_
   refine s_pick_yes (d := (sb true)) rfl rfl rfl (s_move (d := (sb true)) rfl ?_)
   iterate 6 refine AWops.guard_no rfl (nl rfl) rfl rfl ?_
   refine s_pick_yes (d := (sb true)) rfl rfl rfl (AWops.nil ?_)
   refine AW.cond_yes rfl rfl (AW.seq (AW.region ?_))
   refine s_assign (d := (sb false)) rfl (AWops.nil (AW.ret ?_))
   obtain rfl := Option.some.inj h
   exact ⟨_, rfl, (wg 0 [] [] rfl (le_upd (le_top _) (o1 .sc)) an)⟩
end Go.Abs.GenQ
