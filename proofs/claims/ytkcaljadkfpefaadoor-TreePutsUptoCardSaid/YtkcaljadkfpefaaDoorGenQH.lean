import Derived.Test.YtkcaljadkfpefaaDoorGenQF
import Derived.Test.YtkcaljadkfpefaaDoorGenQd
set_option linter.unusedVariables false
set_option linter.unusedSimpArgs false
set_option maxRecDepth 100000
set_option maxHeartbeats 4000000
namespace Go.Abs.GenQ
open Go.Abs Go.Proofs
theorem dossierref18_Same.meetsF (m : Nat) (k : Nat) (a0 : api_Case) (a1 : api_Case) (r : Bool) (h : dossierref18_Same.f k a0 a1 = some r) : Meets Tryd.prog 9 [(D.agg (c_api_CaseF m a0)), (D.agg (c_api_Case a1))] [] (sb r) [] := by
 unfold dossierref18_Same.f at h
 refine Meets.of_body (n := 61) Tryd.func9 rfl rfl (nl rfl) fun x hx => ?_
 replace hx : x.k = 0 := hx
 show AW _ x _ _ ⟨61, fr0 [(D.agg (c_api_CaseF m a0)), (D.agg (c_api_Case a1))], []⟩
 refine AW.seq (AW.region ?_)
 refine s_box (cs := (c_api_CaseF m a0)) rfl (List.cons_ne_nil _ _) rfl (s_box (cs := (c_api_Case a1)) rfl (List.cons_ne_nil _ _) rfl (s_assign (d := (sb false)) rfl (AWops.nil (AW.seq (AW.seq (AW.region (s_fieldRef F.fo_25_0 (by decide) rfl (s_load1 (c' := (ci a0.ID)) F.ag_3 rfl rfl (s_fieldRef F.fo_25_0 (by decide) rfl ?_)))))))))
 refine s_load1 (c' := (ci a1.ID)) F.ag_3 rfl rfl (s_binI (v := (.bool (a0.ID != a1.ID))) rfl rfl rfl (s_move (d := (sb (a0.ID != a1.ID))) rfl ?_))
 rcases itH h with ⟨c1, h⟩ | ⟨c1, h⟩
 ·iterate 5 refine AWops.guard_no rfl (nl rfl) rfl c1 ?_
  refine s_pick_yes (d := (sb true)) rfl c1 rfl (s_move (d := (sb true)) rfl ?_)
  iterate 5 refine AWops.guard_no rfl (nl rfl) rfl rfl ?_
  refine s_pick_yes (d := (sb true)) rfl rfl rfl (s_move (d := (sb true)) rfl ?_)
  iterate 7 refine AWops.guard_no rfl (nl rfl) rfl rfl ?_
  refine s_pick_yes (d := (sb true)) rfl rfl rfl (s_move (d := (sb true)) rfl ?_)
  iterate 6 refine AWops.guard_no rfl (nl rfl) rfl rfl ?_
  refine s_pick_yes (d := (sb true)) rfl rfl rfl (AWops.nil ?_)
  refine AW.cond_yes rfl rfl (AW.seq (AW.region ?_))
  refine s_assign (d := (sb false)) rfl (AWops.nil (AW.ret ?_))
  obtain rfl := Option.some.inj h
  exact ⟨_, rfl, (wg 0 [] [] rfl (le_upd (le_top _) (o1 .sc)) an)⟩
 ·refine AWops.guard_yes rfl (nl rfl) rfl c1 ?_
  refine s_fieldRef F.fo_25_1 (by decide) rfl ?_
  refine AWops.guard_yes rfl (nl rfl) rfl c1 ?_
  refine s_load1 (c' := (ct a0.Model)) F.ag_9 rfl rfl ?_
  refine AWops.guard_yes rfl (nl rfl) rfl c1 ?_
  refine s_fieldRef F.fo_25_1 (by decide) rfl ?_
  refine AWops.guard_yes rfl (nl rfl) rfl c1 ?_
  refine s_load1 (c' := (ct a1.Model)) F.ag_9 rfl rfl ?_
  refine AWops.guard_yes rfl (nl rfl) rfl c1 ?_
  refine s_binS (v := (.bool (!(a0.Model.toList == a1.Model.toList)))) rfl rfl rfl (s_pick_no (d := (sb (!(a0.Model.toList == a1.Model.toList)))) rfl c1 rfl (s_move (d := (sb (!(a0.Model.toList == a1.Model.toList)))) rfl ?_))
  rcases itH h with ⟨c2, h⟩ | ⟨c2, h⟩
  ·refine AWops.guard_yes rfl (nl rfl) rfl (by rw [c2] <;> rfl) ?_
   refine s_fieldRef F.fo_25_4 (by decide) rfl ?_
   refine AWops.guard_yes rfl (nl rfl) rfl (by rw [c2] <;> rfl) ?_
   refine s_load1 (c' := (ci a0.Clock)) F.ag_3 rfl rfl ?_
   refine AWops.guard_yes rfl (nl rfl) rfl (by rw [c2] <;> rfl) ?_
   refine s_fieldRef F.fo_25_4 (by decide) rfl ?_
   refine AWops.guard_yes rfl (nl rfl) rfl (by rw [c2] <;> rfl) ?_
   refine s_load1 (c' := (ci a1.Clock)) F.ag_3 rfl rfl ?_
   refine AWops.guard_yes rfl (nl rfl) rfl (by rw [c2] <;> rfl) ?_
   refine s_binI (v := (.bool (a0.Clock != a1.Clock))) rfl rfl rfl (s_pick_no (d := (sb (a0.Clock != a1.Clock))) rfl (by rw [c2] <;> rfl) rfl (s_move (d := (sb (a0.Clock != a1.Clock))) rfl ?_))
   rcases itH h with ⟨c3, h⟩ | ⟨c3, h⟩
   ·iterate 7 refine AWops.guard_no rfl (nl rfl) rfl c3 ?_
    refine s_pick_yes (d := (sb true)) rfl c3 rfl (s_move (d := (sb true)) rfl ?_)
    iterate 6 refine AWops.guard_no rfl (nl rfl) rfl rfl ?_
    refine s_pick_yes (d := (sb true)) rfl rfl rfl (AWops.nil ?_)
    refine AW.cond_yes rfl rfl (AW.seq (AW.region ?_))
    refine s_assign (d := (sb false)) rfl (AWops.nil (AW.ret ?_))
    obtain rfl := Option.some.inj h
    exact ⟨_, rfl, (wg 0 [] [] rfl (le_upd (le_top _) (o1 .sc)) an)⟩
   ·refine AWops.guard_yes rfl (nl rfl) rfl c3 ?_
    refine s_fieldRef F.fo_25_2 (by decide) rfl ?_
    refine AWops.guard_yes rfl (nl rfl) rfl c3 ?_
    refine s_load1 (c' := (C.p false (.sl a0.Insts.length (a0.Insts.flatMap (e_api_InstF m))))) F.ag_22 rfl rfl ?_
    refine AWops.guard_yes rfl (nl rfl) rfl c3 ?_
    refine s_len (n := a0.Insts.length) F.u_22 rfl (.inr ⟨(fun _ _ h => by cases h), ⟨_, rfl⟩⟩) ?_
    refine AWops.guard_yes rfl (nl rfl) rfl c3 ?_
    refine s_fieldRef F.fo_25_2 (by decide) rfl ?_
    refine AWops.guard_yes rfl (nl rfl) rfl c3 ?_
    refine s_load1 (c' := (C.p false (.sl a1.Insts.length (a1.Insts.flatMap e_api_Inst)))) F.ag_22 rfl rfl ?_
    refine AWops.guard_yes rfl (nl rfl) rfl c3 ?_
    refine s_len (n := a1.Insts.length) F.u_22 rfl (.inr ⟨(fun _ _ h => by cases h), ⟨_, rfl⟩⟩) ?_
    refine AWops.guard_yes rfl (nl rfl) rfl c3 ?_
    refine s_binI (v := (.bool ((a0.Insts.length : Int) != (a1.Insts.length : Int)))) rfl rfl rfl (s_pick_no (d := (sb ((a0.Insts.length : Int) != (a1.Insts.length : Int)))) rfl c3 rfl (s_move (d := (sb ((a0.Insts.length : Int) != (a1.Insts.length : Int)))) rfl ?_))
    rcases itH h with ⟨c4, h⟩ | ⟨c4, h⟩
    ·iterate 6 refine AWops.guard_no rfl (nl rfl) rfl c4 ?_
     refine s_pick_yes (d := (sb true)) rfl c4 rfl (AWops.nil ?_)
     refine AW.cond_yes rfl rfl (AW.seq (AW.region ?_))
     refine s_assign (d := (sb false)) rfl (AWops.nil (AW.ret ?_))
     obtain rfl := Option.some.inj h
     exact ⟨_, rfl, (wg 0 [] [] rfl (le_upd (le_top _) (o1 .sc)) an)⟩
    ·refine AWops.guard_yes rfl (nl rfl) rfl c4 ?_
     refine s_fieldRef F.fo_25_3 (by decide) rfl ?_
     refine AWops.guard_yes rfl (nl rfl) rfl c4 ?_
     refine s_load1 (c' := (C.p false (.sl a0.Docs.length (a0.Docs.flatMap e_api_Doc)))) F.ag_23 rfl rfl ?_
     refine AWops.guard_yes rfl (nl rfl) rfl c4 ?_
     refine s_fieldRef F.fo_25_3 (by decide) rfl ?_
     refine AWops.guard_yes rfl (nl rfl) rfl c4 ?_
     refine s_load1 (c' := (C.p false (.sl a1.Docs.length (a1.Docs.flatMap e_api_Doc)))) F.ag_23 rfl rfl ?_
     refine AWops.guard_yes rfl (nl rfl) rfl c4 ?_
     obtain ⟨r5, er5, h⟩ := bnd h
     refine cc [] [(some (AObj.cells true (c_api_CaseF m a0))), (some (AObj.cells true (c_api_Case a1)))] (sb r5) F.ca_22 rfl rfl (ac (.one .imm) (ac (.one .imm) an)) an (dossierref16_Same.meets _ a0.Docs a1.Docs r5 er5) ?_
     refine AWops.guard_yes rfl (nl rfl) rfl c4 ?_
     refine s_not rfl (s_pick_no (d := (sb (!r5))) rfl c4 rfl (AWops.nil ?_))
     rcases itH h with ⟨c6, h⟩ | ⟨c6, h⟩
     ·refine AW.cond_no rfl (by rw [c6] <;> rfl) (AW.skip (AW.seq (AW.seq (AW.region ?_))))
      refine s_fieldRef F.fo_25_2 (by decide) rfl (s_load1 (c' := (C.p false (.sl a0.Insts.length (a0.Insts.flatMap (e_api_InstF m))))) F.ag_22 rfl rfl (s_len (n := a0.Insts.length) F.u_22 rfl (.inr ⟨(fun _ _ h => by cases h), ⟨_, rfl⟩⟩) (s_move (d := (si 0)) rfl (AWops.nil (AW.block ?_)))))
      refine AW.loopw (st0 := ⟨61, (upd 61 (upd 61 (upd 61 (upd 61 topF 2 (rf 0 0)) 3 (rf 1 0)) 44 (si (a0.Insts.length : Int))) 45 (si 0)), [(some (AObj.cells true (c_api_CaseF m a0))), (some (AObj.cells true (c_api_Case a1)))]⟩) (fun kv st => kv ≤ k ∧ ∃ (x7 : Int), dossierref18_Same.l0 kv x7 a0 a1 = some r ∧ st = ⟨61, (upd 61 (upd 61 (upd 61 (upd 61 topF 2 (rf 0 0)) 3 (rf 1 0)) 44 (si (a0.Insts.length : Int))) 45 (si x7)), [(some (AObj.cells true (c_api_CaseF m a0))), (some (AObj.cells true (c_api_Case a1)))]⟩) (k := k) (wg 0 [0, 1] [] hx (le_upd (le_upd (le_upd (le_upd (le_top _) (o1 (.ref rfl))) (o1 (.ref rfl))) (o1 .sc)) (o1 .sc)) (ac (.cells (fun _ => rfl) (ac .sc (ac .sc (ac .same (ac .same (ac .sc an)))))) (ac (.cells (fun _ => rfl) (ac .sc (ac .sc (ac .same (ac .same (ac .sc an)))))) an))) ⟨Nat.le_refl _, 0, h, rfl⟩ ?_
      rintro ql0 st ⟨hkl0, x7, h, rfl⟩
      cases ql0 with
      | zero => exact absurd h (by simp [dossierref18_Same.l0])
      | succ ql0 =>
       replace h := (dossierref18_Same.l0.eq_2 _ _ _ _).symm.trans h
       refine AW.seq (AW.region ?_)
       refine s_binI (v := (.bool (decide (x7 < (a0.Insts.length : Int))))) rfl rfl rfl (AWops.nil (AW.seq ?_))
       rcases itH h with ⟨c8, h⟩ | ⟨c8, h⟩
       ·refine AW.cond_yes rfl c8 (AW.skip (AW.seq (AW.block (AW.seq (AW.region ?_)))))
        refine s_move (d := (si x7)) rfl (s_assign (d := (si x7)) rfl (AWops.nil (AW.seq ?_)))
        refine AW.weak (st' := ⟨61, (upd 61 (upd 61 (upd 61 (upd 61 (upd 61 topF 2 (rf 0 0)) 3 (rf 1 0)) 5 (si x7)) 44 (si (a0.Insts.length : Int))) 45 (si x7)), [(some (AObj.cells true (c_api_CaseF m a0))), (some (AObj.cells true (c_api_Case a1)))]⟩) (wg 0 [0, 1] [] hx (le_upd (le_upd (le_upd (le_upd (le_upd (le_top _) (o1 (.ref rfl))) (o1 (.ref rfl))) (o1 .sc)) (o1 .sc)) (o1 .sc)) (ac (.cells (fun _ => rfl) (ac .sc (ac .sc (ac .same (ac .same (ac .sc an)))))) (ac (.cells (fun _ => rfl) (ac .sc (ac .sc (ac .same (ac .same (ac .sc an)))))) an))) ?_
        obtain ⟨v9, ev9, h⟩ := bnd h
        obtain ⟨pv9, qv9, gv9⟩ := rd_some ev9
        obtain ⟨v10, ev10, h⟩ := bnd h
        obtain ⟨pv10, qv10, gv10⟩ := rd_some ev10
        obtain ⟨r11, er11, h⟩ := bnd h
        refine AW.draw (n := 61) (L := 3) [(ft 0 48 (rf 0 2) [(2, (rf 0 0))]), (1, ⟨some 49, (D.one (C.p false (.sl a0.Insts.length (a0.Insts.flatMap (e_api_InstF m))))), [(48, (rf 0 2))], [(0, (some (AObj.cells true (c_api_CaseF m a0))))], [], none⟩), (ft 2 50 (si x7) [(5, (si x7))]), (ft 3 51 (D.one (C.peek false (p_api_InstF m v9))) [(49, (D.one (C.p false (.sl a0.Insts.length (a0.Insts.flatMap (e_api_InstF m)))))), (50, (si x7))]), (ft 4 52 (D.agg (c_api_InstF m v9)) [(51, (D.one (C.peek false (p_api_InstF m v9))))]), (ft 5 53 (rf 1 2) [(3, (rf 1 0))]), (6, ⟨some 54, (D.one (C.p false (.sl a1.Insts.length (a1.Insts.flatMap e_api_Inst)))), [(53, (rf 1 2))], [(1, (some (AObj.cells true (c_api_Case a1))))], [], none⟩), (ft 7 55 (si x7) [(5, (si x7))]), (ft 8 56 (D.one (C.peek false (p_api_Inst v10))) [(54, (D.one (C.p false (.sl a1.Insts.length (a1.Insts.flatMap e_api_Inst))))), (55, (si x7))]), (ft 9 57 (D.agg (c_api_Inst v10)) [(56, (D.one (C.peek false (p_api_Inst v10))))]), (ft 10 58 (sb r11) [(52, (D.agg (c_api_InstF m v9))), (57, (D.agg (c_api_Inst v10)))]), (ft 11 59 (sb (!r11)) [(58, (sb r11))])] [[], [0], [], [0, 1, 2], [0, 1, 2, 3], [], [5], [], [5, 6, 7], [5, 6, 7, 8], (.range 10), (.range 11)] (nl rfl) [0, 1, 0, 2, 3, 0, 1, 0, 2, 3, 4, 5] rfl (TK := []) rfl AllK.nil' (by repeat (first | refine fC ⟨?_, ?_⟩ ?_ | refine sC rfl ?_ | refine hC rfl ?_ | trivial)) ?_ ?_
        ·refine (pC ?_ (pC ?_ (pC ?_ (pC ?_ (pC ?_ (pC ?_ (pC ?_ (pC ?_ (pC ?_ (pC ?_ (pC ?_ (pC ?_ AllStep.nil'))))))))))))
         ·intro K rest fr hv htk k
          show AWops _ x _ _ K ⟨61, (upd 61 fr 2 (rf 0 0)), [(hv 0), (hv 1), (hv 2)]⟩
          refine s_fieldRef F.fo_25_2 (by decide) rfl k
         ·intro K rest fr hv htk k
          show AWops _ x _ _ K ⟨61, (upd 61 fr 48 (rf 0 2)), [(some (AObj.cells true (c_api_CaseF m a0))), (hv 1), (hv 2)]⟩
          refine s_load1 (c' := (C.p false (.sl a0.Insts.length (a0.Insts.flatMap (e_api_InstF m))))) F.ag_22 rfl rfl k
         ·intro K rest fr hv htk k
          show AWops _ x _ _ K ⟨61, (upd 61 fr 5 (si x7)), _⟩
          refine s_move (d := (si x7)) rfl k
         ·intro K rest fr hv htk k
          show AWops _ x _ _ K ⟨61, (upd 61 (upd 61 fr 50 (si x7)) 49 (D.one (C.p false (.sl a0.Insts.length (a0.Insts.flatMap (e_api_InstF m)))))), [(hv 0), (hv 1), (hv 2)]⟩
          refine s_indexImm (ps := (p_api_InstF m v9)) F.u_22 F.sz_28 rfl rfl pv9 qv9 (flat_at (e_api_InstF_len m) gv9 (e_api_InstF_eq m v9)) k
         ·intro K rest fr hv htk k
          show AWops _ x _ _ K ⟨61, (upd 61 fr 51 (D.one (C.peek false (p_api_InstF m v9)))), [(hv 0), (hv 1), (hv 2)]⟩
          refine s_loadN (ds := (c_api_InstF m v9)) F.ag_28 F.sz_28 rfl rfl rfl k
         ·intro K rest fr hv htk k
          show AWops _ x _ _ K ⟨61, (upd 61 fr 3 (rf 1 0)), [(hv 0), (hv 1), (hv 2)]⟩
          refine s_fieldRef F.fo_25_2 (by decide) rfl k
         ·intro K rest fr hv htk k
          show AWops _ x _ _ K ⟨61, (upd 61 fr 53 (rf 1 2)), [(hv 0), (some (AObj.cells true (c_api_Case a1))), (hv 2)]⟩
          refine s_load1 (c' := (C.p false (.sl a1.Insts.length (a1.Insts.flatMap e_api_Inst)))) F.ag_22 rfl rfl k
         ·intro K rest fr hv htk k
          show AWops _ x _ _ K ⟨61, (upd 61 fr 5 (si x7)), _⟩
          refine s_move (d := (si x7)) rfl k
         ·intro K rest fr hv htk k
          show AWops _ x _ _ K ⟨61, (upd 61 (upd 61 fr 55 (si x7)) 54 (D.one (C.p false (.sl a1.Insts.length (a1.Insts.flatMap e_api_Inst))))), [(hv 0), (hv 1), (hv 2)]⟩
          refine s_indexImm (ps := (p_api_Inst v10)) F.u_22 F.sz_28 rfl rfl pv10 qv10 (flat_at e_api_Inst_len gv10 (e_api_Inst_eq v10)) k
         ·intro K rest fr hv htk k
          show AWops _ x _ _ K ⟨61, (upd 61 fr 56 (D.one (C.peek false (p_api_Inst v10)))), [(hv 0), (hv 1), (hv 2)]⟩
          refine s_loadN (ds := (c_api_Inst v10)) F.ag_28 F.sz_28 rfl rfl rfl k
         ·intro K rest fr hv htk k
          show AWops _ x _ _ K ⟨61, (upd 61 (upd 61 fr 57 (D.agg (c_api_Inst v10))) 52 (D.agg (c_api_InstF m v9))), [(hv 0), (hv 1), (hv 2)]⟩
          refine cc [] [(hv 0), (hv 1), (hv 2)] (sb r11) F.ca_23 rfl rfl (ac (LendT.aggL (ac .sc (ac .sc (ac .sc (ac .sc (ac .fs (ac .sc an))))))) (ac (LendT.aggL (ac .sc (ac .sc (ac .sc (ac .sc (ac .imm (ac .sc an))))))) an)) an (dossierref18_SameInst.meets _ v9 v10 r11 er11) k
         ·intro K rest fr hv htk k
          show AWops _ x _ _ K ⟨61, (upd 61 fr 58 (sb r11)), [(hv 0), (hv 1), (hv 2)]⟩
          refine s_not rfl k
        ·refine AWops.weak (st' := ⟨61, (upd 61 (upd 61 (upd 61 (upd 61 (upd 61 topF 2 (rf 0 0)) 3 (rf 1 0)) 44 (si (a0.Insts.length : Int))) 45 (si x7)) 59 (sb (!r11))), [(some (AObj.cells true (c_api_CaseF m a0))), (some (AObj.cells true (c_api_Case a1)))]⟩) (wg 0 [0, 1] [] hx (le_upd (le_upd (le_upd (le_upd (le_upd (le_top _) (o1 (.ref rfl))) (o1 (.ref rfl))) (o1 .sc)) (o1 .sc)) (o1 .sc)) (ac (.cells (fun _ => rfl) (ac .sc (ac .sc (ac .same (ac .same (ac .sc an)))))) (ac (.cells (fun _ => rfl) (ac .sc (ac .sc (ac .same (ac .same (ac .sc an)))))) an))) (AWops.nil ?_)
         rcases itH h with ⟨c12, h⟩ | ⟨c12, h⟩
         ·refine AW.cond_no rfl (by rw [c12] <;> rfl) (AW.skip (AW.region ?_))
          refine s_binI (v := (.int .i64 (IntKind.i64.wrap (x7 + 1)))) rfl rfl rfl (s_move (d := (si (IntKind.i64.wrap (x7 + 1)))) rfl (AWops.nil ?_))
          exact ⟨_, ⟨61, (upd 61 (upd 61 (upd 61 (upd 61 topF 2 (rf 0 0)) 3 (rf 1 0)) 44 (si (a0.Insts.length : Int))) 45 (si (IntKind.i64.wrap (x7 + 1)))), [(some (AObj.cells true (c_api_CaseF m a0))), (some (AObj.cells true (c_api_Case a1)))]⟩, by omega, (wg 0 [0, 1] [] hx (le_upd (le_upd (le_upd (le_upd (le_top _) (o1 (.ref rfl))) (o1 (.ref rfl))) (o1 .sc)) (o1 .sc)) (ac (.cells (fun _ => rfl) (ac .sc (ac .sc (ac .same (ac .same (ac .sc an)))))) (ac (.cells (fun _ => rfl) (ac .sc (ac .sc (ac .same (ac .same (ac .sc an)))))) an))), by omega, IntKind.i64.wrap (x7 + 1), h, rfl⟩
         ·refine AW.cond_yes rfl (by rw [c12] <;> rfl) (AW.seq (AW.region ?_))
          refine s_assign (d := (sb false)) rfl (AWops.nil (AW.ret ?_))
          obtain rfl := Option.some.inj h
          exact ⟨_, rfl, (wg 0 [] [] rfl (le_upd (le_top _) (o1 .sc)) an)⟩
       ·refine AW.cond_no rfl c8 (AW.exit (AW.seq (AW.region ?_)))
        refine s_assign (d := (sb true)) rfl (AWops.nil (AW.ret ?_))
        obtain rfl := Option.some.inj h
        exact ⟨_, rfl, (wg 0 [] [] rfl (le_upd (le_top _) (o1 .sc)) an)⟩
     ·refine AW.cond_yes rfl (by rw [c6] <;> rfl) (AW.seq (AW.region ?_))
      refine s_assign (d := (sb false)) rfl (AWops.nil (AW.ret ?_))
      obtain rfl := Option.some.inj h
      exact ⟨_, rfl, (wg 0 [] [] rfl (le_upd (le_top _) (o1 .sc)) an)⟩
  ·iterate 5 refine AWops.guard_no rfl (nl rfl) rfl (by rw [c2] <;> rfl) ?_
   refine s_pick_yes (d := (sb true)) rfl (by rw [c2] <;> rfl) rfl (s_move (d := (sb true)) rfl ?_)
   iterate 7 refine AWops.guard_no rfl (nl rfl) rfl rfl ?_
   refine s_pick_yes (d := (sb true)) rfl rfl rfl (s_move (d := (sb true)) rfl ?_)
   iterate 6 refine AWops.guard_no rfl (nl rfl) rfl rfl ?_
   refine s_pick_yes (d := (sb true)) rfl rfl rfl (AWops.nil ?_)
   refine AW.cond_yes rfl rfl (AW.seq (AW.region ?_))
   refine s_assign (d := (sb false)) rfl (AWops.nil (AW.ret ?_))
   obtain rfl := Option.some.inj h
   exact ⟨_, rfl, (wg 0 [] [] rfl (le_upd (le_top _) (o1 .sc)) an)⟩
end Go.Abs.GenQ
