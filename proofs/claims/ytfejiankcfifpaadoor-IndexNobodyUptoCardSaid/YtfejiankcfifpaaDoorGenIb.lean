import Derived.Test.YtfejiankcfifpaaDoorGenIa
set_option linter.unusedVariables false
set_option linter.unusedSimpArgs false
set_option maxRecDepth 100000
set_option maxHeartbeats 4000000
namespace Go.Abs.GenI
open Go.Abs Go.Proofs
mutual
def dossierref18_SameInst.l0 : Nat → Int → api_Inst → api_Inst → Option Bool
 | 0, _, _, _ => none
 | k + 1, x7, a0, a1 => if (decide (x7 < (a0.Latches.length : Int))) = true then ((rd a0.Latches x7).bind fun v9 => (rd a1.Latches x7).bind fun v10 => if (v9 != v10) = true then (some false) else (dossierref18_SameInst.l0 k (IntKind.i64.wrap (x7 + 1)) a0 a1)) else (some true)
end
def dossierref18_SameInst.f (k : Nat) (a0 : api_Inst) (a1 : api_Inst) : Option Bool := if (a0.Path.toList == a1.Path.toList) = true then (if (a0.Item.toList == a1.Item.toList) = true then (if (a0.State != a1.State) = true then (some false) else (if (a0.Before != a1.Before) = true then (some false) else (if (a0.Due != a1.Due) = true then (some false) else (if ((a0.Latches.length : Int) != (a1.Latches.length : Int)) = true then (some false) else (dossierref18_SameInst.l0 k 0 a0 a1))))) else (some false)) else (some false)
theorem dossierref18_SameInst.meets (k : Nat) (a0 : api_Inst) (a1 : api_Inst) (r : Bool) (h : dossierref18_SameInst.f k a0 a1 = some r) : Meets Tryd.prog 20 [(D.agg (c_api_Inst a0)), (D.agg (c_api_Inst a1))] [] (sb r) [] := by
 unfold dossierref18_SameInst.f at h
 refine Meets.of_body (n := 66) Tryd.func20 rfl rfl (nl rfl) fun x hx => ?_
 replace hx : x.k = 0 := hx
 show AW _ x _ _ ⟨66, fr0 [(D.agg (c_api_Inst a0)), (D.agg (c_api_Inst a1))], []⟩
 refine AW.seq (AW.region ?_)
 refine s_box (cs := (c_api_Inst a0)) rfl (List.cons_ne_nil _ _) rfl (s_box (cs := (c_api_Inst a1)) rfl (List.cons_ne_nil _ _) rfl (s_assign (d := (sb false)) rfl (AWops.nil (AW.seq (AW.seq (AW.region (s_fieldRef F.fo_51_0 (by decide) rfl (s_load1 (c' := (ct a0.Path)) F.ag_9 rfl rfl (s_fieldRef F.fo_51_0 (by decide) rfl ?_)))))))))
 refine s_load1 (c' := (ct a1.Path)) F.ag_9 rfl rfl (s_binS (v := (.bool (!(a0.Path.toList == a1.Path.toList)))) rfl rfl rfl (s_move (d := (sb (!(a0.Path.toList == a1.Path.toList)))) rfl ?_))
 rcases itH h with ⟨c1, h⟩ | ⟨c1, h⟩
 ·refine AWops.guard_yes rfl (nl rfl) rfl (by rw [c1] <;> rfl) ?_
  refine s_fieldRef F.fo_51_1 (by decide) rfl ?_
  refine AWops.guard_yes rfl (nl rfl) rfl (by rw [c1] <;> rfl) ?_
  refine s_load1 (c' := (ct a0.Item)) F.ag_9 rfl rfl ?_
  refine AWops.guard_yes rfl (nl rfl) rfl (by rw [c1] <;> rfl) ?_
  refine s_fieldRef F.fo_51_1 (by decide) rfl ?_
  refine AWops.guard_yes rfl (nl rfl) rfl (by rw [c1] <;> rfl) ?_
  refine s_load1 (c' := (ct a1.Item)) F.ag_9 rfl rfl ?_
  refine AWops.guard_yes rfl (nl rfl) rfl (by rw [c1] <;> rfl) ?_
  refine s_binS (v := (.bool (!(a0.Item.toList == a1.Item.toList)))) rfl rfl rfl (s_pick_no (d := (sb (!(a0.Item.toList == a1.Item.toList)))) rfl (by rw [c1] <;> rfl) rfl (s_move (d := (sb (!(a0.Item.toList == a1.Item.toList)))) rfl ?_))
  rcases itH h with ⟨c2, h⟩ | ⟨c2, h⟩
  ·refine AWops.guard_yes rfl (nl rfl) rfl (by rw [c2] <;> rfl) ?_
   refine s_fieldRef F.fo_51_2 (by decide) rfl ?_
   refine AWops.guard_yes rfl (nl rfl) rfl (by rw [c2] <;> rfl) ?_
   refine s_load1 (c' := (ci a0.State)) F.ag_3 rfl rfl ?_
   refine AWops.guard_yes rfl (nl rfl) rfl (by rw [c2] <;> rfl) ?_
   refine s_fieldRef F.fo_51_2 (by decide) rfl ?_
   refine AWops.guard_yes rfl (nl rfl) rfl (by rw [c2] <;> rfl) ?_
   refine s_load1 (c' := (ci a1.State)) F.ag_3 rfl rfl ?_
   refine AWops.guard_yes rfl (nl rfl) rfl (by rw [c2] <;> rfl) ?_
   refine s_binI (v := (.bool (a0.State != a1.State))) rfl rfl rfl (s_pick_no (d := (sb (a0.State != a1.State))) rfl (by rw [c2] <;> rfl) rfl (s_move (d := (sb (a0.State != a1.State))) rfl ?_))
   rcases itH h with ⟨c3, h⟩ | ⟨c3, h⟩
   ·iterate 5 refine AWops.guard_no rfl (nl rfl) rfl c3 ?_
    refine s_pick_yes (d := (sb true)) rfl c3 rfl (s_move (d := (sb true)) rfl ?_)
    iterate 5 refine AWops.guard_no rfl (nl rfl) rfl rfl ?_
    refine s_pick_yes (d := (sb true)) rfl rfl rfl (s_move (d := (sb true)) rfl ?_)
    iterate 7 refine AWops.guard_no rfl (nl rfl) rfl rfl ?_
    refine s_pick_yes (d := (sb true)) rfl rfl rfl (AWops.nil ?_)
    refine AW.cond_yes rfl rfl (AW.seq (AW.region ?_))
    refine s_assign (d := (sb false)) rfl (AWops.nil (AW.ret ?_))
    obtain rfl := Option.some.inj h
    exact ⟨_, rfl, (wg 0 [] [] rfl (le_upd (le_top _) (o1 .sc)) an)⟩
   ·refine AWops.guard_yes rfl (nl rfl) rfl c3 ?_
    refine s_fieldRef F.fo_51_3 (by decide) rfl ?_
    refine AWops.guard_yes rfl (nl rfl) rfl c3 ?_
    refine s_load1 (c' := (ci a0.Before)) F.ag_3 rfl rfl ?_
    refine AWops.guard_yes rfl (nl rfl) rfl c3 ?_
    refine s_fieldRef F.fo_51_3 (by decide) rfl ?_
    refine AWops.guard_yes rfl (nl rfl) rfl c3 ?_
    refine s_load1 (c' := (ci a1.Before)) F.ag_3 rfl rfl ?_
    refine AWops.guard_yes rfl (nl rfl) rfl c3 ?_
    refine s_binI (v := (.bool (a0.Before != a1.Before))) rfl rfl rfl (s_pick_no (d := (sb (a0.Before != a1.Before))) rfl c3 rfl (s_move (d := (sb (a0.Before != a1.Before))) rfl ?_))
    rcases itH h with ⟨c4, h⟩ | ⟨c4, h⟩
    ·iterate 5 refine AWops.guard_no rfl (nl rfl) rfl c4 ?_
     refine s_pick_yes (d := (sb true)) rfl c4 rfl (s_move (d := (sb true)) rfl ?_)
     iterate 7 refine AWops.guard_no rfl (nl rfl) rfl rfl ?_
     refine s_pick_yes (d := (sb true)) rfl rfl rfl (AWops.nil ?_)
     refine AW.cond_yes rfl rfl (AW.seq (AW.region ?_))
     refine s_assign (d := (sb false)) rfl (AWops.nil (AW.ret ?_))
     obtain rfl := Option.some.inj h
     exact ⟨_, rfl, (wg 0 [] [] rfl (le_upd (le_top _) (o1 .sc)) an)⟩
    ·refine AWops.guard_yes rfl (nl rfl) rfl c4 ?_
     refine s_fieldRef F.fo_51_5 (by decide) rfl ?_
     refine AWops.guard_yes rfl (nl rfl) rfl c4 ?_
     refine s_load1 (c' := (ci a0.Due)) F.ag_3 rfl rfl ?_
     refine AWops.guard_yes rfl (nl rfl) rfl c4 ?_
     refine s_fieldRef F.fo_51_5 (by decide) rfl ?_
     refine AWops.guard_yes rfl (nl rfl) rfl c4 ?_
     refine s_load1 (c' := (ci a1.Due)) F.ag_3 rfl rfl ?_
     refine AWops.guard_yes rfl (nl rfl) rfl c4 ?_
     refine s_binI (v := (.bool (a0.Due != a1.Due))) rfl rfl rfl (s_pick_no (d := (sb (a0.Due != a1.Due))) rfl c4 rfl (s_move (d := (sb (a0.Due != a1.Due))) rfl ?_))
     rcases itH h with ⟨c5, h⟩ | ⟨c5, h⟩
     ·iterate 7 refine AWops.guard_no rfl (nl rfl) rfl c5 ?_
      refine s_pick_yes (d := (sb true)) rfl c5 rfl (AWops.nil ?_)
      refine AW.cond_yes rfl rfl (AW.seq (AW.region ?_))
      refine s_assign (d := (sb false)) rfl (AWops.nil (AW.ret ?_))
      obtain rfl := Option.some.inj h
      exact ⟨_, rfl, (wg 0 [] [] rfl (le_upd (le_top _) (o1 .sc)) an)⟩
     ·refine AWops.guard_yes rfl (nl rfl) rfl c5 ?_
      refine s_fieldRef F.fo_51_4 (by decide) rfl ?_
      refine AWops.guard_yes rfl (nl rfl) rfl c5 ?_
      refine s_load1 (c' := (C.p false (.sl a0.Latches.length (a0.Latches.flatMap e_i64)))) F.ag_49 rfl rfl ?_
      refine AWops.guard_yes rfl (nl rfl) rfl c5 ?_
      refine s_len (n := a0.Latches.length) F.u_49 rfl (.inr ⟨(fun _ _ h => by cases h), ⟨_, rfl⟩⟩) ?_
      refine AWops.guard_yes rfl (nl rfl) rfl c5 ?_
      refine s_fieldRef F.fo_51_4 (by decide) rfl ?_
      refine AWops.guard_yes rfl (nl rfl) rfl c5 ?_
      refine s_load1 (c' := (C.p false (.sl a1.Latches.length (a1.Latches.flatMap e_i64)))) F.ag_49 rfl rfl ?_
      refine AWops.guard_yes rfl (nl rfl) rfl c5 ?_
      refine s_len (n := a1.Latches.length) F.u_49 rfl (.inr ⟨(fun _ _ h => by cases h), ⟨_, rfl⟩⟩) ?_
      refine AWops.guard_yes rfl (nl rfl) rfl c5 ?_
      refine s_binI (v := (.bool ((a0.Latches.length : Int) != (a1.Latches.length : Int)))) rfl rfl rfl (s_pick_no (d := (sb ((a0.Latches.length : Int) != (a1.Latches.length : Int)))) rfl c5 rfl (AWops.nil ?_))
      rcases itH h with ⟨c6, h⟩ | ⟨c6, h⟩
      ·refine AW.cond_yes rfl c6 (AW.seq (AW.region ?_))
       refine s_assign (d := (sb false)) rfl (AWops.nil (AW.ret ?_))
       obtain rfl := Option.some.inj h
       exact ⟨_, rfl, (wg 0 [] [] rfl (le_upd (le_top _) (o1 .sc)) an)⟩
      ·refine AW.cond_no rfl c6 (AW.skip (AW.seq (AW.seq (AW.region ?_))))
       refine s_fieldRef F.fo_51_4 (by decide) rfl (s_load1 (c' := (C.p false (.sl a0.Latches.length (a0.Latches.flatMap e_i64)))) F.ag_49 rfl rfl (s_len (n := a0.Latches.length) F.u_49 rfl (.inr ⟨(fun _ _ h => by cases h), ⟨_, rfl⟩⟩) (s_move (d := (si 0)) rfl (AWops.nil (AW.block ?_)))))
       refine AW.loopw (st0 := ⟨66, (upd 66 (upd 66 (upd 66 (upd 66 topF 2 (rf 0 0)) 3 (rf 1 0)) 50 (si (a0.Latches.length : Int))) 51 (si 0)), [(some (AObj.cells true (c_api_Inst a0))), (some (AObj.cells true (c_api_Inst a1)))]⟩) (fun kv st => kv ≤ k ∧ ∃ (x7 : Int), dossierref18_SameInst.l0 kv x7 a0 a1 = some r ∧ st = ⟨66, (upd 66 (upd 66 (upd 66 (upd 66 topF 2 (rf 0 0)) 3 (rf 1 0)) 50 (si (a0.Latches.length : Int))) 51 (si x7)), [(some (AObj.cells true (c_api_Inst a0))), (some (AObj.cells true (c_api_Inst a1)))]⟩) (k := k) (wg 0 [0, 1] [] hx (le_upd (le_upd (le_upd (le_upd (le_top _) (o1 (.ref rfl))) (o1 (.ref rfl))) (o1 .sc)) (o1 .sc)) (ac (.cells (fun _ => rfl) (ac .sc (ac .sc (ac .sc (ac .sc (ac .same (ac .sc an))))))) (ac (.cells (fun _ => rfl) (ac .sc (ac .sc (ac .sc (ac .sc (ac .same (ac .sc an))))))) an))) ⟨Nat.le_refl _, 0, h, rfl⟩ ?_
       rintro ql0 st ⟨hkl0, x7, h, rfl⟩
       cases ql0 with
       | zero => exact absurd h (by simp [dossierref18_SameInst.l0])
       | succ ql0 =>
        replace h := (dossierref18_SameInst.l0.eq_2 _ _ _ _).symm.trans h
        refine AW.seq (AW.region ?_)
        refine s_binI (v := (.bool (decide (x7 < (a0.Latches.length : Int))))) rfl rfl rfl (AWops.nil (AW.seq ?_))
        rcases itH h with ⟨c8, h⟩ | ⟨c8, h⟩
        ·refine AW.cond_yes rfl c8 (AW.skip (AW.seq (AW.block (AW.seq (AW.region ?_)))))
         refine s_move (d := (si x7)) rfl (s_assign (d := (si x7)) rfl (AWops.nil (AW.seq ?_)))
         refine AW.weak (st' := ⟨66, (upd 66 (upd 66 (upd 66 (upd 66 (upd 66 topF 2 (rf 0 0)) 3 (rf 1 0)) 5 (si x7)) 50 (si (a0.Latches.length : Int))) 51 (si x7)), [(some (AObj.cells true (c_api_Inst a0))), (some (AObj.cells true (c_api_Inst a1)))]⟩) (wg 0 [0, 1] [] hx (le_upd (le_upd (le_upd (le_upd (le_upd (le_top _) (o1 (.ref rfl))) (o1 (.ref rfl))) (o1 .sc)) (o1 .sc)) (o1 .sc)) (ac (.cells (fun _ => rfl) (ac .sc (ac .sc (ac .sc (ac .sc (ac .same (ac .sc an))))))) (ac (.cells (fun _ => rfl) (ac .sc (ac .sc (ac .sc (ac .sc (ac .same (ac .sc an))))))) an))) ?_
         obtain ⟨v9, ev9, h⟩ := bnd h
         obtain ⟨pv9, qv9, gv9⟩ := rd_some ev9
         obtain ⟨v10, ev10, h⟩ := bnd h
         obtain ⟨pv10, qv10, gv10⟩ := rd_some ev10
         refine AW.draw (n := 66) (L := 2) [(ft 0 54 (rf 0 4) [(2, (rf 0 0))]), (1, ⟨some 55, (D.one (C.p false (.sl a0.Latches.length (a0.Latches.flatMap e_i64)))), [(54, (rf 0 4))], [(0, (some (AObj.cells true (c_api_Inst a0))))], [], none⟩), (ft 2 56 (si x7) [(5, (si x7))]), (ft 3 57 (D.one (C.peek false [P.v (.int .i64 v9)])) [(55, (D.one (C.p false (.sl a0.Latches.length (a0.Latches.flatMap e_i64))))), (56, (si x7))]), (ft 4 58 (si v9) [(57, (D.one (C.peek false [P.v (.int .i64 v9)])))]), (ft 5 59 (rf 1 4) [(3, (rf 1 0))]), (6, ⟨some 60, (D.one (C.p false (.sl a1.Latches.length (a1.Latches.flatMap e_i64)))), [(59, (rf 1 4))], [(1, (some (AObj.cells true (c_api_Inst a1))))], [], none⟩), (ft 7 61 (si x7) [(5, (si x7))]), (ft 8 62 (D.one (C.peek false [P.v (.int .i64 v10)])) [(60, (D.one (C.p false (.sl a1.Latches.length (a1.Latches.flatMap e_i64))))), (61, (si x7))]), (ft 9 63 (si v10) [(62, (D.one (C.peek false [P.v (.int .i64 v10)])))]), (ft 10 64 (sb (v9 != v10)) [(58, (si v9)), (63, (si v10))])] [[], [0], [], [0, 1, 2], [0, 1, 2, 3], [], [5], [], [5, 6, 7], [5, 6, 7, 8], (.range 10)] (nl rfl) [0, 1, 0, 2, 3, 0, 1, 0, 2, 3, 4] rfl (TK := []) rfl AllK.nil' (by repeat (first | refine fC ⟨?_, ?_⟩ ?_ | refine sC rfl ?_ | refine hC rfl ?_ | trivial)) ?_ ?_
         ·refine (pC ?_ (pC ?_ (pC ?_ (pC ?_ (pC ?_ (pC ?_ (pC ?_ (pC ?_ (pC ?_ (pC ?_ (pC ?_ AllStep.nil')))))))))))
          ·intro K rest fr hv htk k
           show AWops _ x _ _ K ⟨66, (upd 66 fr 2 (rf 0 0)), [(hv 0), (hv 1)]⟩
           refine s_fieldRef F.fo_51_4 (by decide) rfl k
          ·intro K rest fr hv htk k
           show AWops _ x _ _ K ⟨66, (upd 66 fr 54 (rf 0 4)), [(some (AObj.cells true (c_api_Inst a0))), (hv 1)]⟩
           refine s_load1 (c' := (C.p false (.sl a0.Latches.length (a0.Latches.flatMap e_i64)))) F.ag_49 rfl rfl k
          ·intro K rest fr hv htk k
           show AWops _ x _ _ K ⟨66, (upd 66 fr 5 (si x7)), _⟩
           refine s_move (d := (si x7)) rfl k
          ·intro K rest fr hv htk k
           show AWops _ x _ _ K ⟨66, (upd 66 (upd 66 fr 56 (si x7)) 55 (D.one (C.p false (.sl a0.Latches.length (a0.Latches.flatMap e_i64))))), [(hv 0), (hv 1)]⟩
           refine s_indexImm (ps := [P.v (.int .i64 v9)]) F.u_49 F.sz_3 rfl rfl pv9 qv9 (flat_at e_i64_len gv9 (e_i64_eq v9)) k
          ·intro K rest fr hv htk k
           show AWops _ x _ _ K ⟨66, (upd 66 fr 57 (D.one (C.peek false [P.v (.int .i64 v9)]))), [(hv 0), (hv 1)]⟩
           refine s_load1 (c' := (ci v9)) F.ag_3 rfl rfl k
          ·intro K rest fr hv htk k
           show AWops _ x _ _ K ⟨66, (upd 66 fr 3 (rf 1 0)), [(hv 0), (hv 1)]⟩
           refine s_fieldRef F.fo_51_4 (by decide) rfl k
          ·intro K rest fr hv htk k
           show AWops _ x _ _ K ⟨66, (upd 66 fr 59 (rf 1 4)), [(hv 0), (some (AObj.cells true (c_api_Inst a1)))]⟩
           refine s_load1 (c' := (C.p false (.sl a1.Latches.length (a1.Latches.flatMap e_i64)))) F.ag_49 rfl rfl k
          ·intro K rest fr hv htk k
           show AWops _ x _ _ K ⟨66, (upd 66 fr 5 (si x7)), _⟩
           refine s_move (d := (si x7)) rfl k
          ·intro K rest fr hv htk k
           show AWops _ x _ _ K ⟨66, (upd 66 (upd 66 fr 61 (si x7)) 60 (D.one (C.p false (.sl a1.Latches.length (a1.Latches.flatMap e_i64))))), [(hv 0), (hv 1)]⟩
           refine s_indexImm (ps := [P.v (.int .i64 v10)]) F.u_49 F.sz_3 rfl rfl pv10 qv10 (flat_at e_i64_len gv10 (e_i64_eq v10)) k
          ·intro K rest fr hv htk k
           show AWops _ x _ _ K ⟨66, (upd 66 fr 62 (D.one (C.peek false [P.v (.int .i64 v10)]))), [(hv 0), (hv 1)]⟩
           refine s_load1 (c' := (ci v10)) F.ag_3 rfl rfl k
          ·intro K rest fr hv htk k
           show AWops _ x _ _ K ⟨66, (upd 66 (upd 66 fr 63 (si v10)) 58 (si v9)), _⟩
           refine s_binI (v := (.bool (v9 != v10))) rfl rfl rfl k
         ·refine AWops.weak (st' := ⟨66, (upd 66 (upd 66 (upd 66 (upd 66 (upd 66 topF 2 (rf 0 0)) 3 (rf 1 0)) 50 (si (a0.Latches.length : Int))) 51 (si x7)) 64 (sb (v9 != v10))), [(some (AObj.cells true (c_api_Inst a0))), (some (AObj.cells true (c_api_Inst a1)))]⟩) (wg 0 [0, 1] [] hx (le_upd (le_upd (le_upd (le_upd (le_upd (le_top _) (o1 (.ref rfl))) (o1 (.ref rfl))) (o1 .sc)) (o1 .sc)) (o1 .sc)) (ac (.cells (fun _ => rfl) (ac .sc (ac .sc (ac .sc (ac .sc (ac .same (ac .sc an))))))) (ac (.cells (fun _ => rfl) (ac .sc (ac .sc (ac .sc (ac .sc (ac .same (ac .sc an))))))) an))) (AWops.nil ?_)
          rcases itH h with ⟨c11, h⟩ | ⟨c11, h⟩
          ·refine AW.cond_yes rfl c11 (AW.seq (AW.region ?_))
           refine s_assign (d := (sb false)) rfl (AWops.nil (AW.ret ?_))
           obtain rfl := Option.some.inj h
           exact ⟨_, rfl, (wg 0 [] [] rfl (le_upd (le_top _) (o1 .sc)) an)⟩
          ·refine AW.cond_no rfl c11 (AW.skip (AW.region ?_))
           refine s_binI (v := (.int .i64 (IntKind.i64.wrap (x7 + 1)))) rfl rfl rfl (s_move (d := (si (IntKind.i64.wrap (x7 + 1)))) rfl (AWops.nil ?_))
           exact ⟨_, ⟨66, (upd 66 (upd 66 (upd 66 (upd 66 topF 2 (rf 0 0)) 3 (rf 1 0)) 50 (si (a0.Latches.length : Int))) 51 (si (IntKind.i64.wrap (x7 + 1)))), [(some (AObj.cells true (c_api_Inst a0))), (some (AObj.cells true (c_api_Inst a1)))]⟩, by omega, (wg 0 [0, 1] [] hx (le_upd (le_upd (le_upd (le_upd (le_top _) (o1 (.ref rfl))) (o1 (.ref rfl))) (o1 .sc)) (o1 .sc)) (ac (.cells (fun _ => rfl) (ac .sc (ac .sc (ac .sc (ac .sc (ac .same (ac .sc an))))))) (ac (.cells (fun _ => rfl) (ac .sc (ac .sc (ac .sc (ac .sc (ac .same (ac .sc an))))))) an))), by omega, IntKind.i64.wrap (x7 + 1), h, rfl⟩
        ·refine AW.cond_no rfl c8 (AW.exit (AW.seq (AW.region ?_)))
         refine s_assign (d := (sb true)) rfl (AWops.nil (AW.ret ?_))
         obtain rfl := Option.some.inj h
         exact ⟨_, rfl, (wg 0 [] [] rfl (le_upd (le_top _) (o1 .sc)) an)⟩
  ·iterate 5 refine AWops.guard_no rfl (nl rfl) rfl (by rw [c2] <;> rfl) ?_
   refine s_pick_yes (d := (sb true)) rfl (by rw [c2] <;> rfl) rfl (s_move (d := (sb true)) rfl ?_)
   iterate 5 refine AWops.guard_no rfl (nl rfl) rfl rfl ?_
   refine s_pick_yes (d := (sb true)) rfl rfl rfl (s_move (d := (sb true)) rfl ?_)
   iterate 5 refine AWops.guard_no rfl (nl rfl) rfl rfl ?_
   refine s_pick_yes (d := (sb true)) rfl rfl rfl (s_move (d := (sb true)) rfl ?_)
   iterate 7 refine AWops.guard_no rfl (nl rfl) rfl rfl ?_
   refine s_pick_yes (d := (sb true)) rfl rfl rfl (AWops.nil ?_)
   refine AW.cond_yes rfl rfl (AW.seq (AW.region ?_))
   refine s_assign (d := (sb false)) rfl (AWops.nil (AW.ret ?_))
   obtain rfl := Option.some.inj h
   exact ⟨_, rfl, (wg 0 [] [] rfl (le_upd (le_top _) (o1 .sc)) an)⟩
 ·iterate 5 refine AWops.guard_no rfl (nl rfl) rfl (by rw [c1] <;> rfl) ?_
  refine s_pick_yes (d := (sb true)) rfl (by rw [c1] <;> rfl) rfl (s_move (d := (sb true)) rfl ?_)
  iterate 5 refine AWops.guard_no rfl (nl rfl) rfl rfl ?_
  refine s_pick_yes (d := (sb true)) rfl rfl rfl (s_move (d := (sb true)) rfl ?_)
  iterate 5 refine AWops.guard_no rfl (nl rfl) rfl rfl ?_
  refine s_pick_yes (d := (sb true)) rfl rfl rfl (s_move (d := (sb true)) rfl ?_)
  iterate 5 refine AWops.guard_no rfl (nl rfl) rfl rfl ?_
  refine s_pick_yes (d := (sb true)) rfl rfl rfl (s_move (d := (sb true)) rfl ?_)
  iterate 7 refine AWops.guard_no rfl (nl rfl) rfl rfl ?_
  refine s_pick_yes (d := (sb true)) rfl rfl rfl (AWops.nil ?_)
  refine AW.cond_yes rfl rfl (AW.seq (AW.region ?_))
  refine s_assign (d := (sb false)) rfl (AWops.nil (AW.ret ?_))
  obtain rfl := Option.some.inj h
  exact ⟨_, rfl, (wg 0 [] [] rfl (le_upd (le_top _) (o1 .sc)) an)⟩
mutual
def dossierref18_Same.l0 : Nat → Int → api_Case → api_Case → Option Bool
 | 0, _, _, _ => none
 | k + 1, x7, a0, a1 => if (decide (x7 < (a0.Insts.length : Int))) = true then ((rd a0.Insts x7).bind fun v9 => (rd a1.Insts x7).bind fun v10 => (dossierref18_SameInst.f k v9 v10).bind fun r11 => if r11 = true then (dossierref18_Same.l0 k (IntKind.i64.wrap (x7 + 1)) a0 a1) else (some false)) else (some true)
end
def dossierref18_Same.f (k : Nat) (a0 : api_Case) (a1 : api_Case) : Option Bool := if (a0.ID != a1.ID) = true then (some false) else (if (a0.Model.toList == a1.Model.toList) = true then (if (a0.Clock != a1.Clock) = true then (some false) else (if ((a0.Insts.length : Int) != (a1.Insts.length : Int)) = true then (some false) else ((dossierref16_Same.f k a0.Docs a1.Docs).bind fun r5 => if r5 = true then (dossierref18_Same.l0 k 0 a0 a1) else (some false)))) else (some false))
theorem dossierref18_Same.meets (k : Nat) (a0 : api_Case) (a1 : api_Case) (r : Bool) (h : dossierref18_Same.f k a0 a1 = some r) : Meets Tryd.prog 8 [(D.agg (c_api_Case a0)), (D.agg (c_api_Case a1))] [] (sb r) [] := by
 unfold dossierref18_Same.f at h
 refine Meets.of_body (n := 61) Tryd.func8 rfl rfl (nl rfl) fun x hx => ?_
 replace hx : x.k = 0 := hx
 show AW _ x _ _ ⟨61, fr0 [(D.agg (c_api_Case a0)), (D.agg (c_api_Case a1))], []⟩
 refine AW.seq (AW.region ?_)
 refine s_box (cs := (c_api_Case a0)) rfl (List.cons_ne_nil _ _) rfl (s_box (cs := (c_api_Case a1)) rfl (List.cons_ne_nil _ _) rfl (s_assign (d := (sb false)) rfl (AWops.nil (AW.seq (AW.seq (AW.region (s_fieldRef F.fo_25_0 (by decide) rfl (s_load1 (c' := (ci a0.ID)) F.ag_3 rfl rfl (s_fieldRef F.fo_25_0 (by decide) rfl ?_)))))))))
 refine s_load1 (c' := (ci a1.ID)) F.ag_3 rfl rfl (s_binI (v := (.bool (a0.ID != a1.ID))) rfl rfl rfl (s_move (d := (sb (a0.ID != a1.ID))) rfl ?_))
 rcases itH h with ⟨c1, h⟩ | ⟨c1, h⟩
 ·iterate 5 refine AWops.guard_no rfl (nl rfl) rfl c1 ?_
  refine s_pick_yes (d := (sb true)) rfl c1 rfl (s_move (d := (sb true)) rfl ?_)
  iterate 5 refine AWops.guard_no rfl (nl rfl) rfl rfl ?_
  refine s_pick_yes (d := (sb true)) rfl rfl rfl (s_move (d := (sb true)) rfl ?_)
  iterate 7 refine AWops.guard_no rfl (nl rfl) rfl rfl ?_
  refine s_pick_yes (d := (sb true)) rfl rfl rfl (s_move (d := (sb true)) rfl ?_)
  iterate 6 refine AWops.guard_no rfl (nl rfl) rfl rfl ?_
  refine s_pick_yes (d := (sb true)) rfl rfl rfl (AWops.nil ?_)
  refine AW.cond_yes rfl rfl (AW.seq (AW.region ?_))
  refine s_assign (d := (sb false)) rfl (AWops.nil (AW.ret ?_))
  obtain rfl := Option.some.inj h
  exact ⟨_, rfl, (wg 0 [] [] rfl (le_upd (le_top _) (o1 .sc)) an)⟩
 ·refine AWops.guard_yes rfl (nl rfl) rfl c1 ?_
  refine s_fieldRef F.fo_25_1 (by decide) rfl ?_
  refine AWops.guard_yes rfl (nl rfl) rfl c1 ?_
  refine s_load1 (c' := (ct a0.Model)) F.ag_9 rfl rfl ?_
  refine AWops.guard_yes rfl (nl rfl) rfl c1 ?_
  refine s_fieldRef F.fo_25_1 (by decide) rfl ?_
  refine AWops.guard_yes rfl (nl rfl) rfl c1 ?_
  refine s_load1 (c' := (ct a1.Model)) F.ag_9 rfl rfl ?_
  refine AWops.guard_yes rfl (nl rfl) rfl c1 ?_
  refine s_binS (v := (.bool (!(a0.Model.toList == a1.Model.toList)))) rfl rfl rfl (s_pick_no (d := (sb (!(a0.Model.toList == a1.Model.toList)))) rfl c1 rfl (s_move (d := (sb (!(a0.Model.toList == a1.Model.toList)))) rfl ?_))
  rcases itH h with ⟨c2, h⟩ | ⟨c2, h⟩
  ·refine AWops.guard_yes rfl (nl rfl) rfl (by rw [c2] <;> rfl) ?_
   refine s_fieldRef F.fo_25_4 (by decide) rfl ?_
   refine AWops.guard_yes rfl (nl rfl) rfl (by rw [c2] <;> rfl) ?_
   refine s_load1 (c' := (ci a0.Clock)) F.ag_3 rfl rfl ?_
   refine AWops.guard_yes rfl (nl rfl) rfl (by rw [c2] <;> rfl) ?_
   refine s_fieldRef F.fo_25_4 (by decide) rfl ?_
   refine AWops.guard_yes rfl (nl rfl) rfl (by rw [c2] <;> rfl) ?_
   refine s_load1 (c' := (ci a1.Clock)) F.ag_3 rfl rfl ?_
   refine AWops.guard_yes rfl (nl rfl) rfl (by rw [c2] <;> rfl) ?_
   refine s_binI (v := (.bool (a0.Clock != a1.Clock))) rfl rfl rfl (s_pick_no (d := (sb (a0.Clock != a1.Clock))) rfl (by rw [c2] <;> rfl) rfl (s_move (d := (sb (a0.Clock != a1.Clock))) rfl ?_))
   rcases itH h with ⟨c3, h⟩ | ⟨c3, h⟩
   ·iterate 7 refine AWops.guard_no rfl (nl rfl) rfl c3 ?_
    refine s_pick_yes (d := (sb true)) rfl c3 rfl (s_move (d := (sb true)) rfl ?_)
    iterate 6 refine AWops.guard_no rfl (nl rfl) rfl rfl ?_
    refine s_pick_yes (d := (sb true)) rfl rfl rfl (AWops.nil ?_)
    refine AW.cond_yes rfl rfl (AW.seq (AW.region ?_))
    refine s_assign (d := (sb false)) rfl (AWops.nil (AW.ret ?_))
    obtain rfl := Option.some.inj h
    exact ⟨_, rfl, (wg 0 [] [] rfl (le_upd (le_top _) (o1 .sc)) an)⟩
   ·refine AWops.guard_yes rfl (nl rfl) rfl c3 ?_
    refine s_fieldRef F.fo_25_2 (by decide) rfl ?_
    refine AWops.guard_yes rfl (nl rfl) rfl c3 ?_
    refine s_load1 (c' := (C.p false (.sl a0.Insts.length (a0.Insts.flatMap e_api_Inst)))) F.ag_22 rfl rfl ?_
    refine AWops.guard_yes rfl (nl rfl) rfl c3 ?_
    refine s_len (n := a0.Insts.length) F.u_22 rfl (.inr ⟨(fun _ _ h => by cases h), ⟨_, rfl⟩⟩) ?_
    refine AWops.guard_yes rfl (nl rfl) rfl c3 ?_
    refine s_fieldRef F.fo_25_2 (by decide) rfl ?_
    refine AWops.guard_yes rfl (nl rfl) rfl c3 ?_
    refine s_load1 (c' := (C.p false (.sl a1.Insts.length (a1.Insts.flatMap e_api_Inst)))) F.ag_22 rfl rfl ?_
    refine AWops.guard_yes rfl (nl rfl) rfl c3 ?_
    refine s_len (n := a1.Insts.length) F.u_22 rfl (.inr ⟨(fun _ _ h => by cases h), ⟨_, rfl⟩⟩) ?_
    refine AWops.guard_yes rfl (nl rfl) rfl c3 ?_
    refine s_binI (v := (.bool ((a0.Insts.length : Int) != (a1.Insts.length : Int)))) rfl rfl rfl (s_pick_no (d := (sb ((a0.Insts.length : Int) != (a1.Insts.length : Int)))) rfl c3 rfl (s_move (d := (sb ((a0.Insts.length : Int) != (a1.Insts.length : Int)))) rfl ?_))
    rcases itH h with ⟨c4, h⟩ | ⟨c4, h⟩
    ·iterate 6 refine AWops.guard_no rfl (nl rfl) rfl c4 ?_
     refine s_pick_yes (d := (sb true)) rfl c4 rfl (AWops.nil ?_)
     refine AW.cond_yes rfl rfl (AW.seq (AW.region ?_))
     refine s_assign (d := (sb false)) rfl (AWops.nil (AW.ret ?_))
     obtain rfl := Option.some.inj h
     exact ⟨_, rfl, (wg 0 [] [] rfl (le_upd (le_top _) (o1 .sc)) an)⟩
    ·refine AWops.guard_yes rfl (nl rfl) rfl c4 ?_
     refine s_fieldRef F.fo_25_3 (by decide) rfl ?_
     refine AWops.guard_yes rfl (nl rfl) rfl c4 ?_
     refine s_load1 (c' := (C.p false (.sl a0.Docs.length (a0.Docs.flatMap e_api_Doc)))) F.ag_23 rfl rfl ?_
     refine AWops.guard_yes rfl (nl rfl) rfl c4 ?_
     refine s_fieldRef F.fo_25_3 (by decide) rfl ?_
     refine AWops.guard_yes rfl (nl rfl) rfl c4 ?_
     refine s_load1 (c' := (C.p false (.sl a1.Docs.length (a1.Docs.flatMap e_api_Doc)))) F.ag_23 rfl rfl ?_
     refine AWops.guard_yes rfl (nl rfl) rfl c4 ?_
     obtain ⟨r5, er5, h⟩ := bnd h
     refine cc [] [(some (AObj.cells true (c_api_Case a0))), (some (AObj.cells true (c_api_Case a1)))] (sb r5) F.ca_19 rfl rfl (ac (.one .imm) (ac (.one .imm) an)) an (dossierref16_Same.meets _ a0.Docs a1.Docs r5 er5) ?_
     refine AWops.guard_yes rfl (nl rfl) rfl c4 ?_
     refine s_not rfl (s_pick_no (d := (sb (!r5))) rfl c4 rfl (AWops.nil ?_))
     rcases itH h with ⟨c6, h⟩ | ⟨c6, h⟩
     ·refine AW.cond_no rfl (by rw [c6] <;> rfl) (AW.skip (AW.seq (AW.seq (AW.region ?_))))
      refine s_fieldRef F.fo_25_2 (by decide) rfl (s_load1 (c' := (C.p false (.sl a0.Insts.length (a0.Insts.flatMap e_api_Inst)))) F.ag_22 rfl rfl (s_len (n := a0.Insts.length) F.u_22 rfl (.inr ⟨(fun _ _ h => by cases h), ⟨_, rfl⟩⟩) (s_move (d := (si 0)) rfl (AWops.nil (AW.block ?_)))))
      refine AW.loopw (st0 := ⟨61, (upd 61 (upd 61 (upd 61 (upd 61 topF 2 (rf 0 0)) 3 (rf 1 0)) 44 (si (a0.Insts.length : Int))) 45 (si 0)), [(some (AObj.cells true (c_api_Case a0))), (some (AObj.cells true (c_api_Case a1)))]⟩) (fun kv st => kv ≤ k ∧ ∃ (x7 : Int), dossierref18_Same.l0 kv x7 a0 a1 = some r ∧ st = ⟨61, (upd 61 (upd 61 (upd 61 (upd 61 topF 2 (rf 0 0)) 3 (rf 1 0)) 44 (si (a0.Insts.length : Int))) 45 (si x7)), [(some (AObj.cells true (c_api_Case a0))), (some (AObj.cells true (c_api_Case a1)))]⟩) (k := k) (wg 0 [0, 1] [] hx (le_upd (le_upd (le_upd (le_upd (le_top _) (o1 (.ref rfl))) (o1 (.ref rfl))) (o1 .sc)) (o1 .sc)) (ac (.cells (fun _ => rfl) (ac .sc (ac .sc (ac .same (ac .same (ac .sc an)))))) (ac (.cells (fun _ => rfl) (ac .sc (ac .sc (ac .same (ac .same (ac .sc an)))))) an))) ⟨Nat.le_refl _, 0, h, rfl⟩ ?_
      rintro ql0 st ⟨hkl0, x7, h, rfl⟩
      cases ql0 with
      | zero => exact absurd h (by simp [dossierref18_Same.l0])
      | succ ql0 =>
       replace h := (dossierref18_Same.l0.eq_2 _ _ _ _).symm.trans h
       refine AW.seq (AW.region ?_)
       refine s_binI (v := (.bool (decide (x7 < (a0.Insts.length : Int))))) rfl rfl rfl (AWops.nil (AW.seq ?_))
       rcases itH h with ⟨c8, h⟩ | ⟨c8, h⟩
       ·refine AW.cond_yes rfl c8 (AW.skip (AW.seq (AW.block (AW.seq (AW.region ?_)))))
        refine s_move (d := (si x7)) rfl (s_assign (d := (si x7)) rfl (AWops.nil (AW.seq ?_)))
        refine AW.weak (st' := ⟨61, (upd 61 (upd 61 (upd 61 (upd 61 (upd 61 topF 2 (rf 0 0)) 3 (rf 1 0)) 5 (si x7)) 44 (si (a0.Insts.length : Int))) 45 (si x7)), [(some (AObj.cells true (c_api_Case a0))), (some (AObj.cells true (c_api_Case a1)))]⟩) (wg 0 [0, 1] [] hx (le_upd (le_upd (le_upd (le_upd (le_upd (le_top _) (o1 (.ref rfl))) (o1 (.ref rfl))) (o1 .sc)) (o1 .sc)) (o1 .sc)) (ac (.cells (fun _ => rfl) (ac .sc (ac .sc (ac .same (ac .same (ac .sc an)))))) (ac (.cells (fun _ => rfl) (ac .sc (ac .sc (ac .same (ac .same (ac .sc an)))))) an))) ?_
        obtain ⟨v9, ev9, h⟩ := bnd h
        obtain ⟨pv9, qv9, gv9⟩ := rd_some ev9
        obtain ⟨v10, ev10, h⟩ := bnd h
        obtain ⟨pv10, qv10, gv10⟩ := rd_some ev10
        obtain ⟨r11, er11, h⟩ := bnd h
        refine AW.draw (n := 61) (L := 3) [(ft 0 48 (rf 0 2) [(2, (rf 0 0))]), (1, ⟨some 49, (D.one (C.p false (.sl a0.Insts.length (a0.Insts.flatMap e_api_Inst)))), [(48, (rf 0 2))], [(0, (some (AObj.cells true (c_api_Case a0))))], [], none⟩), (ft 2 50 (si x7) [(5, (si x7))]), (ft 3 51 (D.one (C.peek false (p_api_Inst v9))) [(49, (D.one (C.p false (.sl a0.Insts.length (a0.Insts.flatMap e_api_Inst))))), (50, (si x7))]), (ft 4 52 (D.agg (c_api_Inst v9)) [(51, (D.one (C.peek false (p_api_Inst v9))))]), (ft 5 53 (rf 1 2) [(3, (rf 1 0))]), (6, ⟨some 54, (D.one (C.p false (.sl a1.Insts.length (a1.Insts.flatMap e_api_Inst)))), [(53, (rf 1 2))], [(1, (some (AObj.cells true (c_api_Case a1))))], [], none⟩), (ft 7 55 (si x7) [(5, (si x7))]), (ft 8 56 (D.one (C.peek false (p_api_Inst v10))) [(54, (D.one (C.p false (.sl a1.Insts.length (a1.Insts.flatMap e_api_Inst))))), (55, (si x7))]), (ft 9 57 (D.agg (c_api_Inst v10)) [(56, (D.one (C.peek false (p_api_Inst v10))))]), (ft 10 58 (sb r11) [(52, (D.agg (c_api_Inst v9))), (57, (D.agg (c_api_Inst v10)))]), (ft 11 59 (sb (!r11)) [(58, (sb r11))])] [[], [0], [], [0, 1, 2], [0, 1, 2, 3], [], [5], [], [5, 6, 7], [5, 6, 7, 8], (.range 10), (.range 11)] (nl rfl) [0, 1, 0, 2, 3, 0, 1, 0, 2, 3, 4, 5] rfl (TK := []) rfl AllK.nil' (by repeat (first | refine fC ⟨?_, ?_⟩ ?_ | refine sC rfl ?_ | refine hC rfl ?_ | trivial)) ?_ ?_
        ·refine (pC ?_ (pC ?_ (pC ?_ (pC ?_ (pC ?_ (pC ?_ (pC ?_ (pC ?_ (pC ?_ (pC ?_ (pC ?_ (pC ?_ AllStep.nil'))))))))))))
         ·intro K rest fr hv htk k
          show AWops _ x _ _ K ⟨61, (upd 61 fr 2 (rf 0 0)), [(hv 0), (hv 1), (hv 2)]⟩
          refine s_fieldRef F.fo_25_2 (by decide) rfl k
         ·intro K rest fr hv htk k
          show AWops _ x _ _ K ⟨61, (upd 61 fr 48 (rf 0 2)), [(some (AObj.cells true (c_api_Case a0))), (hv 1), (hv 2)]⟩
          refine s_load1 (c' := (C.p false (.sl a0.Insts.length (a0.Insts.flatMap e_api_Inst)))) F.ag_22 rfl rfl k
         ·intro K rest fr hv htk k
          show AWops _ x _ _ K ⟨61, (upd 61 fr 5 (si x7)), _⟩
          refine s_move (d := (si x7)) rfl k
         ·intro K rest fr hv htk k
          show AWops _ x _ _ K ⟨61, (upd 61 (upd 61 fr 50 (si x7)) 49 (D.one (C.p false (.sl a0.Insts.length (a0.Insts.flatMap e_api_Inst))))), [(hv 0), (hv 1), (hv 2)]⟩
          refine s_indexImm (ps := (p_api_Inst v9)) F.u_22 F.sz_51 rfl rfl pv9 qv9 (flat_at e_api_Inst_len gv9 (e_api_Inst_eq v9)) k
         ·intro K rest fr hv htk k
          show AWops _ x _ _ K ⟨61, (upd 61 fr 51 (D.one (C.peek false (p_api_Inst v9)))), [(hv 0), (hv 1), (hv 2)]⟩
          refine s_loadN (ds := (c_api_Inst v9)) F.ag_51 F.sz_51 rfl rfl rfl k
         ·intro K rest fr hv htk k
          show AWops _ x _ _ K ⟨61, (upd 61 fr 3 (rf 1 0)), [(hv 0), (hv 1), (hv 2)]⟩
          refine s_fieldRef F.fo_25_2 (by decide) rfl k
         ·intro K rest fr hv htk k
          show AWops _ x _ _ K ⟨61, (upd 61 fr 53 (rf 1 2)), [(hv 0), (some (AObj.cells true (c_api_Case a1))), (hv 2)]⟩
          refine s_load1 (c' := (C.p false (.sl a1.Insts.length (a1.Insts.flatMap e_api_Inst)))) F.ag_22 rfl rfl k
         ·intro K rest fr hv htk k
          show AWops _ x _ _ K ⟨61, (upd 61 fr 5 (si x7)), _⟩
          refine s_move (d := (si x7)) rfl k
         ·intro K rest fr hv htk k
          show AWops _ x _ _ K ⟨61, (upd 61 (upd 61 fr 55 (si x7)) 54 (D.one (C.p false (.sl a1.Insts.length (a1.Insts.flatMap e_api_Inst))))), [(hv 0), (hv 1), (hv 2)]⟩
          refine s_indexImm (ps := (p_api_Inst v10)) F.u_22 F.sz_51 rfl rfl pv10 qv10 (flat_at e_api_Inst_len gv10 (e_api_Inst_eq v10)) k
         ·intro K rest fr hv htk k
          show AWops _ x _ _ K ⟨61, (upd 61 fr 56 (D.one (C.peek false (p_api_Inst v10)))), [(hv 0), (hv 1), (hv 2)]⟩
          refine s_loadN (ds := (c_api_Inst v10)) F.ag_51 F.sz_51 rfl rfl rfl k
         ·intro K rest fr hv htk k
          show AWops _ x _ _ K ⟨61, (upd 61 (upd 61 fr 57 (D.agg (c_api_Inst v10))) 52 (D.agg (c_api_Inst v9))), [(hv 0), (hv 1), (hv 2)]⟩
          refine cc [] [(hv 0), (hv 1), (hv 2)] (sb r11) F.ca_20 rfl rfl (ac (LendT.aggL (ac .sc (ac .sc (ac .sc (ac .sc (ac .imm (ac .sc an))))))) (ac (LendT.aggL (ac .sc (ac .sc (ac .sc (ac .sc (ac .imm (ac .sc an))))))) an)) an (dossierref18_SameInst.meets _ v9 v10 r11 er11) k
         ·intro K rest fr hv htk k
          show AWops _ x _ _ K ⟨61, (upd 61 fr 58 (sb r11)), [(hv 0), (hv 1), (hv 2)]⟩
          refine s_not rfl k
        ·refine AWops.weak (st' := ⟨61, (upd 61 (upd 61 (upd 61 (upd 61 (upd 61 topF 2 (rf 0 0)) 3 (rf 1 0)) 44 (si (a0.Insts.length : Int))) 45 (si x7)) 59 (sb (!r11))), [(some (AObj.cells true (c_api_Case a0))), (some (AObj.cells true (c_api_Case a1)))]⟩) (wg 0 [0, 1] [] hx (le_upd (le_upd (le_upd (le_upd (le_upd (le_top _) (o1 (.ref rfl))) (o1 (.ref rfl))) (o1 .sc)) (o1 .sc)) (o1 .sc)) (ac (.cells (fun _ => rfl) (ac .sc (ac .sc (ac .same (ac .same (ac .sc an)))))) (ac (.cells (fun _ => rfl) (ac .sc (ac .sc (ac .same (ac .same (ac .sc an)))))) an))) (AWops.nil ?_)
         rcases itH h with ⟨c12, h⟩ | ⟨c12, h⟩
         ·refine AW.cond_no rfl (by rw [c12] <;> rfl) (AW.skip (AW.region ?_))
          refine s_binI (v := (.int .i64 (IntKind.i64.wrap (x7 + 1)))) rfl rfl rfl (s_move (d := (si (IntKind.i64.wrap (x7 + 1)))) rfl (AWops.nil ?_))
          exact ⟨_, ⟨61, (upd 61 (upd 61 (upd 61 (upd 61 topF 2 (rf 0 0)) 3 (rf 1 0)) 44 (si (a0.Insts.length : Int))) 45 (si (IntKind.i64.wrap (x7 + 1)))), [(some (AObj.cells true (c_api_Case a0))), (some (AObj.cells true (c_api_Case a1)))]⟩, by omega, (wg 0 [0, 1] [] hx (le_upd (le_upd (le_upd (le_upd (le_top _) (o1 (.ref rfl))) (o1 (.ref rfl))) (o1 .sc)) (o1 .sc)) (ac (.cells (fun _ => rfl) (ac .sc (ac .sc (ac .same (ac .same (ac .sc an)))))) (ac (.cells (fun _ => rfl) (ac .sc (ac .sc (ac .same (ac .same (ac .sc an)))))) an))), by omega, IntKind.i64.wrap (x7 + 1), h, rfl⟩
         ·refine AW.cond_yes rfl (by rw [c12] <;> rfl) (AW.seq (AW.region ?_))
          refine s_assign (d := (sb false)) rfl (AWops.nil (AW.ret ?_))
          obtain rfl := Option.some.inj h
          exact ⟨_, rfl, (wg 0 [] [] rfl (le_upd (le_top _) (o1 .sc)) an)⟩
       ·refine AW.cond_no rfl c8 (AW.exit (AW.seq (AW.region ?_)))
        refine s_assign (d := (sb true)) rfl (AWops.nil (AW.ret ?_))
        obtain rfl := Option.some.inj h
        exact ⟨_, rfl, (wg 0 [] [] rfl (le_upd (le_top _) (o1 .sc)) an)⟩
     ·refine AW.cond_yes rfl (by rw [c6] <;> rfl) (AW.seq (AW.region ?_))
      refine s_assign (d := (sb false)) rfl (AWops.nil (AW.ret ?_))
      obtain rfl := Option.some.inj h
      exact ⟨_, rfl, (wg 0 [] [] rfl (le_upd (le_top _) (o1 .sc)) an)⟩
  ·iterate 5 refine AWops.guard_no rfl (nl rfl) rfl (by rw [c2] <;> rfl) ?_
   refine s_pick_yes (d := (sb true)) rfl (by rw [c2] <;> rfl) rfl (s_move (d := (sb true)) rfl ?_)
   iterate 7 refine AWops.guard_no rfl (nl rfl) rfl rfl ?_
   refine s_pick_yes (d := (sb true)) rfl rfl rfl (s_move (d := (sb true)) rfl ?_)
   iterate 6 refine AWops.guard_no rfl (nl rfl) rfl rfl ?_
   refine s_pick_yes (d := (sb true)) rfl rfl rfl (AWops.nil ?_)
   refine AW.cond_yes rfl rfl (AW.seq (AW.region ?_))
   refine s_assign (d := (sb false)) rfl (AWops.nil (AW.ret ?_))
   obtain rfl := Option.some.inj h
   exact ⟨_, rfl, (wg 0 [] [] rfl (le_upd (le_top _) (o1 .sc)) an)⟩
def index_Index_none.f (k : Nat) (p0 : index_Index) : Option (Bool × index_Index) := some (true, (⟨p0.m, ([] : List (index_source × List api_Hook))⟩ : index_Index))
theorem index_Index_none.meets (k : Nat) (p0 : index_Index) (r : Bool × index_Index) (h : index_Index_none.f k p0 = some r) : Meets Tryd.prog 11 [(rf 0 0)] [(some (AObj.cells false [(ct p0.m.ID), (ct p0.m.Name), (C.p false (.sl p0.m.Roles.length (p0.m.Roles.flatMap e_str))), (C.p false (.sl p0.m.Files.length (p0.m.Files.flatMap e_api_FileItem))), (ct p0.m.Plan.ID), (ct p0.m.Plan.Name), (ci p0.m.Plan.Kind), (C.p false (.sl p0.m.Plan.Entry.length (p0.m.Plan.Entry.flatMap e_api_Sentry))), (C.p false (.sl p0.m.Plan.Exit.length (p0.m.Plan.Exit.flatMap e_api_Sentry))), (ct p0.m.Plan.Manual), (ct p0.m.Plan.Required), (ct p0.m.Plan.Repeat), (cb p0.m.Plan.Auto), (cb p0.m.Plan.Free), (ci p0.m.Plan.After), (C.p false (.sl p0.m.Plan.Roles.length (p0.m.Plan.Roles.flatMap e_str))), (C.p false (.sl p0.m.Plan.Kids.length (p0.m.Plan.Kids.flatMap e_api_Item))), (C.p false (.sl p0.m.Plan.Table.length (p0.m.Plan.Table.flatMap e_api_Item))), (C.p true (.v (.map none)))]))] (sb r.1) [(some (AObj.cells false [(ct r.2.m.ID), (ct r.2.m.Name), (C.p false (.sl r.2.m.Roles.length (r.2.m.Roles.flatMap e_str))), (C.p false (.sl r.2.m.Files.length (r.2.m.Files.flatMap e_api_FileItem))), (ct r.2.m.Plan.ID), (ct r.2.m.Plan.Name), (ci r.2.m.Plan.Kind), (C.p false (.sl r.2.m.Plan.Entry.length (r.2.m.Plan.Entry.flatMap e_api_Sentry))), (C.p false (.sl r.2.m.Plan.Exit.length (r.2.m.Plan.Exit.flatMap e_api_Sentry))), (ct r.2.m.Plan.Manual), (ct r.2.m.Plan.Required), (ct r.2.m.Plan.Repeat), (cb r.2.m.Plan.Auto), (cb r.2.m.Plan.Free), (ci r.2.m.Plan.After), (C.p false (.sl r.2.m.Plan.Roles.length (r.2.m.Plan.Roles.flatMap e_str))), (C.p false (.sl r.2.m.Plan.Kids.length (r.2.m.Plan.Kids.flatMap e_api_Item))), (C.p false (.sl r.2.m.Plan.Table.length (r.2.m.Plan.Table.flatMap e_api_Item))), (C.p true (.v (.map none)))]))] := by
 unfold index_Index_none.f at h
 refine Meets.of_body (n := 12) Tryd.func11 rfl rfl (nl rfl) fun x hx => ?_
 replace hx : x.k = 1 := hx
 show AW _ x _ _ ⟨12, fr0 [(rf 0 0)], [(some (AObj.cells false [(ct p0.m.ID), (ct p0.m.Name), (C.p false (.sl p0.m.Roles.length (p0.m.Roles.flatMap e_str))), (C.p false (.sl p0.m.Files.length (p0.m.Files.flatMap e_api_FileItem))), (ct p0.m.Plan.ID), (ct p0.m.Plan.Name), (ci p0.m.Plan.Kind), (C.p false (.sl p0.m.Plan.Entry.length (p0.m.Plan.Entry.flatMap e_api_Sentry))), (C.p false (.sl p0.m.Plan.Exit.length (p0.m.Plan.Exit.flatMap e_api_Sentry))), (ct p0.m.Plan.Manual), (ct p0.m.Plan.Required), (ct p0.m.Plan.Repeat), (cb p0.m.Plan.Auto), (cb p0.m.Plan.Free), (ci p0.m.Plan.After), (C.p false (.sl p0.m.Plan.Roles.length (p0.m.Plan.Roles.flatMap e_str))), (C.p false (.sl p0.m.Plan.Kids.length (p0.m.Plan.Kids.flatMap e_api_Item))), (C.p false (.sl p0.m.Plan.Table.length (p0.m.Plan.Table.flatMap e_api_Item))), (C.p true (.v (.map none)))]))]⟩
 refine AW.seq (AW.region ?_)
 refine s_assign (d := (sb false)) rfl (AWops.nil (AW.seq (AW.region ?_)))
 refine s_move (d := (rf 0 0)) rfl (s_ptrNil (b := false) F.u_30 rfl (.inl ⟨⟨_, _, rfl⟩, rfl⟩) (.inl rfl) (s_move (d := (sb false)) rfl ?_))
 refine AWops.guard_yes rfl (nl rfl) rfl rfl ?_
 refine s_move (d := (rf 0 0)) rfl ?_
 refine AWops.guard_yes rfl (nl rfl) rfl rfl ?_
 refine s_nilCheck (d := (rf 0 0)) rfl (.inl ⟨_, _, rfl⟩) ?_
 refine AWops.guard_yes rfl (nl rfl) rfl rfl ?_
 refine s_fieldRef F.fo_41_1 (by decide) rfl ?_
 refine AWops.guard_yes rfl (nl rfl) rfl rfl ?_
 refine s_load1 (c' := (C.p true (.v (.map none)))) F.ag_39 rfl rfl ?_
 refine AWops.guard_yes rfl (nl rfl) rfl rfl ?_
 refine s_mapNil (b := true) F.u_39 rfl (.inl ⟨rfl, _, rfl⟩) (.inl ⟨rfl, rfl⟩) (s_pick_no (d := (sb true)) rfl rfl rfl (s_assign (d := (sb true)) rfl (AWops.nil (AW.ret ?_))))
 obtain rfl := Option.some.inj h
 exact ⟨_, rfl, (wg 1 [0] [] rfl (le_upd (le_top _) (o1 .sc)) (ac (.cells id (ac .sc (ac .sc (ac .same (ac .same (ac .sc (ac .sc (ac .sc (ac .same (ac .same (ac .sc (ac .sc (ac .sc (ac .sc (ac .sc (ac .sc (ac .same (ac .same (ac .same (ac .sc an)))))))))))))))))))) an))⟩
mutual
def bytealg_LastIndexByteString.l0 : Nat → Int → ByteArray → Int → Option Int
 | 0, _, _, _ => none
 | k + 1, x1, a0, a1 => if (decide (x1 ≥ 0)) = true then ((bt a0 x1).bind fun v3 => if (v3 == a1) = true then (some x1) else (bytealg_LastIndexByteString.l0 k (IntKind.i64.wrap (x1 - 1)) a0 a1)) else (some (-1))
end
def bytealg_LastIndexByteString.f (k : Nat) (a0 : ByteArray) (a1 : Int) : Option Int := bytealg_LastIndexByteString.l0 k (IntKind.i64.wrap ((a0.size : Int) - 1)) a0 a1
theorem bytealg_LastIndexByteString.meets (k : Nat) (a0 : ByteArray) (a1 : Int) (r : Int) (h : bytealg_LastIndexByteString.f k a0 a1 = some r) : Meets Tryd.prog 50 [(st_ a0), (sc (.int .u8 a1))] [] (si r) [] := by
 unfold bytealg_LastIndexByteString.f at h
 refine Meets.of_body (n := 19) Tryd.func50 rfl rfl (nl rfl) fun x hx => ?_
 replace hx : x.k = 0 := hx
 show AW _ x _ _ ⟨19, fr0 [(st_ a0), (sc (.int .u8 a1))], []⟩
 refine AW.seq (AW.region ?_)
 refine s_assign (d := (si 0)) rfl (AWops.nil (AW.seq (AW.seq (AW.region ?_))))
 refine s_move (d := (st_ a0)) rfl (s_len (n := a0.size) F.u_9 rfl (.inl ⟨⟨_, _, rfl⟩, rfl⟩) (s_binI (v := (.int .i64 (IntKind.i64.wrap ((a0.size : Int) - 1)))) rfl rfl rfl (s_assign (d := (si (IntKind.i64.wrap ((a0.size : Int) - 1)))) rfl (AWops.nil (AW.block ?_)))))
 refine AW.loopw (st0 := ⟨19, (upd 19 (upd 19 (upd 19 topF 0 (st_ a0)) 1 (sc (.int .u8 a1))) 5 (si (IntKind.i64.wrap ((a0.size : Int) - 1)))), []⟩) (fun kv st => kv ≤ k ∧ ∃ (x1 : Int), bytealg_LastIndexByteString.l0 kv x1 a0 a1 = some r ∧ st = ⟨19, (upd 19 (upd 19 (upd 19 topF 0 (st_ a0)) 1 (sc (.int .u8 a1))) 5 (si x1)), []⟩) (k := k) (wg 0 [] [] hx (le_upd (le_upd (le_upd (le_top _) (o1 .sc)) (o1 .sc)) (o1 .sc)) an) ⟨Nat.le_refl _, IntKind.i64.wrap ((a0.size : Int) - 1), h, rfl⟩ ?_
 rintro ql0 st ⟨hkl0, x1, h, rfl⟩
 cases ql0 with
 | zero => exact absurd h (by simp [bytealg_LastIndexByteString.l0])
 | succ ql0 =>
  replace h := (bytealg_LastIndexByteString.l0.eq_2 _ _ _ _).symm.trans h
  refine AW.seq (AW.seq (AW.region ?_))
  refine s_move (d := (si x1)) rfl (s_binI (v := (.bool (decide (x1 ≥ 0)))) rfl rfl rfl (AWops.nil ?_))
  rcases itH h with ⟨c2, h⟩ | ⟨c2, h⟩
  ·refine AW.cond_yes rfl c2 (AW.skip (AW.seq (AW.block (AW.seq (AW.region ?_)))))
   refine s_move (d := (st_ a0)) rfl (s_move (d := (si x1)) rfl ?_)
   obtain ⟨v3, ev3, h⟩ := bnd h
   obtain ⟨pv3, bv3, gv3, rfl⟩ := bt_some ev3
   refine s_indexStr F.u_9 rfl rfl pv3 gv3 ?_
   generalize hzv3 : ((bv3.toNat : Nat) : Int) = v3 at *
   refine s_move (d := (sc (.int .u8 a1))) rfl (s_binI (v := (.bool (v3 == a1))) rfl rfl rfl (AWops.nil ?_))
   rcases itH h with ⟨c4, h⟩ | ⟨c4, h⟩
   ·refine AW.cond_yes rfl c4 (AW.seq (AW.region ?_))
    refine s_move (d := (si x1)) rfl (s_assign (d := (si x1)) rfl (AWops.nil (AW.ret ?_)))
    obtain rfl := Option.some.inj h
    exact ⟨_, rfl, (wg 0 [] [] rfl (le_upd (le_top _) (o1 .sc)) an)⟩
   ·refine AW.cond_no rfl c4 (AW.skip (AW.region ?_))
    refine s_move (d := (si x1)) rfl (s_binI (v := (.int .i64 (IntKind.i64.wrap (x1 - 1)))) rfl rfl rfl (s_assign (d := (si (IntKind.i64.wrap (x1 - 1)))) rfl (AWops.nil ?_)))
    exact ⟨_, ⟨19, (upd 19 (upd 19 (upd 19 topF 0 (st_ a0)) 1 (sc (.int .u8 a1))) 5 (si (IntKind.i64.wrap (x1 - 1)))), []⟩, by omega, (wg 0 [] [] hx (le_upd (le_upd (le_upd (le_top _) (o1 .sc)) (o1 .sc)) (o1 .sc)) an), by omega, IntKind.i64.wrap (x1 - 1), h, rfl⟩
  ·refine AW.cond_no rfl c2 (AW.exit (AW.seq (AW.region ?_)))
   refine s_assign (d := (si (-1))) rfl (AWops.nil (AW.ret ?_))
   obtain rfl := Option.some.inj h
   exact ⟨_, rfl, (wg 0 [] [] rfl (le_upd (le_top _) (o1 .sc)) an)⟩
def strings_LastIndexByte.f (k : Nat) (a0 : ByteArray) (a1 : Int) : Option Int := (bytealg_LastIndexByteString.f k a0 a1).bind fun r1 => some r1
theorem strings_LastIndexByte.meets (k : Nat) (a0 : ByteArray) (a1 : Int) (r : Int) (h : strings_LastIndexByte.f k a0 a1 = some r) : Meets Tryd.prog 33 [(st_ a0), (sc (.int .u8 a1))] [] (si r) [] := by
 unfold strings_LastIndexByte.f at h
 refine Meets.of_body (n := 8) Tryd.func33 rfl rfl (nl rfl) fun x hx => ?_
 replace hx : x.k = 0 := hx
 show AW _ x _ _ ⟨8, fr0 [(st_ a0), (sc (.int .u8 a1))], []⟩
 refine AW.seq (AW.region ?_)
 refine s_assign (d := (si 0)) rfl (AWops.nil (AW.seq (AW.region ?_)))
 refine s_move (d := (st_ a0)) rfl (s_move (d := (sc (.int .u8 a1))) rfl ?_)
 obtain ⟨r1, er1, h⟩ := bnd h
 refine cc [] [] (si r1) F.ca_50 rfl rfl (ac (.one .sc) (ac (.one .sc) an)) an (bytealg_LastIndexByteString.meets _ a0 a1 r1 er1) (s_assign (d := (si r1)) rfl (AWops.nil (AW.ret ?_)))
 obtain rfl := Option.some.inj h
 exact ⟨_, rfl, (wg 0 [] [] rfl (le_upd (le_top _) (o1 .sc)) an)⟩
mutual
def chars_Number.j2 : Nat → Int → Int → ByteArray → Int → Option (Int × Int)
 | 0, _, _, _, _ => none
 | k + 1, x18, v2, x5, x10 => if (decide ((x5.size : Int) > 19)) = true then (some (0, 4)) else (if (decide (x10 > x18)) = true then (some (0, 4)) else (if (v2 == 45) = true then (some (IntKind.i64.wrap (0 - (IntKind.i64.wrap x10)), 0)) else (some (IntKind.i64.wrap x10, 0))))
def chars_Number.l1 : Nat → Int → Int → Int → ByteArray → Option (Int × Int)
 | 0, _, _, _, _ => none
 | k + 1, x10, x11, v2, x5 => if (decide (x11 < ((bytesI x5).length : Int))) = true then ((rd (bytesI x5) x11).bind fun v13 => if (decide (v13 < 48)) = true then (some (0, 5)) else (if (decide (v13 > 57)) = true then (some (0, 5)) else (if (decide ((x5.size : Int) > 19)) = true then (chars_Number.l1 k x10 (IntKind.i64.wrap (x11 + 1)) v2 x5) else (chars_Number.l1 k (IntKind.u64.wrap ((IntKind.u64.wrap (10 * x10)) + (IntKind.u64.wrap (IntKind.u8.wrap (v13 - 48))))) (IntKind.i64.wrap (x11 + 1)) v2 x5)))) else (if (v2 == 45) = true then (chars_Number.j2 k 9223372036854775808 v2 x5 x10) else (chars_Number.j2 k 9223372036854775807 v2 x5 x10))
def chars_Number.j4 : Nat → Int → Int → ByteArray → Int → Option (Int × Int)
 | 0, _, _, _, _ => none
 | k + 1, x30, v2, x5, x22 => if (decide ((x5.size : Int) > 19)) = true then (some (0, 4)) else (if (decide (x22 > x30)) = true then (some (0, 4)) else (if (v2 == 45) = true then (some (IntKind.i64.wrap (0 - (IntKind.i64.wrap x22)), 0)) else (some (IntKind.i64.wrap x22, 0))))
def chars_Number.l3 : Nat → Int → Int → Int → ByteArray → Option (Int × Int)
 | 0, _, _, _, _ => none
 | k + 1, x22, x23, v2, x5 => if (decide (x23 < ((bytesI x5).length : Int))) = true then ((rd (bytesI x5) x23).bind fun v25 => if (decide (v25 < 48)) = true then (some (0, 5)) else (if (decide (v25 > 57)) = true then (some (0, 5)) else (if (decide ((x5.size : Int) > 19)) = true then (chars_Number.l3 k x22 (IntKind.i64.wrap (x23 + 1)) v2 x5) else (chars_Number.l3 k (IntKind.u64.wrap ((IntKind.u64.wrap (10 * x22)) + (IntKind.u64.wrap (IntKind.u8.wrap (v25 - 48))))) (IntKind.i64.wrap (x23 + 1)) v2 x5)))) else (if (v2 == 45) = true then (chars_Number.j4 k 9223372036854775808 v2 x5 x22) else (chars_Number.j4 k 9223372036854775807 v2 x5 x22))
def chars_Number.j0 : Nat → ByteArray → ByteArray → Int → Option (Int × Int)
 | 0, _, _, _ => none
 | k + 1, x5, a0, v2 => if (x5.toList == (⟨#[]⟩ : ByteArray).toList) = true then (some (0, 5)) else ((bt x5 0).bind fun v7 => if (v7 == 48) = true then (if (decide ((a0.size : Int) > 1)) = true then (some (0, 5)) else (chars_Number.l1 k 0 0 v2 x5)) else (chars_Number.l3 k 0 0 v2 x5))
def chars_Number.l5 : Nat → Int → Int → ByteArray → Option (Int × Int)
 | 0, _, _, _ => none
 | k + 1, x38, x39, a0 => if (decide (x39 < ((bytesI a0).length : Int))) = true then ((rd (bytesI a0) x39).bind fun v41 => if (decide (v41 < 48)) = true then (some (0, 5)) else (if (decide (v41 > 57)) = true then (some (0, 5)) else (if (decide ((a0.size : Int) > 19)) = true then (chars_Number.l5 k x38 (IntKind.i64.wrap (x39 + 1)) a0) else (chars_Number.l5 k (IntKind.u64.wrap ((IntKind.u64.wrap (10 * x38)) + (IntKind.u64.wrap (IntKind.u8.wrap (v41 - 48))))) (IntKind.i64.wrap (x39 + 1)) a0)))) else (if (decide ((a0.size : Int) > 19)) = true then (some (0, 4)) else (if (decide (x38 > 9223372036854775807)) = true then (some (0, 4)) else (some (IntKind.i64.wrap x38, 0))))
def chars_Number.l6 : Nat → Int → Int → ByteArray → Option (Int × Int)
 | 0, _, _, _ => none
 | k + 1, x47, x48, a0 => if (decide (x48 < ((bytesI a0).length : Int))) = true then ((rd (bytesI a0) x48).bind fun v50 => if (decide (v50 < 48)) = true then (some (0, 5)) else (if (decide (v50 > 57)) = true then (some (0, 5)) else (if (decide ((a0.size : Int) > 19)) = true then (chars_Number.l6 k x47 (IntKind.i64.wrap (x48 + 1)) a0) else (chars_Number.l6 k (IntKind.u64.wrap ((IntKind.u64.wrap (10 * x47)) + (IntKind.u64.wrap (IntKind.u8.wrap (v50 - 48))))) (IntKind.i64.wrap (x48 + 1)) a0)))) else (if (decide ((a0.size : Int) > 19)) = true then (some (0, 4)) else (if (decide (x47 > 9223372036854775807)) = true then (some (0, 4)) else (some (IntKind.i64.wrap x47, 0))))
end
def chars_Number.f (k : Nat) (a0 : ByteArray) : Option (Int × Int) := if (decide ((a0.size : Int) > 0)) = true then ((bt a0 0).bind fun v2 => if (v2 == 45) = true then (if (decide (0 ≤ 1 ∧ 1 ≤ (a0.size : Int) ∧ (a0.size : Int) ≤ (a0.size : Int))) = true then (chars_Number.j0 k (a0.extract 1 a0.size) a0 v2) else none) else (chars_Number.j0 k a0 a0 v2)) else (if (a0.toList == (⟨#[]⟩ : ByteArray).toList) = true then (some (0, 5)) else ((bt a0 0).bind fun v35 => if (v35 == 48) = true then (if (decide ((a0.size : Int) > 1)) = true then (some (0, 5)) else (chars_Number.l5 k 0 0 a0)) else (chars_Number.l6 k 0 0 a0)))
theorem chars_Number.meets (k : Nat) (a0 : ByteArray) (r : Int × Int) (h : chars_Number.f k a0 = some r) : Meets Tryd.prog 45 [(st_ a0)] [] (D.tup [(si r.1), (si r.2)]) [] := by
 unfold chars_Number.f at h
 refine Meets.of_body (n := 78) Tryd.func45 rfl rfl (nl rfl) fun x hx => ?_
 replace hx : x.k = 0 := hx
 show AW _ x _ _ ⟨78, fr0 [(st_ a0)], []⟩
 refine AW.seq (AW.region ?_)
 refine s_assign (d := (si 0)) rfl (s_assign (d := (si 0)) rfl (AWops.nil (AW.seq (AW.region (s_move (d := (st_ a0)) rfl (s_len (n := a0.size) F.u_9 rfl (.inl ⟨⟨_, _, rfl⟩, rfl⟩) (s_binI (v := (.bool (decide ((a0.size : Int) > 0)))) rfl rfl rfl (s_move (d := (sb (decide ((a0.size : Int) > 0)))) rfl ?_))))))))
 rcases itH h with ⟨c1, h⟩ | ⟨c1, h⟩
 ·refine AWops.guard_yes rfl (nl rfl) rfl c1 ?_
  refine s_move (d := (st_ a0)) rfl ?_
  refine AWops.guard_yes rfl (nl rfl) rfl c1 ?_
  obtain ⟨v2, ev2, h⟩ := bnd h
  obtain ⟨pv2, bv2, gv2, rfl⟩ := bt_some ev2
  refine s_indexStr F.u_9 rfl rfl pv2 gv2 ?_
  generalize hzv2 : ((bv2.toNat : Nat) : Int) = v2 at *
  refine AWops.guard_yes rfl (nl rfl) rfl c1 ?_
  refine s_binI (v := (.bool (v2 == 45))) rfl rfl rfl (s_pick_yes (d := (sb (v2 == 45))) rfl c1 rfl (s_assign (d := (sb (v2 == 45))) rfl (AWops.nil (AW.seq (AW.region (s_move (d := (st_ a0)) rfl (s_assign (d := (st_ a0)) rfl (AWops.nil ?_))))))))
  refine AW.seqJ (fun st => ∃ (x5 : ByteArray), chars_Number.j0 k x5 a0 v2 = some r ∧ st = ⟨78, (upd 78 (upd 78 (upd 78 topF 0 (st_ a0)) 4 (sb (v2 == 45))) 5 (st_ x5)), []⟩) ?_ ?_
  ·refine AW.seq (AW.region ?_)
   refine s_move (d := (sb (v2 == 45))) rfl (AWops.nil ?_)
   rcases itH h with ⟨c3, h⟩ | ⟨c3, h⟩
   ·refine AW.cond_yes rfl c3 (AW.region ?_)
    refine s_move (d := (st_ a0)) rfl ?_
    obtain ⟨c4, h⟩ := gdH h
    have dc4 := of_decide_eq_true c4
    refine s_sliceStr F.u_9 rfl (.yes rfl (by omega) rfl) .no (by omega) (by omega) (s_assign (d := (st_ (a0.extract 1 a0.size))) rfl (AWops.nil ?_))
    exact ⟨⟨78, (upd 78 (upd 78 (upd 78 topF 0 (st_ a0)) 4 (sb (v2 == 45))) 5 (st_ (a0.extract 1 a0.size))), []⟩, (wg 0 [] [] hx (le_upd (le_upd (le_upd (le_top _) (o1 .sc)) (o1 .sc)) (o1 .sc)) an), a0.extract 1 a0.size, h, rfl⟩
   ·refine AW.cond_no rfl c3 (AW.skip ?_)
    exact ⟨⟨78, (upd 78 (upd 78 (upd 78 topF 0 (st_ a0)) 4 (sb (v2 == 45))) 5 (st_ a0)), []⟩, (wg 0 [] [] hx (le_upd (le_upd (le_upd (le_top _) (o1 .sc)) (o1 .sc)) (o1 .sc)) an), a0, h, rfl⟩
  ·rintro st ⟨x5, h, rfl⟩
   cases k with
   | zero => exact absurd h (by simp [chars_Number.j0])
   | succ qj0 =>
    replace h := (chars_Number.j0.eq_2 _ _ _ _).symm.trans h
    refine AW.seq (AW.seq (AW.region ?_))
    refine s_move (d := (st_ x5)) rfl (s_binS (v := (.bool (x5.toList == (⟨#[]⟩ : ByteArray).toList))) rfl rfl rfl (s_move (d := (sb (x5.toList == (⟨#[]⟩ : ByteArray).toList))) rfl ?_))
    rcases itH h with ⟨c6, h⟩ | ⟨c6, h⟩
    ·iterate 4 refine AWops.guard_no rfl (nl rfl) rfl c6 ?_
     iterate 3 refine AWops.guard_undef rfl rfl ?_
     refine AWops.guard_no rfl (nl rfl) rfl c6 ?_
     refine s_pick_yes (d := (sb true)) rfl c6 rfl (AWops.nil ?_)
     refine AW.cond_yes rfl rfl (AW.seq (AW.region ?_))
     refine s_assign (d := (si 0)) rfl (s_assign (d := (si 5)) rfl (AWops.nil (AW.ret ?_)))
     obtain rfl := Option.some.inj h
     exact ⟨_, rfl, (wg 0 [] [] rfl (le_upd (le_top _) (DLe.tup (ac (TLe.one .sc) (ac (TLe.one .sc) an)))) an)⟩
    ·refine AWops.guard_yes rfl (nl rfl) rfl c6 ?_
     refine s_move (d := (st_ x5)) rfl ?_
     refine AWops.guard_yes rfl (nl rfl) rfl c6 ?_
     obtain ⟨v7, ev7, h⟩ := bnd h
     obtain ⟨pv7, bv7, gv7, rfl⟩ := bt_some ev7
     refine s_indexStr F.u_9 rfl rfl pv7 gv7 ?_
     generalize hzv7 : ((bv7.toNat : Nat) : Int) = v7 at *
     refine AWops.guard_yes rfl (nl rfl) rfl c6 ?_
     refine s_binI (v := (.bool (v7 == 48))) rfl rfl rfl ?_
     refine AWops.guard_yes rfl (nl rfl) rfl c6 ?_
     refine s_move (d := (sb (v7 == 48))) rfl ?_
     rcases itH h with ⟨c8, h⟩ | ⟨c8, h⟩
     ·refine AWops.guard_yes rfl (nl rfl) rfl c8 ?_
      refine s_move (d := (st_ a0)) rfl ?_
      refine AWops.guard_yes rfl (nl rfl) rfl c8 ?_
      refine s_len (n := a0.size) F.u_9 rfl (.inl ⟨⟨_, _, rfl⟩, rfl⟩) ?_
      refine AWops.guard_yes rfl (nl rfl) rfl c8 ?_
      refine s_binI (v := (.bool (decide ((a0.size : Int) > 1)))) rfl rfl rfl ?_
      refine AWops.guard_yes rfl (nl rfl) rfl c6 ?_
      refine s_pick_yes (d := (sb (decide ((a0.size : Int) > 1)))) rfl c8 rfl (s_pick_no (d := (sb (decide ((a0.size : Int) > 1)))) rfl c6 rfl (AWops.nil ?_))
      rcases itH h with ⟨c9, h⟩ | ⟨c9, h⟩
      ·refine AW.cond_yes rfl c9 (AW.seq (AW.region ?_))
       refine s_assign (d := (si 0)) rfl (s_assign (d := (si 5)) rfl (AWops.nil (AW.ret ?_)))
       obtain rfl := Option.some.inj h
       exact ⟨_, rfl, (wg 0 [] [] rfl (le_upd (le_top _) (DLe.tup (ac (TLe.one .sc) (ac (TLe.one .sc) an)))) an)⟩
      ·refine AW.cond_no rfl c9 (AW.skip (AW.seq (AW.region ?_)))
       refine s_assign (d := (sc (.int .u64 0))) rfl (AWops.nil (AW.seq (AW.region ?_)))
       refine s_move (d := (st_ x5)) rfl (s_len (n := x5.size) F.u_9 rfl (.inl ⟨⟨_, _, rfl⟩, rfl⟩) (s_binI (v := (.bool (decide ((x5.size : Int) > 19)))) rfl rfl rfl (s_assign (d := (sb (decide ((x5.size : Int) > 19)))) rfl (AWops.nil (AW.seq (AW.seq (AW.region (s_move (d := (st_ x5)) rfl (t_ofStr F.u_9 F.u_115 F.u_5 rfl ?_)))))))))
       refine s_len (n := (bytesI x5).length) F.u_115 rfl (.inr ⟨(fun _ _ h => by cases h), ⟨_, rfl⟩⟩) (s_move (d := (si 0)) rfl (AWops.nil (AW.block ?_)))
       refine AW.loopw (st0 := ⟨78, (upd 78 (upd 78 (upd 78 (upd 78 (upd 78 (upd 78 topF 4 (sb (v2 == 45))) 6 (sc (.int .u64 0))) 7 (sb (decide ((x5.size : Int) > 19)))) 39 (D.one (C.p false (.sl (bytesI x5).length ((bytesI x5).flatMap e_u8))))) 40 (si ((bytesI x5).length : Int))) 41 (si 0)), []⟩) (fun kv st => kv ≤ qj0 ∧ ∃ (x10 : Int) (x11 : Int), chars_Number.l1 kv x10 x11 v2 x5 = some r ∧ st = ⟨78, (upd 78 (upd 78 (upd 78 (upd 78 (upd 78 (upd 78 topF 4 (sb (v2 == 45))) 6 (sc (.int .u64 x10))) 7 (sb (decide ((x5.size : Int) > 19)))) 39 (D.one (C.p false (.sl (bytesI x5).length ((bytesI x5).flatMap e_u8))))) 40 (si ((bytesI x5).length : Int))) 41 (si x11)), []⟩) (k := qj0) (wg 0 [] [] hx (le_upd (le_upd (le_upd (le_upd (le_upd (le_upd (le_top _) (o1 .sc)) (o1 .sc)) (o1 .sc)) (o1 .same)) (o1 .sc)) (o1 .sc)) an) ⟨Nat.le_refl _, 0, 0, h, rfl⟩ ?_
       rintro ql1 st ⟨hkl1, x10, x11, h, rfl⟩
       cases ql1 with
       | zero => exact absurd h (by simp [chars_Number.l1])
       | succ ql1 =>
        replace h := (chars_Number.l1.eq_2 _ _ _ _ _).symm.trans h
        refine AW.seq (AW.region ?_)
        refine s_binI (v := (.bool (decide (x11 < ((bytesI x5).length : Int))))) rfl rfl rfl (AWops.nil (AW.seq ?_))
        rcases itH h with ⟨c12, h⟩ | ⟨c12, h⟩
        ·refine AW.cond_yes rfl c12 (AW.skip (AW.seq (AW.block (AW.seq (AW.region ?_)))))
         obtain ⟨v13, ev13, h⟩ := bnd h
         obtain ⟨pv13, qv13, gv13⟩ := rd_some ev13
         refine s_indexImm (ps := [P.v (.int .u8 v13)]) F.u_115 F.sz_5 rfl rfl pv13 qv13 (flat_at e_u8_len gv13 (e_u8_eq v13)) (s_load1 (c' := (C.p true (.v (.int .u8 v13)))) F.ag_5 rfl rfl (s_assign (d := (sc (.int .u8 v13))) rfl (AWops.nil (AW.seq (AW.seq (AW.region (s_move (d := (sc (.int .u8 v13))) rfl (s_binI (v := (.bool (decide (v13 < 48)))) rfl rfl rfl (s_move (d := (sb (decide (v13 < 48)))) rfl ?_)))))))))
         rcases itH h with ⟨c14, h⟩ | ⟨c14, h⟩
         ·refine AWops.guard_no rfl (nl rfl) rfl c14 ?_
          refine AWops.guard_no rfl (nl rfl) rfl c14 ?_
          refine s_pick_yes (d := (sb true)) rfl c14 rfl (AWops.nil ?_)
          refine AW.cond_yes rfl rfl (AW.seq (AW.region ?_))
          refine s_assign (d := (si 0)) rfl (s_assign (d := (si 5)) rfl (AWops.nil (AW.ret ?_)))
          obtain rfl := Option.some.inj h
          exact ⟨_, rfl, (wg 0 [] [] rfl (le_upd (le_top _) (DLe.tup (ac (TLe.one .sc) (ac (TLe.one .sc) an)))) an)⟩
         ·refine AWops.guard_yes rfl (nl rfl) rfl c14 ?_
          refine s_move (d := (sc (.int .u8 v13))) rfl ?_
          refine AWops.guard_yes rfl (nl rfl) rfl c14 ?_
          refine s_binI (v := (.bool (decide (v13 > 57)))) rfl rfl rfl (s_pick_no (d := (sb (decide (v13 > 57)))) rfl c14 rfl (AWops.nil ?_))
          rcases itH h with ⟨c15, h⟩ | ⟨c15, h⟩
          ·refine AW.cond_yes rfl c15 (AW.seq (AW.region ?_))
           refine s_assign (d := (si 0)) rfl (s_assign (d := (si 5)) rfl (AWops.nil (AW.ret ?_)))
           obtain rfl := Option.some.inj h
           exact ⟨_, rfl, (wg 0 [] [] rfl (le_upd (le_top _) (DLe.tup (ac (TLe.one .sc) (ac (TLe.one .sc) an)))) an)⟩
          ·refine AW.cond_no rfl c15 (AW.skip (AW.seq (AW.region ?_)))
           refine s_move (d := (sb (decide ((x5.size : Int) > 19)))) rfl (s_not rfl (AWops.nil ?_))
           rcases itH h with ⟨c16, h⟩ | ⟨c16, h⟩
           ·refine AW.cond_no rfl (by rw [c16] <;> rfl) (AW.skip (AW.region ?_))
            refine s_binI (v := (.int .i64 (IntKind.i64.wrap (x11 + 1)))) rfl rfl rfl (s_move (d := (si (IntKind.i64.wrap (x11 + 1)))) rfl (AWops.nil ?_))
            exact ⟨_, ⟨78, (upd 78 (upd 78 (upd 78 (upd 78 (upd 78 (upd 78 topF 4 (sb (v2 == 45))) 6 (sc (.int .u64 x10))) 7 (sb (decide ((x5.size : Int) > 19)))) 39 (D.one (C.p false (.sl (bytesI x5).length ((bytesI x5).flatMap e_u8))))) 40 (si ((bytesI x5).length : Int))) 41 (si (IntKind.i64.wrap (x11 + 1)))), []⟩, by omega, (wg 0 [] [] hx (le_upd (le_upd (le_upd (le_upd (le_upd (le_upd (le_top _) (o1 .sc)) (o1 .sc)) (o1 .sc)) (o1 .same)) (o1 .sc)) (o1 .sc)) an), by omega, x10, IntKind.i64.wrap (x11 + 1), h, rfl⟩
           ·refine AW.cond_yes rfl (by rw [c16] <;> rfl) (AW.region ?_)
            refine s_move (d := (sc (.int .u64 x10))) rfl (s_binI (v := (.int .u64 (IntKind.u64.wrap (10 * x10)))) rfl rfl rfl (s_move (d := (sc (.int .u8 v13))) rfl (s_binI (v := (.int .u8 (IntKind.u8.wrap (v13 - 48)))) rfl rfl rfl (s_convI F.u_5 F.u_129 rfl (s_binI (v := (.int .u64 (IntKind.u64.wrap ((IntKind.u64.wrap (10 * x10)) + (IntKind.u64.wrap (IntKind.u8.wrap (v13 - 48))))))) rfl rfl rfl ?_)))))
            refine s_assign (d := (sc (.int .u64 (IntKind.u64.wrap ((IntKind.u64.wrap (10 * x10)) + (IntKind.u64.wrap (IntKind.u8.wrap (v13 - 48)))))))) rfl (AWops.nil (AW.region ?_))
            refine s_binI (v := (.int .i64 (IntKind.i64.wrap (x11 + 1)))) rfl rfl rfl (s_move (d := (si (IntKind.i64.wrap (x11 + 1)))) rfl (AWops.nil ?_))
            exact ⟨_, ⟨78, (upd 78 (upd 78 (upd 78 (upd 78 (upd 78 (upd 78 topF 4 (sb (v2 == 45))) 6 (sc (.int .u64 (IntKind.u64.wrap ((IntKind.u64.wrap (10 * x10)) + (IntKind.u64.wrap (IntKind.u8.wrap (v13 - 48)))))))) 7 (sb (decide ((x5.size : Int) > 19)))) 39 (D.one (C.p false (.sl (bytesI x5).length ((bytesI x5).flatMap e_u8))))) 40 (si ((bytesI x5).length : Int))) 41 (si (IntKind.i64.wrap (x11 + 1)))), []⟩, by omega, (wg 0 [] [] hx (le_upd (le_upd (le_upd (le_upd (le_upd (le_upd (le_top _) (o1 .sc)) (o1 .sc)) (o1 .sc)) (o1 .same)) (o1 .sc)) (o1 .sc)) an), by omega, IntKind.u64.wrap ((IntKind.u64.wrap (10 * x10)) + (IntKind.u64.wrap (IntKind.u8.wrap (v13 - 48)))), IntKind.i64.wrap (x11 + 1), h, rfl⟩
        ·refine AW.cond_no rfl c12 (AW.exit (AW.seq (AW.region ?_)))
         refine s_assign (d := (sc (.int .u64 9223372036854775808))) rfl (AWops.nil ?_)
         refine AW.seqJ (fun st => ∃ (x18 : Int), chars_Number.j2 ql1 x18 v2 x5 x10 = some r ∧ st = ⟨78, (upd 78 (upd 78 (upd 78 (upd 78 topF 4 (sb (v2 == 45))) 6 (sc (.int .u64 x10))) 7 (sb (decide ((x5.size : Int) > 19)))) 10 (sc (.int .u64 x18))), []⟩) ?_ ?_
         ·refine AW.seq (AW.region ?_)
          refine s_move (d := (sb (v2 == 45))) rfl (s_not rfl (AWops.nil ?_))
          rcases itH h with ⟨c17, h⟩ | ⟨c17, h⟩
          ·refine AW.cond_no rfl (by rw [c17] <;> rfl) (AW.skip ?_)
           exact ⟨⟨78, (upd 78 (upd 78 (upd 78 (upd 78 topF 4 (sb (v2 == 45))) 6 (sc (.int .u64 x10))) 7 (sb (decide ((x5.size : Int) > 19)))) 10 (sc (.int .u64 9223372036854775808))), []⟩, (wg 0 [] [] hx (le_upd (le_upd (le_upd (le_upd (le_top _) (o1 .sc)) (o1 .sc)) (o1 .sc)) (o1 .sc)) an), 9223372036854775808, h, rfl⟩
          ·refine AW.cond_yes rfl (by rw [c17] <;> rfl) (AW.region ?_)
           refine s_move (d := (sc (.int .u64 9223372036854775808))) rfl (s_binI (v := (.int .u64 9223372036854775807)) rfl rfl (by rfl) (s_assign (d := (sc (.int .u64 9223372036854775807))) rfl (AWops.nil ?_)))
           exact ⟨⟨78, (upd 78 (upd 78 (upd 78 (upd 78 topF 4 (sb (v2 == 45))) 6 (sc (.int .u64 x10))) 7 (sb (decide ((x5.size : Int) > 19)))) 10 (sc (.int .u64 9223372036854775807))), []⟩, (wg 0 [] [] hx (le_upd (le_upd (le_upd (le_upd (le_top _) (o1 .sc)) (o1 .sc)) (o1 .sc)) (o1 .sc)) an), 9223372036854775807, h, rfl⟩
         ·rintro st ⟨x18, h, rfl⟩
          cases ql1 with
          | zero => exact absurd h (by simp [chars_Number.j2])
          | succ qj2 =>
           replace h := (chars_Number.j2.eq_2 _ _ _ _ _).symm.trans h
           refine AW.seq (AW.block (AW.seq (AW.region ?_)))
           refine s_move (d := (sb (decide ((x5.size : Int) > 19)))) rfl (s_move (d := (sb (decide ((x5.size : Int) > 19)))) rfl ?_)
           rcases itH h with ⟨c19, h⟩ | ⟨c19, h⟩
           ·iterate 3 refine AWops.guard_no rfl (nl rfl) rfl c19 ?_
            refine s_pick_yes (d := (sb true)) rfl c19 rfl (s_assign (d := (sb true)) rfl (AWops.nil ?_))
            refine AW.cond_yes rfl rfl (AW.seq (AW.region ?_))
            refine s_assign (d := (si 0)) rfl (s_assign (d := (si 4)) rfl (AWops.nil (AW.ret ?_)))
            obtain rfl := Option.some.inj h
            exact ⟨_, rfl, (wg 0 [] [] rfl (le_upd (le_top _) (DLe.tup (ac (TLe.one .sc) (ac (TLe.one .sc) an)))) an)⟩
           ·refine AWops.guard_yes rfl (nl rfl) rfl c19 ?_
            refine s_move (d := (sc (.int .u64 x10))) rfl ?_
            refine AWops.guard_yes rfl (nl rfl) rfl c19 ?_
            refine s_move (d := (sc (.int .u64 x18))) rfl ?_
            refine AWops.guard_yes rfl (nl rfl) rfl c19 ?_
            refine s_binI (v := (.bool (decide (x10 > x18)))) rfl rfl rfl (s_pick_no (d := (sb (decide (x10 > x18)))) rfl c19 rfl (s_assign (d := (sb (decide (x10 > x18)))) rfl (AWops.nil ?_)))
            rcases itH h with ⟨c20, h⟩ | ⟨c20, h⟩
            ·refine AW.cond_yes rfl c20 (AW.seq (AW.region ?_))
             refine s_assign (d := (si 0)) rfl (s_assign (d := (si 4)) rfl (AWops.nil (AW.ret ?_)))
             obtain rfl := Option.some.inj h
             exact ⟨_, rfl, (wg 0 [] [] rfl (le_upd (le_top _) (DLe.tup (ac (TLe.one .sc) (ac (TLe.one .sc) an)))) an)⟩
            ·refine AW.cond_no rfl c20 (AW.seq (AW.region ?_))
             refine s_move (d := (sb (v2 == 45))) rfl (s_assign (d := (sb (v2 == 45))) rfl (AWops.nil ?_))
             rcases itH h with ⟨c21, h⟩ | ⟨c21, h⟩
             ·refine AW.cond_yes rfl c21 (AW.seq (AW.region ?_))
              refine s_move (d := (sc (.int .u64 x10))) rfl (s_convI F.u_129 F.u_3 rfl (s_unI (v := (.int .i64 (IntKind.i64.wrap (0 - (IntKind.i64.wrap x10))))) rfl rfl (s_assign (d := (si (IntKind.i64.wrap (0 - (IntKind.i64.wrap x10))))) rfl (s_assign (d := (si 0)) rfl (AWops.nil (AW.ret ?_))))))
              obtain rfl := Option.some.inj h
              exact ⟨_, rfl, (wg 0 [] [] rfl (le_upd (le_top _) (DLe.tup (ac (TLe.one .sc) (ac (TLe.one .sc) an)))) an)⟩
             ·refine AW.cond_no rfl c21 (AW.skip (AW.seq (AW.region ?_)))
              refine s_move (d := (sc (.int .u64 x10))) rfl (s_convI F.u_129 F.u_3 rfl (s_assign (d := (si (IntKind.i64.wrap x10))) rfl (s_assign (d := (si 0)) rfl (AWops.nil (AW.ret ?_)))))
              obtain rfl := Option.some.inj h
              exact ⟨_, rfl, (wg 0 [] [] rfl (le_upd (le_top _) (DLe.tup (ac (TLe.one .sc) (ac (TLe.one .sc) an)))) an)⟩
     ·iterate 3 refine AWops.guard_no rfl (nl rfl) rfl c8 ?_
      refine AWops.guard_yes rfl (nl rfl) rfl c6 ?_
      refine s_pick_no (d := (sb false)) rfl c8 rfl (s_pick_no (d := (sb false)) rfl c6 rfl (AWops.nil ?_))
      refine AW.cond_no rfl rfl (AW.skip (AW.seq (AW.region ?_)))
      refine s_assign (d := (sc (.int .u64 0))) rfl (AWops.nil (AW.seq (AW.region ?_)))
      refine s_move (d := (st_ x5)) rfl (s_len (n := x5.size) F.u_9 rfl (.inl ⟨⟨_, _, rfl⟩, rfl⟩) (s_binI (v := (.bool (decide ((x5.size : Int) > 19)))) rfl rfl rfl (s_assign (d := (sb (decide ((x5.size : Int) > 19)))) rfl (AWops.nil (AW.seq (AW.seq (AW.region (s_move (d := (st_ x5)) rfl (t_ofStr F.u_9 F.u_115 F.u_5 rfl ?_)))))))))
      refine s_len (n := (bytesI x5).length) F.u_115 rfl (.inr ⟨(fun _ _ h => by cases h), ⟨_, rfl⟩⟩) (s_move (d := (si 0)) rfl (AWops.nil (AW.block ?_)))
      refine AW.loopw (st0 := ⟨78, (upd 78 (upd 78 (upd 78 (upd 78 (upd 78 (upd 78 topF 4 (sb (v2 == 45))) 6 (sc (.int .u64 0))) 7 (sb (decide ((x5.size : Int) > 19)))) 39 (D.one (C.p false (.sl (bytesI x5).length ((bytesI x5).flatMap e_u8))))) 40 (si ((bytesI x5).length : Int))) 41 (si 0)), []⟩) (fun kv st => kv ≤ qj0 ∧ ∃ (x22 : Int) (x23 : Int), chars_Number.l3 kv x22 x23 v2 x5 = some r ∧ st = ⟨78, (upd 78 (upd 78 (upd 78 (upd 78 (upd 78 (upd 78 topF 4 (sb (v2 == 45))) 6 (sc (.int .u64 x22))) 7 (sb (decide ((x5.size : Int) > 19)))) 39 (D.one (C.p false (.sl (bytesI x5).length ((bytesI x5).flatMap e_u8))))) 40 (si ((bytesI x5).length : Int))) 41 (si x23)), []⟩) (k := qj0) (wg 0 [] [] hx (le_upd (le_upd (le_upd (le_upd (le_upd (le_upd (le_top _) (o1 .sc)) (o1 .sc)) (o1 .sc)) (o1 .same)) (o1 .sc)) (o1 .sc)) an) ⟨Nat.le_refl _, 0, 0, h, rfl⟩ ?_
      rintro ql3 st ⟨hkl3, x22, x23, h, rfl⟩
      cases ql3 with
      | zero => exact absurd h (by simp [chars_Number.l3])
      | succ ql3 =>
       replace h := (chars_Number.l3.eq_2 _ _ _ _ _).symm.trans h
       refine AW.seq (AW.region ?_)
       refine s_binI (v := (.bool (decide (x23 < ((bytesI x5).length : Int))))) rfl rfl rfl (AWops.nil (AW.seq ?_))
       rcases itH h with ⟨c24, h⟩ | ⟨c24, h⟩
       ·refine AW.cond_yes rfl c24 (AW.skip (AW.seq (AW.block (AW.seq (AW.region ?_)))))
        obtain ⟨v25, ev25, h⟩ := bnd h
        obtain ⟨pv25, qv25, gv25⟩ := rd_some ev25
        refine s_indexImm (ps := [P.v (.int .u8 v25)]) F.u_115 F.sz_5 rfl rfl pv25 qv25 (flat_at e_u8_len gv25 (e_u8_eq v25)) (s_load1 (c' := (C.p true (.v (.int .u8 v25)))) F.ag_5 rfl rfl (s_assign (d := (sc (.int .u8 v25))) rfl (AWops.nil (AW.seq (AW.seq (AW.region (s_move (d := (sc (.int .u8 v25))) rfl (s_binI (v := (.bool (decide (v25 < 48)))) rfl rfl rfl (s_move (d := (sb (decide (v25 < 48)))) rfl ?_)))))))))
        rcases itH h with ⟨c26, h⟩ | ⟨c26, h⟩
        ·refine AWops.guard_no rfl (nl rfl) rfl c26 ?_
         refine AWops.guard_no rfl (nl rfl) rfl c26 ?_
         refine s_pick_yes (d := (sb true)) rfl c26 rfl (AWops.nil ?_)
         refine AW.cond_yes rfl rfl (AW.seq (AW.region ?_))
         refine s_assign (d := (si 0)) rfl (s_assign (d := (si 5)) rfl (AWops.nil (AW.ret ?_)))
         obtain rfl := Option.some.inj h
         exact ⟨_, rfl, (wg 0 [] [] rfl (le_upd (le_top _) (DLe.tup (ac (TLe.one .sc) (ac (TLe.one .sc) an)))) an)⟩
        ·refine AWops.guard_yes rfl (nl rfl) rfl c26 ?_
         refine s_move (d := (sc (.int .u8 v25))) rfl ?_
         refine AWops.guard_yes rfl (nl rfl) rfl c26 ?_
         refine s_binI (v := (.bool (decide (v25 > 57)))) rfl rfl rfl (s_pick_no (d := (sb (decide (v25 > 57)))) rfl c26 rfl (AWops.nil ?_))
         rcases itH h with ⟨c27, h⟩ | ⟨c27, h⟩
         ·refine AW.cond_yes rfl c27 (AW.seq (AW.region ?_))
          refine s_assign (d := (si 0)) rfl (s_assign (d := (si 5)) rfl (AWops.nil (AW.ret ?_)))
          obtain rfl := Option.some.inj h
          exact ⟨_, rfl, (wg 0 [] [] rfl (le_upd (le_top _) (DLe.tup (ac (TLe.one .sc) (ac (TLe.one .sc) an)))) an)⟩
         ·refine AW.cond_no rfl c27 (AW.skip (AW.seq (AW.region ?_)))
          refine s_move (d := (sb (decide ((x5.size : Int) > 19)))) rfl (s_not rfl (AWops.nil ?_))
          rcases itH h with ⟨c28, h⟩ | ⟨c28, h⟩
          ·refine AW.cond_no rfl (by rw [c28] <;> rfl) (AW.skip (AW.region ?_))
           refine s_binI (v := (.int .i64 (IntKind.i64.wrap (x23 + 1)))) rfl rfl rfl (s_move (d := (si (IntKind.i64.wrap (x23 + 1)))) rfl (AWops.nil ?_))
           exact ⟨_, ⟨78, (upd 78 (upd 78 (upd 78 (upd 78 (upd 78 (upd 78 topF 4 (sb (v2 == 45))) 6 (sc (.int .u64 x22))) 7 (sb (decide ((x5.size : Int) > 19)))) 39 (D.one (C.p false (.sl (bytesI x5).length ((bytesI x5).flatMap e_u8))))) 40 (si ((bytesI x5).length : Int))) 41 (si (IntKind.i64.wrap (x23 + 1)))), []⟩, by omega, (wg 0 [] [] hx (le_upd (le_upd (le_upd (le_upd (le_upd (le_upd (le_top _) (o1 .sc)) (o1 .sc)) (o1 .sc)) (o1 .same)) (o1 .sc)) (o1 .sc)) an), by omega, x22, IntKind.i64.wrap (x23 + 1), h, rfl⟩
          ·refine AW.cond_yes rfl (by rw [c28] <;> rfl) (AW.region ?_)
           refine s_move (d := (sc (.int .u64 x22))) rfl (s_binI (v := (.int .u64 (IntKind.u64.wrap (10 * x22)))) rfl rfl rfl (s_move (d := (sc (.int .u8 v25))) rfl (s_binI (v := (.int .u8 (IntKind.u8.wrap (v25 - 48)))) rfl rfl rfl (s_convI F.u_5 F.u_129 rfl (s_binI (v := (.int .u64 (IntKind.u64.wrap ((IntKind.u64.wrap (10 * x22)) + (IntKind.u64.wrap (IntKind.u8.wrap (v25 - 48))))))) rfl rfl rfl ?_)))))
           refine s_assign (d := (sc (.int .u64 (IntKind.u64.wrap ((IntKind.u64.wrap (10 * x22)) + (IntKind.u64.wrap (IntKind.u8.wrap (v25 - 48)))))))) rfl (AWops.nil (AW.region ?_))
           refine s_binI (v := (.int .i64 (IntKind.i64.wrap (x23 + 1)))) rfl rfl rfl (s_move (d := (si (IntKind.i64.wrap (x23 + 1)))) rfl (AWops.nil ?_))
           exact ⟨_, ⟨78, (upd 78 (upd 78 (upd 78 (upd 78 (upd 78 (upd 78 topF 4 (sb (v2 == 45))) 6 (sc (.int .u64 (IntKind.u64.wrap ((IntKind.u64.wrap (10 * x22)) + (IntKind.u64.wrap (IntKind.u8.wrap (v25 - 48)))))))) 7 (sb (decide ((x5.size : Int) > 19)))) 39 (D.one (C.p false (.sl (bytesI x5).length ((bytesI x5).flatMap e_u8))))) 40 (si ((bytesI x5).length : Int))) 41 (si (IntKind.i64.wrap (x23 + 1)))), []⟩, by omega, (wg 0 [] [] hx (le_upd (le_upd (le_upd (le_upd (le_upd (le_upd (le_top _) (o1 .sc)) (o1 .sc)) (o1 .sc)) (o1 .same)) (o1 .sc)) (o1 .sc)) an), by omega, IntKind.u64.wrap ((IntKind.u64.wrap (10 * x22)) + (IntKind.u64.wrap (IntKind.u8.wrap (v25 - 48)))), IntKind.i64.wrap (x23 + 1), h, rfl⟩
       ·refine AW.cond_no rfl c24 (AW.exit (AW.seq (AW.region ?_)))
        refine s_assign (d := (sc (.int .u64 9223372036854775808))) rfl (AWops.nil ?_)
        refine AW.seqJ (fun st => ∃ (x30 : Int), chars_Number.j4 ql3 x30 v2 x5 x22 = some r ∧ st = ⟨78, (upd 78 (upd 78 (upd 78 (upd 78 topF 4 (sb (v2 == 45))) 6 (sc (.int .u64 x22))) 7 (sb (decide ((x5.size : Int) > 19)))) 10 (sc (.int .u64 x30))), []⟩) ?_ ?_
        ·refine AW.seq (AW.region ?_)
         refine s_move (d := (sb (v2 == 45))) rfl (s_not rfl (AWops.nil ?_))
         rcases itH h with ⟨c29, h⟩ | ⟨c29, h⟩
         ·refine AW.cond_no rfl (by rw [c29] <;> rfl) (AW.skip ?_)
          exact ⟨⟨78, (upd 78 (upd 78 (upd 78 (upd 78 topF 4 (sb (v2 == 45))) 6 (sc (.int .u64 x22))) 7 (sb (decide ((x5.size : Int) > 19)))) 10 (sc (.int .u64 9223372036854775808))), []⟩, (wg 0 [] [] hx (le_upd (le_upd (le_upd (le_upd (le_top _) (o1 .sc)) (o1 .sc)) (o1 .sc)) (o1 .sc)) an), 9223372036854775808, h, rfl⟩
         ·refine AW.cond_yes rfl (by rw [c29] <;> rfl) (AW.region ?_)
          refine s_move (d := (sc (.int .u64 9223372036854775808))) rfl (s_binI (v := (.int .u64 9223372036854775807)) rfl rfl (by rfl) (s_assign (d := (sc (.int .u64 9223372036854775807))) rfl (AWops.nil ?_)))
          exact ⟨⟨78, (upd 78 (upd 78 (upd 78 (upd 78 topF 4 (sb (v2 == 45))) 6 (sc (.int .u64 x22))) 7 (sb (decide ((x5.size : Int) > 19)))) 10 (sc (.int .u64 9223372036854775807))), []⟩, (wg 0 [] [] hx (le_upd (le_upd (le_upd (le_upd (le_top _) (o1 .sc)) (o1 .sc)) (o1 .sc)) (o1 .sc)) an), 9223372036854775807, h, rfl⟩
        ·rintro st ⟨x30, h, rfl⟩
         cases ql3 with
         | zero => exact absurd h (by simp [chars_Number.j4])
         | succ qj4 =>
          replace h := (chars_Number.j4.eq_2 _ _ _ _ _).symm.trans h
          refine AW.seq (AW.block (AW.seq (AW.region ?_)))
          refine s_move (d := (sb (decide ((x5.size : Int) > 19)))) rfl (s_move (d := (sb (decide ((x5.size : Int) > 19)))) rfl ?_)
          rcases itH h with ⟨c31, h⟩ | ⟨c31, h⟩
          ·iterate 3 refine AWops.guard_no rfl (nl rfl) rfl c31 ?_
           refine s_pick_yes (d := (sb true)) rfl c31 rfl (s_assign (d := (sb true)) rfl (AWops.nil ?_))
           refine AW.cond_yes rfl rfl (AW.seq (AW.region ?_))
           refine s_assign (d := (si 0)) rfl (s_assign (d := (si 4)) rfl (AWops.nil (AW.ret ?_)))
           obtain rfl := Option.some.inj h
           exact ⟨_, rfl, (wg 0 [] [] rfl (le_upd (le_top _) (DLe.tup (ac (TLe.one .sc) (ac (TLe.one .sc) an)))) an)⟩
          ·refine AWops.guard_yes rfl (nl rfl) rfl c31 ?_
           refine s_move (d := (sc (.int .u64 x22))) rfl ?_
           refine AWops.guard_yes rfl (nl rfl) rfl c31 ?_
           refine s_move (d := (sc (.int .u64 x30))) rfl ?_
           refine AWops.guard_yes rfl (nl rfl) rfl c31 ?_
           refine s_binI (v := (.bool (decide (x22 > x30)))) rfl rfl rfl (s_pick_no (d := (sb (decide (x22 > x30)))) rfl c31 rfl (s_assign (d := (sb (decide (x22 > x30)))) rfl (AWops.nil ?_)))
           rcases itH h with ⟨c32, h⟩ | ⟨c32, h⟩
           ·refine AW.cond_yes rfl c32 (AW.seq (AW.region ?_))
            refine s_assign (d := (si 0)) rfl (s_assign (d := (si 4)) rfl (AWops.nil (AW.ret ?_)))
            obtain rfl := Option.some.inj h
            exact ⟨_, rfl, (wg 0 [] [] rfl (le_upd (le_top _) (DLe.tup (ac (TLe.one .sc) (ac (TLe.one .sc) an)))) an)⟩
           ·refine AW.cond_no rfl c32 (AW.seq (AW.region ?_))
            refine s_move (d := (sb (v2 == 45))) rfl (s_assign (d := (sb (v2 == 45))) rfl (AWops.nil ?_))
            rcases itH h with ⟨c33, h⟩ | ⟨c33, h⟩
            ·refine AW.cond_yes rfl c33 (AW.seq (AW.region ?_))
             refine s_move (d := (sc (.int .u64 x22))) rfl (s_convI F.u_129 F.u_3 rfl (s_unI (v := (.int .i64 (IntKind.i64.wrap (0 - (IntKind.i64.wrap x22))))) rfl rfl (s_assign (d := (si (IntKind.i64.wrap (0 - (IntKind.i64.wrap x22))))) rfl (s_assign (d := (si 0)) rfl (AWops.nil (AW.ret ?_))))))
             obtain rfl := Option.some.inj h
             exact ⟨_, rfl, (wg 0 [] [] rfl (le_upd (le_top _) (DLe.tup (ac (TLe.one .sc) (ac (TLe.one .sc) an)))) an)⟩
            ·refine AW.cond_no rfl c33 (AW.skip (AW.seq (AW.region ?_)))
             refine s_move (d := (sc (.int .u64 x22))) rfl (s_convI F.u_129 F.u_3 rfl (s_assign (d := (si (IntKind.i64.wrap x22))) rfl (s_assign (d := (si 0)) rfl (AWops.nil (AW.ret ?_)))))
             obtain rfl := Option.some.inj h
             exact ⟨_, rfl, (wg 0 [] [] rfl (le_upd (le_top _) (DLe.tup (ac (TLe.one .sc) (ac (TLe.one .sc) an)))) an)⟩
 ·iterate 3 refine AWops.guard_no rfl (nl rfl) rfl c1 ?_
  refine s_pick_no (d := (sb false)) rfl c1 rfl (s_assign (d := (sb false)) rfl (AWops.nil (AW.seq (AW.region (s_move (d := (st_ a0)) rfl (s_assign (d := (st_ a0)) rfl (AWops.nil (AW.seq (AW.seq (AW.region (s_move (d := (sb false)) rfl (AWops.nil ?_))))))))))))
  refine AW.cond_no rfl rfl (AW.skip (AW.seq (AW.seq (AW.region ?_))))
  refine s_move (d := (st_ a0)) rfl (s_binS (v := (.bool (a0.toList == (⟨#[]⟩ : ByteArray).toList))) rfl rfl rfl (s_move (d := (sb (a0.toList == (⟨#[]⟩ : ByteArray).toList))) rfl ?_))
  rcases itH h with ⟨c34, h⟩ | ⟨c34, h⟩
  ·iterate 4 refine AWops.guard_no rfl (nl rfl) rfl c34 ?_
   iterate 3 refine AWops.guard_undef rfl rfl ?_
   refine AWops.guard_no rfl (nl rfl) rfl c34 ?_
   refine s_pick_yes (d := (sb true)) rfl c34 rfl (AWops.nil ?_)
   refine AW.cond_yes rfl rfl (AW.seq (AW.region ?_))
   refine s_assign (d := (si 0)) rfl (s_assign (d := (si 5)) rfl (AWops.nil (AW.ret ?_)))
   obtain rfl := Option.some.inj h
   exact ⟨_, rfl, (wg 0 [] [] rfl (le_upd (le_top _) (DLe.tup (ac (TLe.one .sc) (ac (TLe.one .sc) an)))) an)⟩
  ·refine AWops.guard_yes rfl (nl rfl) rfl c34 ?_
   refine s_move (d := (st_ a0)) rfl ?_
   refine AWops.guard_yes rfl (nl rfl) rfl c34 ?_
   obtain ⟨v35, ev35, h⟩ := bnd h
   obtain ⟨pv35, bv35, gv35, rfl⟩ := bt_some ev35
   refine s_indexStr F.u_9 rfl rfl pv35 gv35 ?_
   generalize hzv35 : ((bv35.toNat : Nat) : Int) = v35 at *
   refine AWops.guard_yes rfl (nl rfl) rfl c34 ?_
   refine s_binI (v := (.bool (v35 == 48))) rfl rfl rfl ?_
   refine AWops.guard_yes rfl (nl rfl) rfl c34 ?_
   refine s_move (d := (sb (v35 == 48))) rfl ?_
   rcases itH h with ⟨c36, h⟩ | ⟨c36, h⟩
   ·refine AWops.guard_yes rfl (nl rfl) rfl c36 ?_
    refine s_move (d := (st_ a0)) rfl ?_
    refine AWops.guard_yes rfl (nl rfl) rfl c36 ?_
    refine s_len (n := a0.size) F.u_9 rfl (.inl ⟨⟨_, _, rfl⟩, rfl⟩) ?_
    refine AWops.guard_yes rfl (nl rfl) rfl c36 ?_
    refine s_binI (v := (.bool (decide ((a0.size : Int) > 1)))) rfl rfl rfl ?_
    refine AWops.guard_yes rfl (nl rfl) rfl c34 ?_
    refine s_pick_yes (d := (sb (decide ((a0.size : Int) > 1)))) rfl c36 rfl (s_pick_no (d := (sb (decide ((a0.size : Int) > 1)))) rfl c34 rfl (AWops.nil ?_))
    rcases itH h with ⟨c37, h⟩ | ⟨c37, h⟩
    ·refine AW.cond_yes rfl c37 (AW.seq (AW.region ?_))
     refine s_assign (d := (si 0)) rfl (s_assign (d := (si 5)) rfl (AWops.nil (AW.ret ?_)))
     obtain rfl := Option.some.inj h
     exact ⟨_, rfl, (wg 0 [] [] rfl (le_upd (le_top _) (DLe.tup (ac (TLe.one .sc) (ac (TLe.one .sc) an)))) an)⟩
    ·refine AW.cond_no rfl c37 (AW.skip (AW.seq (AW.region ?_)))
     refine s_assign (d := (sc (.int .u64 0))) rfl (AWops.nil (AW.seq (AW.region ?_)))
     refine s_move (d := (st_ a0)) rfl (s_len (n := a0.size) F.u_9 rfl (.inl ⟨⟨_, _, rfl⟩, rfl⟩) (s_binI (v := (.bool (decide ((a0.size : Int) > 19)))) rfl rfl rfl (s_assign (d := (sb (decide ((a0.size : Int) > 19)))) rfl (AWops.nil (AW.seq (AW.seq (AW.region (s_move (d := (st_ a0)) rfl (t_ofStr F.u_9 F.u_115 F.u_5 rfl ?_)))))))))
     refine s_len (n := (bytesI a0).length) F.u_115 rfl (.inr ⟨(fun _ _ h => by cases h), ⟨_, rfl⟩⟩) (s_move (d := (si 0)) rfl (AWops.nil (AW.block ?_)))
     refine AW.loopw (st0 := ⟨78, (upd 78 (upd 78 (upd 78 (upd 78 (upd 78 (upd 78 topF 4 (sb false)) 6 (sc (.int .u64 0))) 7 (sb (decide ((a0.size : Int) > 19)))) 39 (D.one (C.p false (.sl (bytesI a0).length ((bytesI a0).flatMap e_u8))))) 40 (si ((bytesI a0).length : Int))) 41 (si 0)), []⟩) (fun kv st => kv ≤ k ∧ ∃ (x38 : Int) (x39 : Int), chars_Number.l5 kv x38 x39 a0 = some r ∧ st = ⟨78, (upd 78 (upd 78 (upd 78 (upd 78 (upd 78 (upd 78 topF 4 (sb false)) 6 (sc (.int .u64 x38))) 7 (sb (decide ((a0.size : Int) > 19)))) 39 (D.one (C.p false (.sl (bytesI a0).length ((bytesI a0).flatMap e_u8))))) 40 (si ((bytesI a0).length : Int))) 41 (si x39)), []⟩) (k := k) (wg 0 [] [] hx (le_upd (le_upd (le_upd (le_upd (le_upd (le_upd (le_top _) (o1 .sc)) (o1 .sc)) (o1 .sc)) (o1 .same)) (o1 .sc)) (o1 .sc)) an) ⟨Nat.le_refl _, 0, 0, h, rfl⟩ ?_
     rintro ql5 st ⟨hkl5, x38, x39, h, rfl⟩
     cases ql5 with
     | zero => exact absurd h (by simp [chars_Number.l5])
     | succ ql5 =>
      replace h := (chars_Number.l5.eq_2 _ _ _ _).symm.trans h
      refine AW.seq (AW.region ?_)
      refine s_binI (v := (.bool (decide (x39 < ((bytesI a0).length : Int))))) rfl rfl rfl (AWops.nil (AW.seq ?_))
      rcases itH h with ⟨c40, h⟩ | ⟨c40, h⟩
      ·refine AW.cond_yes rfl c40 (AW.skip (AW.seq (AW.block (AW.seq (AW.region ?_)))))
       obtain ⟨v41, ev41, h⟩ := bnd h
       obtain ⟨pv41, qv41, gv41⟩ := rd_some ev41
       refine s_indexImm (ps := [P.v (.int .u8 v41)]) F.u_115 F.sz_5 rfl rfl pv41 qv41 (flat_at e_u8_len gv41 (e_u8_eq v41)) (s_load1 (c' := (C.p true (.v (.int .u8 v41)))) F.ag_5 rfl rfl (s_assign (d := (sc (.int .u8 v41))) rfl (AWops.nil (AW.seq (AW.seq (AW.region (s_move (d := (sc (.int .u8 v41))) rfl (s_binI (v := (.bool (decide (v41 < 48)))) rfl rfl rfl (s_move (d := (sb (decide (v41 < 48)))) rfl ?_)))))))))
       rcases itH h with ⟨c42, h⟩ | ⟨c42, h⟩
       ·refine AWops.guard_no rfl (nl rfl) rfl c42 ?_
        refine AWops.guard_no rfl (nl rfl) rfl c42 ?_
        refine s_pick_yes (d := (sb true)) rfl c42 rfl (AWops.nil ?_)
        refine AW.cond_yes rfl rfl (AW.seq (AW.region ?_))
        refine s_assign (d := (si 0)) rfl (s_assign (d := (si 5)) rfl (AWops.nil (AW.ret ?_)))
        obtain rfl := Option.some.inj h
        exact ⟨_, rfl, (wg 0 [] [] rfl (le_upd (le_top _) (DLe.tup (ac (TLe.one .sc) (ac (TLe.one .sc) an)))) an)⟩
       ·refine AWops.guard_yes rfl (nl rfl) rfl c42 ?_
        refine s_move (d := (sc (.int .u8 v41))) rfl ?_
        refine AWops.guard_yes rfl (nl rfl) rfl c42 ?_
        refine s_binI (v := (.bool (decide (v41 > 57)))) rfl rfl rfl (s_pick_no (d := (sb (decide (v41 > 57)))) rfl c42 rfl (AWops.nil ?_))
        rcases itH h with ⟨c43, h⟩ | ⟨c43, h⟩
        ·refine AW.cond_yes rfl c43 (AW.seq (AW.region ?_))
         refine s_assign (d := (si 0)) rfl (s_assign (d := (si 5)) rfl (AWops.nil (AW.ret ?_)))
         obtain rfl := Option.some.inj h
         exact ⟨_, rfl, (wg 0 [] [] rfl (le_upd (le_top _) (DLe.tup (ac (TLe.one .sc) (ac (TLe.one .sc) an)))) an)⟩
        ·refine AW.cond_no rfl c43 (AW.skip (AW.seq (AW.region ?_)))
         refine s_move (d := (sb (decide ((a0.size : Int) > 19)))) rfl (s_not rfl (AWops.nil ?_))
         rcases itH h with ⟨c44, h⟩ | ⟨c44, h⟩
         ·refine AW.cond_no rfl (by rw [c44] <;> rfl) (AW.skip (AW.region ?_))
          refine s_binI (v := (.int .i64 (IntKind.i64.wrap (x39 + 1)))) rfl rfl rfl (s_move (d := (si (IntKind.i64.wrap (x39 + 1)))) rfl (AWops.nil ?_))
          exact ⟨_, ⟨78, (upd 78 (upd 78 (upd 78 (upd 78 (upd 78 (upd 78 topF 4 (sb false)) 6 (sc (.int .u64 x38))) 7 (sb (decide ((a0.size : Int) > 19)))) 39 (D.one (C.p false (.sl (bytesI a0).length ((bytesI a0).flatMap e_u8))))) 40 (si ((bytesI a0).length : Int))) 41 (si (IntKind.i64.wrap (x39 + 1)))), []⟩, by omega, (wg 0 [] [] hx (le_upd (le_upd (le_upd (le_upd (le_upd (le_upd (le_top _) (o1 .sc)) (o1 .sc)) (o1 .sc)) (o1 .same)) (o1 .sc)) (o1 .sc)) an), by omega, x38, IntKind.i64.wrap (x39 + 1), h, rfl⟩
         ·refine AW.cond_yes rfl (by rw [c44] <;> rfl) (AW.region ?_)
          refine s_move (d := (sc (.int .u64 x38))) rfl (s_binI (v := (.int .u64 (IntKind.u64.wrap (10 * x38)))) rfl rfl rfl (s_move (d := (sc (.int .u8 v41))) rfl (s_binI (v := (.int .u8 (IntKind.u8.wrap (v41 - 48)))) rfl rfl rfl (s_convI F.u_5 F.u_129 rfl (s_binI (v := (.int .u64 (IntKind.u64.wrap ((IntKind.u64.wrap (10 * x38)) + (IntKind.u64.wrap (IntKind.u8.wrap (v41 - 48))))))) rfl rfl rfl ?_)))))
          refine s_assign (d := (sc (.int .u64 (IntKind.u64.wrap ((IntKind.u64.wrap (10 * x38)) + (IntKind.u64.wrap (IntKind.u8.wrap (v41 - 48)))))))) rfl (AWops.nil (AW.region ?_))
          refine s_binI (v := (.int .i64 (IntKind.i64.wrap (x39 + 1)))) rfl rfl rfl (s_move (d := (si (IntKind.i64.wrap (x39 + 1)))) rfl (AWops.nil ?_))
          exact ⟨_, ⟨78, (upd 78 (upd 78 (upd 78 (upd 78 (upd 78 (upd 78 topF 4 (sb false)) 6 (sc (.int .u64 (IntKind.u64.wrap ((IntKind.u64.wrap (10 * x38)) + (IntKind.u64.wrap (IntKind.u8.wrap (v41 - 48)))))))) 7 (sb (decide ((a0.size : Int) > 19)))) 39 (D.one (C.p false (.sl (bytesI a0).length ((bytesI a0).flatMap e_u8))))) 40 (si ((bytesI a0).length : Int))) 41 (si (IntKind.i64.wrap (x39 + 1)))), []⟩, by omega, (wg 0 [] [] hx (le_upd (le_upd (le_upd (le_upd (le_upd (le_upd (le_top _) (o1 .sc)) (o1 .sc)) (o1 .sc)) (o1 .same)) (o1 .sc)) (o1 .sc)) an), by omega, IntKind.u64.wrap ((IntKind.u64.wrap (10 * x38)) + (IntKind.u64.wrap (IntKind.u8.wrap (v41 - 48)))), IntKind.i64.wrap (x39 + 1), h, rfl⟩
      ·refine AW.cond_no rfl c40 (AW.exit (AW.seq (AW.region ?_)))
       refine s_assign (d := (sc (.int .u64 9223372036854775808))) rfl (AWops.nil (AW.seq (AW.seq (AW.region ?_))))
       refine s_move (d := (sb false)) rfl (s_not rfl (AWops.nil ?_))
       refine AW.cond_yes rfl rfl (AW.region ?_)
       refine s_move (d := (sc (.int .u64 9223372036854775808))) rfl (s_binI (v := (.int .u64 9223372036854775807)) rfl rfl (by rfl) (s_assign (d := (sc (.int .u64 9223372036854775807))) rfl (AWops.nil (AW.seq (AW.block (AW.seq (AW.region (s_move (d := (sb (decide ((a0.size : Int) > 19)))) rfl (s_move (d := (sb (decide ((a0.size : Int) > 19)))) rfl ?_)))))))))
       rcases itH h with ⟨c45, h⟩ | ⟨c45, h⟩
       ·iterate 3 refine AWops.guard_no rfl (nl rfl) rfl c45 ?_
        refine s_pick_yes (d := (sb true)) rfl c45 rfl (s_assign (d := (sb true)) rfl (AWops.nil ?_))
        refine AW.cond_yes rfl rfl (AW.seq (AW.region ?_))
        refine s_assign (d := (si 0)) rfl (s_assign (d := (si 4)) rfl (AWops.nil (AW.ret ?_)))
        obtain rfl := Option.some.inj h
        exact ⟨_, rfl, (wg 0 [] [] rfl (le_upd (le_top _) (DLe.tup (ac (TLe.one .sc) (ac (TLe.one .sc) an)))) an)⟩
       ·refine AWops.guard_yes rfl (nl rfl) rfl c45 ?_
        refine s_move (d := (sc (.int .u64 x38))) rfl ?_
        refine AWops.guard_yes rfl (nl rfl) rfl c45 ?_
        refine s_move (d := (sc (.int .u64 9223372036854775807))) rfl ?_
        refine AWops.guard_yes rfl (nl rfl) rfl c45 ?_
        refine s_binI (v := (.bool (decide (x38 > 9223372036854775807)))) rfl rfl rfl (s_pick_no (d := (sb (decide (x38 > 9223372036854775807)))) rfl c45 rfl (s_assign (d := (sb (decide (x38 > 9223372036854775807)))) rfl (AWops.nil ?_)))
        rcases itH h with ⟨c46, h⟩ | ⟨c46, h⟩
        ·refine AW.cond_yes rfl c46 (AW.seq (AW.region ?_))
         refine s_assign (d := (si 0)) rfl (s_assign (d := (si 4)) rfl (AWops.nil (AW.ret ?_)))
         obtain rfl := Option.some.inj h
         exact ⟨_, rfl, (wg 0 [] [] rfl (le_upd (le_top _) (DLe.tup (ac (TLe.one .sc) (ac (TLe.one .sc) an)))) an)⟩
        ·refine AW.cond_no rfl c46 (AW.seq (AW.region ?_))
         refine s_move (d := (sb false)) rfl (s_assign (d := (sb false)) rfl (AWops.nil ?_))
         refine AW.cond_no rfl rfl (AW.skip (AW.seq (AW.region ?_)))
         refine s_move (d := (sc (.int .u64 x38))) rfl (s_convI F.u_129 F.u_3 rfl (s_assign (d := (si (IntKind.i64.wrap x38))) rfl (s_assign (d := (si 0)) rfl (AWops.nil (AW.ret ?_)))))
         obtain rfl := Option.some.inj h
         exact ⟨_, rfl, (wg 0 [] [] rfl (le_upd (le_top _) (DLe.tup (ac (TLe.one .sc) (ac (TLe.one .sc) an)))) an)⟩
   ·iterate 3 refine AWops.guard_no rfl (nl rfl) rfl c36 ?_
    refine AWops.guard_yes rfl (nl rfl) rfl c34 ?_
    refine s_pick_no (d := (sb false)) rfl c36 rfl (s_pick_no (d := (sb false)) rfl c34 rfl (AWops.nil ?_))
    refine AW.cond_no rfl rfl (AW.skip (AW.seq (AW.region ?_)))
    refine s_assign (d := (sc (.int .u64 0))) rfl (AWops.nil (AW.seq (AW.region ?_)))
    refine s_move (d := (st_ a0)) rfl (s_len (n := a0.size) F.u_9 rfl (.inl ⟨⟨_, _, rfl⟩, rfl⟩) (s_binI (v := (.bool (decide ((a0.size : Int) > 19)))) rfl rfl rfl (s_assign (d := (sb (decide ((a0.size : Int) > 19)))) rfl (AWops.nil (AW.seq (AW.seq (AW.region (s_move (d := (st_ a0)) rfl (t_ofStr F.u_9 F.u_115 F.u_5 rfl ?_)))))))))
    refine s_len (n := (bytesI a0).length) F.u_115 rfl (.inr ⟨(fun _ _ h => by cases h), ⟨_, rfl⟩⟩) (s_move (d := (si 0)) rfl (AWops.nil (AW.block ?_)))
    refine AW.loopw (st0 := ⟨78, (upd 78 (upd 78 (upd 78 (upd 78 (upd 78 (upd 78 topF 4 (sb false)) 6 (sc (.int .u64 0))) 7 (sb (decide ((a0.size : Int) > 19)))) 39 (D.one (C.p false (.sl (bytesI a0).length ((bytesI a0).flatMap e_u8))))) 40 (si ((bytesI a0).length : Int))) 41 (si 0)), []⟩) (fun kv st => kv ≤ k ∧ ∃ (x47 : Int) (x48 : Int), chars_Number.l6 kv x47 x48 a0 = some r ∧ st = ⟨78, (upd 78 (upd 78 (upd 78 (upd 78 (upd 78 (upd 78 topF 4 (sb false)) 6 (sc (.int .u64 x47))) 7 (sb (decide ((a0.size : Int) > 19)))) 39 (D.one (C.p false (.sl (bytesI a0).length ((bytesI a0).flatMap e_u8))))) 40 (si ((bytesI a0).length : Int))) 41 (si x48)), []⟩) (k := k) (wg 0 [] [] hx (le_upd (le_upd (le_upd (le_upd (le_upd (le_upd (le_top _) (o1 .sc)) (o1 .sc)) (o1 .sc)) (o1 .same)) (o1 .sc)) (o1 .sc)) an) ⟨Nat.le_refl _, 0, 0, h, rfl⟩ ?_
    rintro ql6 st ⟨hkl6, x47, x48, h, rfl⟩
    cases ql6 with
    | zero => exact absurd h (by simp [chars_Number.l6])
    | succ ql6 =>
     replace h := (chars_Number.l6.eq_2 _ _ _ _).symm.trans h
     refine AW.seq (AW.region ?_)
     refine s_binI (v := (.bool (decide (x48 < ((bytesI a0).length : Int))))) rfl rfl rfl (AWops.nil (AW.seq ?_))
     rcases itH h with ⟨c49, h⟩ | ⟨c49, h⟩
     ·refine AW.cond_yes rfl c49 (AW.skip (AW.seq (AW.block (AW.seq (AW.region ?_)))))
      obtain ⟨v50, ev50, h⟩ := bnd h
      obtain ⟨pv50, qv50, gv50⟩ := rd_some ev50
      refine s_indexImm (ps := [P.v (.int .u8 v50)]) F.u_115 F.sz_5 rfl rfl pv50 qv50 (flat_at e_u8_len gv50 (e_u8_eq v50)) (s_load1 (c' := (C.p true (.v (.int .u8 v50)))) F.ag_5 rfl rfl (s_assign (d := (sc (.int .u8 v50))) rfl (AWops.nil (AW.seq (AW.seq (AW.region (s_move (d := (sc (.int .u8 v50))) rfl (s_binI (v := (.bool (decide (v50 < 48)))) rfl rfl rfl (s_move (d := (sb (decide (v50 < 48)))) rfl ?_)))))))))
      rcases itH h with ⟨c51, h⟩ | ⟨c51, h⟩
      ·refine AWops.guard_no rfl (nl rfl) rfl c51 ?_
       refine AWops.guard_no rfl (nl rfl) rfl c51 ?_
       refine s_pick_yes (d := (sb true)) rfl c51 rfl (AWops.nil ?_)
       refine AW.cond_yes rfl rfl (AW.seq (AW.region ?_))
       refine s_assign (d := (si 0)) rfl (s_assign (d := (si 5)) rfl (AWops.nil (AW.ret ?_)))
       obtain rfl := Option.some.inj h
       exact ⟨_, rfl, (wg 0 [] [] rfl (le_upd (le_top _) (DLe.tup (ac (TLe.one .sc) (ac (TLe.one .sc) an)))) an)⟩
      ·refine AWops.guard_yes rfl (nl rfl) rfl c51 ?_
       refine s_move (d := (sc (.int .u8 v50))) rfl ?_
       refine AWops.guard_yes rfl (nl rfl) rfl c51 ?_
       refine s_binI (v := (.bool (decide (v50 > 57)))) rfl rfl rfl (s_pick_no (d := (sb (decide (v50 > 57)))) rfl c51 rfl (AWops.nil ?_))
       rcases itH h with ⟨c52, h⟩ | ⟨c52, h⟩
       ·refine AW.cond_yes rfl c52 (AW.seq (AW.region ?_))
        refine s_assign (d := (si 0)) rfl (s_assign (d := (si 5)) rfl (AWops.nil (AW.ret ?_)))
        obtain rfl := Option.some.inj h
        exact ⟨_, rfl, (wg 0 [] [] rfl (le_upd (le_top _) (DLe.tup (ac (TLe.one .sc) (ac (TLe.one .sc) an)))) an)⟩
       ·refine AW.cond_no rfl c52 (AW.skip (AW.seq (AW.region ?_)))
        refine s_move (d := (sb (decide ((a0.size : Int) > 19)))) rfl (s_not rfl (AWops.nil ?_))
        rcases itH h with ⟨c53, h⟩ | ⟨c53, h⟩
        ·refine AW.cond_no rfl (by rw [c53] <;> rfl) (AW.skip (AW.region ?_))
         refine s_binI (v := (.int .i64 (IntKind.i64.wrap (x48 + 1)))) rfl rfl rfl (s_move (d := (si (IntKind.i64.wrap (x48 + 1)))) rfl (AWops.nil ?_))
         exact ⟨_, ⟨78, (upd 78 (upd 78 (upd 78 (upd 78 (upd 78 (upd 78 topF 4 (sb false)) 6 (sc (.int .u64 x47))) 7 (sb (decide ((a0.size : Int) > 19)))) 39 (D.one (C.p false (.sl (bytesI a0).length ((bytesI a0).flatMap e_u8))))) 40 (si ((bytesI a0).length : Int))) 41 (si (IntKind.i64.wrap (x48 + 1)))), []⟩, by omega, (wg 0 [] [] hx (le_upd (le_upd (le_upd (le_upd (le_upd (le_upd (le_top _) (o1 .sc)) (o1 .sc)) (o1 .sc)) (o1 .same)) (o1 .sc)) (o1 .sc)) an), by omega, x47, IntKind.i64.wrap (x48 + 1), h, rfl⟩
        ·refine AW.cond_yes rfl (by rw [c53] <;> rfl) (AW.region ?_)
         refine s_move (d := (sc (.int .u64 x47))) rfl (s_binI (v := (.int .u64 (IntKind.u64.wrap (10 * x47)))) rfl rfl rfl (s_move (d := (sc (.int .u8 v50))) rfl (s_binI (v := (.int .u8 (IntKind.u8.wrap (v50 - 48)))) rfl rfl rfl (s_convI F.u_5 F.u_129 rfl (s_binI (v := (.int .u64 (IntKind.u64.wrap ((IntKind.u64.wrap (10 * x47)) + (IntKind.u64.wrap (IntKind.u8.wrap (v50 - 48))))))) rfl rfl rfl ?_)))))
         refine s_assign (d := (sc (.int .u64 (IntKind.u64.wrap ((IntKind.u64.wrap (10 * x47)) + (IntKind.u64.wrap (IntKind.u8.wrap (v50 - 48)))))))) rfl (AWops.nil (AW.region ?_))
         refine s_binI (v := (.int .i64 (IntKind.i64.wrap (x48 + 1)))) rfl rfl rfl (s_move (d := (si (IntKind.i64.wrap (x48 + 1)))) rfl (AWops.nil ?_))
         exact ⟨_, ⟨78, (upd 78 (upd 78 (upd 78 (upd 78 (upd 78 (upd 78 topF 4 (sb false)) 6 (sc (.int .u64 (IntKind.u64.wrap ((IntKind.u64.wrap (10 * x47)) + (IntKind.u64.wrap (IntKind.u8.wrap (v50 - 48)))))))) 7 (sb (decide ((a0.size : Int) > 19)))) 39 (D.one (C.p false (.sl (bytesI a0).length ((bytesI a0).flatMap e_u8))))) 40 (si ((bytesI a0).length : Int))) 41 (si (IntKind.i64.wrap (x48 + 1)))), []⟩, by omega, (wg 0 [] [] hx (le_upd (le_upd (le_upd (le_upd (le_upd (le_upd (le_top _) (o1 .sc)) (o1 .sc)) (o1 .sc)) (o1 .same)) (o1 .sc)) (o1 .sc)) an), by omega, IntKind.u64.wrap ((IntKind.u64.wrap (10 * x47)) + (IntKind.u64.wrap (IntKind.u8.wrap (v50 - 48)))), IntKind.i64.wrap (x48 + 1), h, rfl⟩
     ·refine AW.cond_no rfl c49 (AW.exit (AW.seq (AW.region ?_)))
      refine s_assign (d := (sc (.int .u64 9223372036854775808))) rfl (AWops.nil (AW.seq (AW.seq (AW.region ?_))))
      refine s_move (d := (sb false)) rfl (s_not rfl (AWops.nil ?_))
      refine AW.cond_yes rfl rfl (AW.region ?_)
      refine s_move (d := (sc (.int .u64 9223372036854775808))) rfl (s_binI (v := (.int .u64 9223372036854775807)) rfl rfl (by rfl) (s_assign (d := (sc (.int .u64 9223372036854775807))) rfl (AWops.nil (AW.seq (AW.block (AW.seq (AW.region (s_move (d := (sb (decide ((a0.size : Int) > 19)))) rfl (s_move (d := (sb (decide ((a0.size : Int) > 19)))) rfl ?_)))))))))
      rcases itH h with ⟨c54, h⟩ | ⟨c54, h⟩
      ·iterate 3 refine AWops.guard_no rfl (nl rfl) rfl c54 ?_
       refine s_pick_yes (d := (sb true)) rfl c54 rfl (s_assign (d := (sb true)) rfl (AWops.nil ?_))
       refine AW.cond_yes rfl rfl (AW.seq (AW.region ?_))
       refine s_assign (d := (si 0)) rfl (s_assign (d := (si 4)) rfl (AWops.nil (AW.ret ?_)))
       obtain rfl := Option.some.inj h
       exact ⟨_, rfl, (wg 0 [] [] rfl (le_upd (le_top _) (DLe.tup (ac (TLe.one .sc) (ac (TLe.one .sc) an)))) an)⟩
      ·refine AWops.guard_yes rfl (nl rfl) rfl c54 ?_
       refine s_move (d := (sc (.int .u64 x47))) rfl ?_
       refine AWops.guard_yes rfl (nl rfl) rfl c54 ?_
       refine s_move (d := (sc (.int .u64 9223372036854775807))) rfl ?_
       refine AWops.guard_yes rfl (nl rfl) rfl c54 ?_
       refine s_binI (v := (.bool (decide (x47 > 9223372036854775807)))) rfl rfl rfl (s_pick_no (d := (sb (decide (x47 > 9223372036854775807)))) rfl c54 rfl (s_assign (d := (sb (decide (x47 > 9223372036854775807)))) rfl (AWops.nil ?_)))
       rcases itH h with ⟨c55, h⟩ | ⟨c55, h⟩
       ·refine AW.cond_yes rfl c55 (AW.seq (AW.region ?_))
        refine s_assign (d := (si 0)) rfl (s_assign (d := (si 4)) rfl (AWops.nil (AW.ret ?_)))
        obtain rfl := Option.some.inj h
        exact ⟨_, rfl, (wg 0 [] [] rfl (le_upd (le_top _) (DLe.tup (ac (TLe.one .sc) (ac (TLe.one .sc) an)))) an)⟩
       ·refine AW.cond_no rfl c55 (AW.seq (AW.region ?_))
        refine s_move (d := (sb false)) rfl (s_assign (d := (sb false)) rfl (AWops.nil ?_))
        refine AW.cond_no rfl rfl (AW.skip (AW.seq (AW.region ?_)))
        refine s_move (d := (sc (.int .u64 x47))) rfl (s_convI F.u_129 F.u_3 rfl (s_assign (d := (si (IntKind.i64.wrap x47))) rfl (s_assign (d := (si 0)) rfl (AWops.nil (AW.ret ?_)))))
        obtain rfl := Option.some.inj h
        exact ⟨_, rfl, (wg 0 [] [] rfl (le_upd (le_top _) (DLe.tup (ac (TLe.one .sc) (ac (TLe.one .sc) an)))) an)⟩
def tree_part.f (k : Nat) (a0 : ByteArray) : Option (ByteArray × Int) := (strings_LastIndexByte.f k a0 46).bind fun r1 => if (decide (r1 < 1)) = true then (some ((⟨#[]⟩ : ByteArray), 0)) else (if (decide (0 ≤ (IntKind.i64.wrap (r1 + 1)) ∧ (IntKind.i64.wrap (r1 + 1)) ≤ (a0.size : Int) ∧ (a0.size : Int) ≤ (a0.size : Int))) = true then ((chars_Number.f k (a0.extract (IntKind.i64.wrap (r1 + 1)).toNat a0.size)).bind fun r4 => if (r4.2 != 0) = true then (some ((⟨#[]⟩ : ByteArray), 0)) else (if (decide (r4.1 < 1)) = true then (some ((⟨#[]⟩ : ByteArray), 0)) else (if (decide (0 ≤ 0 ∧ 0 ≤ r1 ∧ r1 ≤ (a0.size : Int))) = true then (some (a0.extract 0 r1.toNat, r4.1)) else none))) else none)
theorem tree_part.meets (k : Nat) (a0 : ByteArray) (r : ByteArray × Int) (h : tree_part.f k a0 = some r) : Meets Tryd.prog 32 [(st_ a0)] [] (D.tup [(st_ r.1), (si r.2)]) [] := by
 unfold tree_part.f at h
 refine Meets.of_body (n := 29) Tryd.func32 rfl rfl (nl rfl) fun x hx => ?_
 replace hx : x.k = 0 := hx
 show AW _ x _ _ ⟨29, fr0 [(st_ a0)], []⟩
 refine AW.seq (AW.region ?_)
 refine s_assign (d := (st_ (⟨#[]⟩ : ByteArray))) rfl (s_assign (d := (si 0)) rfl (AWops.nil (AW.seq (AW.region (s_move (d := (st_ a0)) rfl ?_)))))
 obtain ⟨r1, er1, h⟩ := bnd h
 refine cc [] [] (si r1) F.ca_33 rfl rfl (ac (.one .sc) (ac (.one .sc) an)) an (strings_LastIndexByte.meets _ a0 46 r1 er1) (s_assign (d := (si r1)) rfl (AWops.nil (AW.seq (AW.seq (AW.region (s_move (d := (si r1)) rfl (s_binI (v := (.bool (decide (r1 < 1)))) rfl rfl rfl (AWops.nil ?_))))))))
 rcases itH h with ⟨c2, h⟩ | ⟨c2, h⟩
 ·refine AW.cond_yes rfl c2 (AW.seq (AW.region ?_))
  refine s_assign (d := (st_ (⟨#[]⟩ : ByteArray))) rfl (s_assign (d := (si 0)) rfl (AWops.nil (AW.ret ?_)))
  obtain rfl := Option.some.inj h
  exact ⟨_, rfl, (wg 0 [] [] rfl (le_upd (le_top _) (DLe.tup (ac (TLe.one .sc) (ac (TLe.one .sc) an)))) an)⟩
 ·refine AW.cond_no rfl c2 (AW.skip (AW.seq (AW.region ?_)))
  refine s_move (d := (st_ a0)) rfl (s_move (d := (si r1)) rfl (s_binI (v := (.int .i64 (IntKind.i64.wrap (r1 + 1)))) rfl rfl rfl ?_))
  obtain ⟨c3, h⟩ := gdH h
  have dc3 := of_decide_eq_true c3
  refine s_sliceStr F.u_9 rfl (.yes rfl (by omega) rfl) .no (by omega) (by omega) ?_
  obtain ⟨r4, er4, h⟩ := bnd h
  refine cc [] [] (D.tup [(si r4.1), (si r4.2)]) F.ca_45 rfl rfl (ac (.one .sc) an) an (chars_Number.meets _ (a0.extract (IntKind.i64.wrap (r1 + 1)).toNat a0.size) r4 er4) (s_move (d := (D.tup [(si r4.1), (si r4.2)])) rfl (s_extract (d := (si r4.1)) rfl rfl (s_extract (d := (si r4.2)) rfl rfl (s_assign (d := (si r4.1)) rfl (s_assign (d := (si r4.2)) rfl (AWops.nil (AW.seq (AW.seq (AW.region ?_)))))))))
  refine s_move (d := (si r4.2)) rfl (s_binI (v := (.bool (r4.2 != 0))) rfl rfl rfl (s_move (d := (sb (r4.2 != 0))) rfl ?_))
  rcases itH h with ⟨c5, h⟩ | ⟨c5, h⟩
  ·refine AWops.guard_no rfl (nl rfl) rfl c5 ?_
   refine AWops.guard_no rfl (nl rfl) rfl c5 ?_
   refine s_pick_yes (d := (sb true)) rfl c5 rfl (AWops.nil ?_)
   refine AW.cond_yes rfl rfl (AW.seq (AW.region ?_))
   refine s_assign (d := (st_ (⟨#[]⟩ : ByteArray))) rfl (s_assign (d := (si 0)) rfl (AWops.nil (AW.ret ?_)))
   obtain rfl := Option.some.inj h
   exact ⟨_, rfl, (wg 0 [] [] rfl (le_upd (le_top _) (DLe.tup (ac (TLe.one .sc) (ac (TLe.one .sc) an)))) an)⟩
  ·refine AWops.guard_yes rfl (nl rfl) rfl c5 ?_
   refine s_move (d := (si r4.1)) rfl ?_
   refine AWops.guard_yes rfl (nl rfl) rfl c5 ?_
   refine s_binI (v := (.bool (decide (r4.1 < 1)))) rfl rfl rfl (s_pick_no (d := (sb (decide (r4.1 < 1)))) rfl c5 rfl (AWops.nil ?_))
   rcases itH h with ⟨c6, h⟩ | ⟨c6, h⟩
   ·refine AW.cond_yes rfl c6 (AW.seq (AW.region ?_))
    refine s_assign (d := (st_ (⟨#[]⟩ : ByteArray))) rfl (s_assign (d := (si 0)) rfl (AWops.nil (AW.ret ?_)))
    obtain rfl := Option.some.inj h
    exact ⟨_, rfl, (wg 0 [] [] rfl (le_upd (le_top _) (DLe.tup (ac (TLe.one .sc) (ac (TLe.one .sc) an)))) an)⟩
   ·refine AW.cond_no rfl c6 (AW.skip (AW.seq (AW.region ?_)))
    refine s_move (d := (st_ a0)) rfl (s_move (d := (si r1)) rfl ?_)
    obtain ⟨c7, h⟩ := gdH h
    have dc7 := of_decide_eq_true c7
    refine s_sliceStr F.u_9 rfl .no (.yes rfl (by omega) rfl) (by omega) (by omega) (s_move (d := (si r4.1)) rfl (s_assign (d := (st_ (a0.extract 0 r1.toNat))) rfl (s_assign (d := (si r4.1)) rfl (AWops.nil (AW.ret ?_)))))
    obtain rfl := Option.some.inj h
    exact ⟨_, rfl, (wg 0 [] [] rfl (le_upd (le_top _) (DLe.tup (ac (TLe.one .sc) (ac (TLe.one .sc) an)))) an)⟩
def tree_Last.f (k : Nat) (a0 : ByteArray) : Option (ByteArray × Int) := (strings_LastIndexByte.f k a0 47).bind fun r1 => if (decide (0 ≤ (IntKind.i64.wrap (r1 + 1)) ∧ (IntKind.i64.wrap (r1 + 1)) ≤ (a0.size : Int) ∧ (a0.size : Int) ≤ (a0.size : Int))) = true then ((tree_part.f k (a0.extract (IntKind.i64.wrap (r1 + 1)).toNat a0.size)).bind fun r3 => some (r3.1, r3.2)) else none
theorem tree_Last.meets (k : Nat) (a0 : ByteArray) (r : ByteArray × Int) (h : tree_Last.f k a0 = some r) : Meets Tryd.prog 18 [(st_ a0)] [] (D.tup [(st_ r.1), (si r.2)]) [] := by
 unfold tree_Last.f at h
 refine Meets.of_body (n := 12) Tryd.func18 rfl rfl (nl rfl) fun x hx => ?_
 replace hx : x.k = 0 := hx
 show AW _ x _ _ ⟨12, fr0 [(st_ a0)], []⟩
 refine AW.seq (AW.region ?_)
 refine s_assign (d := (st_ (⟨#[]⟩ : ByteArray))) rfl (s_assign (d := (si 0)) rfl (AWops.nil (AW.seq (AW.region (s_move (d := (st_ a0)) rfl (s_move (d := (st_ a0)) rfl ?_))))))
 obtain ⟨r1, er1, h⟩ := bnd h
 refine cc [] [] (si r1) F.ca_33 rfl rfl (ac (.one .sc) (ac (.one .sc) an)) an (strings_LastIndexByte.meets _ a0 47 r1 er1) (s_binI (v := (.int .i64 (IntKind.i64.wrap (r1 + 1)))) rfl rfl rfl ?_)
 obtain ⟨c2, h⟩ := gdH h
 have dc2 := of_decide_eq_true c2
 refine s_sliceStr F.u_9 rfl (.yes rfl (by omega) rfl) .no (by omega) (by omega) ?_
 obtain ⟨r3, er3, h⟩ := bnd h
 refine cc [] [] (D.tup [(st_ r3.1), (si r3.2)]) F.ca_32 rfl rfl (ac (.one .sc) an) an (tree_part.meets _ (a0.extract (IntKind.i64.wrap (r1 + 1)).toNat a0.size) r3 er3) (s_extract (d := (st_ r3.1)) rfl rfl (s_extract (d := (si r3.2)) rfl rfl (s_assign (d := (st_ r3.1)) rfl (s_assign (d := (si r3.2)) rfl (AWops.nil (AW.ret ?_))))))
 obtain rfl := Option.some.inj h
 exact ⟨_, rfl, (wg 0 [] [] rfl (le_upd (le_top _) (DLe.tup (ac (TLe.one .sc) (ac (TLe.one .sc) an)))) an)⟩
def index_Index_For.f (k : Nat) (p0 : index_Index) (a1 : api_Event) : Option ((List api_Hook) × index_Index) := (index_Index_none.f k (⟨p0.m, ([] : List (index_source × List api_Hook))⟩ : index_Index)).bind fun r1 => if r1.1 = true then (some (([] : List api_Hook), (⟨r1.2.m, ([] : List (index_source × List api_Hook))⟩ : index_Index))) else (if a1.File = true then (none) else ((tree_Last.f k a1.Path).bind fun r4 => if (r4.2 == 0) = true then (some (([] : List api_Hook), (⟨r1.2.m, ([] : List (index_source × List api_Hook))⟩ : index_Index))) else (none)))
theorem index_Index_For.meets (k : Nat) (p0 : index_Index) (a1 : api_Event) (r : (List api_Hook) × index_Index) (h : index_Index_For.f k p0 a1 = some r) : Meets Tryd.prog 7 [(rf 0 0), (D.agg (c_api_Event a1))] [(some (AObj.cells false [(ct p0.m.ID), (ct p0.m.Name), (C.p false (.sl p0.m.Roles.length (p0.m.Roles.flatMap e_str))), (C.p false (.sl p0.m.Files.length (p0.m.Files.flatMap e_api_FileItem))), (ct p0.m.Plan.ID), (ct p0.m.Plan.Name), (ci p0.m.Plan.Kind), (C.p false (.sl p0.m.Plan.Entry.length (p0.m.Plan.Entry.flatMap e_api_Sentry))), (C.p false (.sl p0.m.Plan.Exit.length (p0.m.Plan.Exit.flatMap e_api_Sentry))), (ct p0.m.Plan.Manual), (ct p0.m.Plan.Required), (ct p0.m.Plan.Repeat), (cb p0.m.Plan.Auto), (cb p0.m.Plan.Free), (ci p0.m.Plan.After), (C.p false (.sl p0.m.Plan.Roles.length (p0.m.Plan.Roles.flatMap e_str))), (C.p false (.sl p0.m.Plan.Kids.length (p0.m.Plan.Kids.flatMap e_api_Item))), (C.p false (.sl p0.m.Plan.Table.length (p0.m.Plan.Table.flatMap e_api_Item))), (C.p true (.v (.map none)))]))] (D.one (C.own 1 0 r.1.length 4)) [(some (AObj.cells false [(ct r.2.m.ID), (ct r.2.m.Name), (C.p false (.sl r.2.m.Roles.length (r.2.m.Roles.flatMap e_str))), (C.p false (.sl r.2.m.Files.length (r.2.m.Files.flatMap e_api_FileItem))), (ct r.2.m.Plan.ID), (ct r.2.m.Plan.Name), (ci r.2.m.Plan.Kind), (C.p false (.sl r.2.m.Plan.Entry.length (r.2.m.Plan.Entry.flatMap e_api_Sentry))), (C.p false (.sl r.2.m.Plan.Exit.length (r.2.m.Plan.Exit.flatMap e_api_Sentry))), (ct r.2.m.Plan.Manual), (ct r.2.m.Plan.Required), (ct r.2.m.Plan.Repeat), (cb r.2.m.Plan.Auto), (cb r.2.m.Plan.Free), (ci r.2.m.Plan.After), (C.p false (.sl r.2.m.Plan.Roles.length (r.2.m.Plan.Roles.flatMap e_str))), (C.p false (.sl r.2.m.Plan.Kids.length (r.2.m.Plan.Kids.flatMap e_api_Item))), (C.p false (.sl r.2.m.Plan.Table.length (r.2.m.Plan.Table.flatMap e_api_Item))), (C.p true (.v (.map none)))])), (ow_ e_api_Hook r.1)] := by
 unfold index_Index_For.f at h
 refine Meets.of_body (n := 49) Tryd.func7 rfl rfl (nl rfl) fun x hx => ?_
 replace hx : x.k = 1 := hx
 show AW _ x _ _ ⟨49, fr0 [(rf 0 0), (D.agg (c_api_Event a1))], [(some (AObj.cells false [(ct p0.m.ID), (ct p0.m.Name), (C.p false (.sl p0.m.Roles.length (p0.m.Roles.flatMap e_str))), (C.p false (.sl p0.m.Files.length (p0.m.Files.flatMap e_api_FileItem))), (ct p0.m.Plan.ID), (ct p0.m.Plan.Name), (ci p0.m.Plan.Kind), (C.p false (.sl p0.m.Plan.Entry.length (p0.m.Plan.Entry.flatMap e_api_Sentry))), (C.p false (.sl p0.m.Plan.Exit.length (p0.m.Plan.Exit.flatMap e_api_Sentry))), (ct p0.m.Plan.Manual), (ct p0.m.Plan.Required), (ct p0.m.Plan.Repeat), (cb p0.m.Plan.Auto), (cb p0.m.Plan.Free), (ci p0.m.Plan.After), (C.p false (.sl p0.m.Plan.Roles.length (p0.m.Plan.Roles.flatMap e_str))), (C.p false (.sl p0.m.Plan.Kids.length (p0.m.Plan.Kids.flatMap e_api_Item))), (C.p false (.sl p0.m.Plan.Table.length (p0.m.Plan.Table.flatMap e_api_Item))), (C.p true (.v (.map none)))]))]⟩
 refine AW.seq (AW.region ?_)
 refine s_box (cs := (c_api_Event a1)) rfl (List.cons_ne_nil _ _) rfl (s_assign (d := (sc (.slice none 0 0))) rfl (AWops.nil (AW.seq (AW.seq (AW.region (s_move (d := (rf 0 0)) rfl ?_))))))
 obtain ⟨r1, er1, h⟩ := bnd h
 refine cc [0] [(some (AObj.cells false [(ct r1.2.m.ID), (ct r1.2.m.Name), (C.p false (.sl r1.2.m.Roles.length (r1.2.m.Roles.flatMap e_str))), (C.p false (.sl r1.2.m.Files.length (r1.2.m.Files.flatMap e_api_FileItem))), (ct r1.2.m.Plan.ID), (ct r1.2.m.Plan.Name), (ci r1.2.m.Plan.Kind), (C.p false (.sl r1.2.m.Plan.Entry.length (r1.2.m.Plan.Entry.flatMap e_api_Sentry))), (C.p false (.sl r1.2.m.Plan.Exit.length (r1.2.m.Plan.Exit.flatMap e_api_Sentry))), (ct r1.2.m.Plan.Manual), (ct r1.2.m.Plan.Required), (ct r1.2.m.Plan.Repeat), (cb r1.2.m.Plan.Auto), (cb r1.2.m.Plan.Free), (ci r1.2.m.Plan.After), (C.p false (.sl r1.2.m.Plan.Roles.length (r1.2.m.Plan.Roles.flatMap e_str))), (C.p false (.sl r1.2.m.Plan.Kids.length (r1.2.m.Plan.Kids.flatMap e_api_Item))), (C.p false (.sl r1.2.m.Plan.Table.length (r1.2.m.Plan.Table.flatMap e_api_Item))), (C.p true (.v (.map none)))])), (some (AObj.cells true (c_api_Event a1)))] (sb r1.1) F.ca_11 rfl rfl (ac (.one (.ref rfl)) an) (ac (.cells (ac .sc (ac .sc (ac .imm (ac .imm (ac .sc (ac .sc (ac .sc (ac .imm (ac .imm (ac .sc (ac .sc (ac .sc (ac .sc (ac .sc (ac .sc (ac .imm (ac .imm (ac .imm (ac .sc an)))))))))))))))))))) an) (index_Index_none.meets _ (⟨p0.m, ([] : List (index_source × List api_Hook))⟩ : index_Index) r1 er1) (AWops.nil ?_)
 rcases itH h with ⟨c2, h⟩ | ⟨c2, h⟩
 ·refine AW.cond_yes rfl c2 (AW.seq (AW.region ?_))
  refine s_assign (d := (sc (.slice none 0 0))) rfl (AWops.nil (AW.ret ?_))
  obtain rfl := Option.some.inj h
  exact ⟨_, rfl, (Weak.trans (Weak.nil (sz := 4) (i := 0) rfl) (wg 1 [0, 2] [] rfl (le_upd (le_top _) (o1 (CLe.ownN rfl (by simp)))) (ac (.cells id (ac .sc (ac .sc (ac .same (ac .same (ac .sc (ac .sc (ac .sc (ac .same (ac .same (ac .sc (ac .sc (ac .sc (ac .sc (ac .sc (ac .sc (ac .same (ac .same (ac .same (ac .sc an)))))))))))))))))))) (ac (.cells (fun _ => rfl) an) an))))⟩
 ·refine AW.cond_no rfl c2 (AW.skip (AW.seq (AW.seq (AW.region ?_))))
  refine s_fieldRef F.fo_27_1 (by decide) rfl (s_load1 (c' := (cb a1.File)) F.ag_4 rfl rfl (AWops.nil ?_))
  rcases itH h with ⟨c3, h⟩ | ⟨c3, h⟩
  ·refine AW.cond_yes rfl c3 (AW.seq (AW.region ?_))
   refine s_fieldRef F.fo_27_0 (by decide) rfl (s_load1 (c' := (ct a1.Path)) F.ag_9 rfl rfl ?_)
   cases h
  ·refine AW.cond_no rfl c3 (AW.skip (AW.seq (AW.region ?_)))
   refine s_fieldRef F.fo_27_0 (by decide) rfl (s_load1 (c' := (ct a1.Path)) F.ag_9 rfl rfl ?_)
   obtain ⟨r4, er4, h⟩ := bnd h
   refine cc [] [(some (AObj.cells false [(ct r1.2.m.ID), (ct r1.2.m.Name), (C.p false (.sl r1.2.m.Roles.length (r1.2.m.Roles.flatMap e_str))), (C.p false (.sl r1.2.m.Files.length (r1.2.m.Files.flatMap e_api_FileItem))), (ct r1.2.m.Plan.ID), (ct r1.2.m.Plan.Name), (ci r1.2.m.Plan.Kind), (C.p false (.sl r1.2.m.Plan.Entry.length (r1.2.m.Plan.Entry.flatMap e_api_Sentry))), (C.p false (.sl r1.2.m.Plan.Exit.length (r1.2.m.Plan.Exit.flatMap e_api_Sentry))), (ct r1.2.m.Plan.Manual), (ct r1.2.m.Plan.Required), (ct r1.2.m.Plan.Repeat), (cb r1.2.m.Plan.Auto), (cb r1.2.m.Plan.Free), (ci r1.2.m.Plan.After), (C.p false (.sl r1.2.m.Plan.Roles.length (r1.2.m.Plan.Roles.flatMap e_str))), (C.p false (.sl r1.2.m.Plan.Kids.length (r1.2.m.Plan.Kids.flatMap e_api_Item))), (C.p false (.sl r1.2.m.Plan.Table.length (r1.2.m.Plan.Table.flatMap e_api_Item))), (C.p true (.v (.map none)))])), (some (AObj.cells true (c_api_Event a1)))] (D.tup [(st_ r4.1), (si r4.2)]) F.ca_18 rfl rfl (ac (.one .sc) an) an (tree_Last.meets _ a1.Path r4 er4) (s_move (d := (D.tup [(st_ r4.1), (si r4.2)])) rfl (s_extract (d := (st_ r4.1)) rfl rfl (s_extract (d := (si r4.2)) rfl rfl (s_assign (d := (st_ r4.1)) rfl (s_assign (d := (si r4.2)) rfl (AWops.nil (AW.seq (AW.seq (AW.region ?_)))))))))
   refine s_move (d := (si r4.2)) rfl (s_binI (v := (.bool (r4.2 == 0))) rfl rfl rfl (AWops.nil ?_))
   rcases itH h with ⟨c5, h⟩ | ⟨c5, h⟩
   ·refine AW.cond_yes rfl c5 (AW.seq (AW.region ?_))
    refine s_assign (d := (sc (.slice none 0 0))) rfl (AWops.nil (AW.ret ?_))
    obtain rfl := Option.some.inj h
    exact ⟨_, rfl, (Weak.trans (Weak.nil (sz := 4) (i := 0) rfl) (wg 1 [0, 2] [] rfl (le_upd (le_top _) (o1 (CLe.ownN rfl (by simp)))) (ac (.cells id (ac .sc (ac .sc (ac .same (ac .same (ac .sc (ac .sc (ac .sc (ac .same (ac .same (ac .sc (ac .sc (ac .sc (ac .sc (ac .sc (ac .sc (ac .same (ac .same (ac .same (ac .sc an)))))))))))))))))))) (ac (.cells (fun _ => rfl) an) an))))⟩
   ·refine AW.cond_no rfl c5 (AW.skip (AW.seq ?_))
    refine AW.weak (st' := ⟨49, (upd 49 (upd 49 (upd 49 (upd 49 topF 0 (rf 0 0)) 3 (rf 1 0)) 4 (sc (.slice none 0 0))) 7 (st_ r4.1)), [(some (AObj.cells false [(ct r1.2.m.ID), (ct r1.2.m.Name), (C.p false (.sl r1.2.m.Roles.length (r1.2.m.Roles.flatMap e_str))), (C.p false (.sl r1.2.m.Files.length (r1.2.m.Files.flatMap e_api_FileItem))), (ct r1.2.m.Plan.ID), (ct r1.2.m.Plan.Name), (ci r1.2.m.Plan.Kind), (C.p false (.sl r1.2.m.Plan.Entry.length (r1.2.m.Plan.Entry.flatMap e_api_Sentry))), (C.p false (.sl r1.2.m.Plan.Exit.length (r1.2.m.Plan.Exit.flatMap e_api_Sentry))), (ct r1.2.m.Plan.Manual), (ct r1.2.m.Plan.Required), (ct r1.2.m.Plan.Repeat), (cb r1.2.m.Plan.Auto), (cb r1.2.m.Plan.Free), (ci r1.2.m.Plan.After), (C.p false (.sl r1.2.m.Plan.Roles.length (r1.2.m.Plan.Roles.flatMap e_str))), (C.p false (.sl r1.2.m.Plan.Kids.length (r1.2.m.Plan.Kids.flatMap e_api_Item))), (C.p false (.sl r1.2.m.Plan.Table.length (r1.2.m.Plan.Table.flatMap e_api_Item))), (C.p true (.v (.map none)))])), (some (AObj.cells true (c_api_Event a1)))]⟩) (wg 1 [0, 1] [] hx (le_upd (le_upd (le_upd (le_upd (le_top _) (o1 (.ref rfl))) (o1 (.ref rfl))) (o1 .sc)) (o1 .sc)) (ac (.cells id (ac .sc (ac .sc (ac .same (ac .same (ac .sc (ac .sc (ac .sc (ac .same (ac .same (ac .sc (ac .sc (ac .sc (ac .sc (ac .sc (ac .sc (ac .same (ac .same (ac .same (ac .sc an)))))))))))))))))))) (ac (.cells (fun _ => rfl) (ac .sc (ac .sc (ac .sc an)))) an))) ?_
    cases h
def index_Index_Latch.f (k : Nat) (p0 : index_Index) (a1 : api_Case) (a2 : api_Event) : Option (api_Case × (List ByteArray) × index_Index) := (tree_Copy.f k a1).bind fun r1 => (index_Index_none.f k (⟨p0.m, ([] : List (index_source × List api_Hook))⟩ : index_Index)).bind fun r2 => if r2.1 = true then (some (r1, ([] : List ByteArray), (⟨r2.2.m, ([] : List (index_source × List api_Hook))⟩ : index_Index))) else ((index_Index_For.f k (⟨r2.2.m, ([] : List (index_source × List api_Hook))⟩ : index_Index) a2).bind fun r4 => if (decide (0 < (r1.Insts.length : Int))) = true then ((rd r1.Insts 0).bind fun v6 => none) else (some (r1, ([] : List ByteArray), (⟨r4.2.m, ([] : List (index_source × List api_Hook))⟩ : index_Index))))
theorem index_Index_Latch.meets (k : Nat) (p0 : index_Index) (a1 : api_Case) (a2 : api_Event) (r : api_Case × (List ByteArray) × index_Index) (h : index_Index_Latch.f k p0 a1 a2 = some r) : Meets Tryd.prog 6 [(rf 0 0), (D.agg (c_api_Case a1)), (D.agg (c_api_Event a2))] [(some (AObj.cells false [(ct p0.m.ID), (ct p0.m.Name), (C.p false (.sl p0.m.Roles.length (p0.m.Roles.flatMap e_str))), (C.p false (.sl p0.m.Files.length (p0.m.Files.flatMap e_api_FileItem))), (ct p0.m.Plan.ID), (ct p0.m.Plan.Name), (ci p0.m.Plan.Kind), (C.p false (.sl p0.m.Plan.Entry.length (p0.m.Plan.Entry.flatMap e_api_Sentry))), (C.p false (.sl p0.m.Plan.Exit.length (p0.m.Plan.Exit.flatMap e_api_Sentry))), (ct p0.m.Plan.Manual), (ct p0.m.Plan.Required), (ct p0.m.Plan.Repeat), (cb p0.m.Plan.Auto), (cb p0.m.Plan.Free), (ci p0.m.Plan.After), (C.p false (.sl p0.m.Plan.Roles.length (p0.m.Plan.Roles.flatMap e_str))), (C.p false (.sl p0.m.Plan.Kids.length (p0.m.Plan.Kids.flatMap e_api_Item))), (C.p false (.sl p0.m.Plan.Table.length (p0.m.Plan.Table.flatMap e_api_Item))), (C.p true (.v (.map none)))]))] (D.tup [(D.agg (c_api_Case r.1)), (D.one (C.p false (.sl r.2.1.length (r.2.1.flatMap e_str))))]) [(some (AObj.cells false [(ct r.2.2.m.ID), (ct r.2.2.m.Name), (C.p false (.sl r.2.2.m.Roles.length (r.2.2.m.Roles.flatMap e_str))), (C.p false (.sl r.2.2.m.Files.length (r.2.2.m.Files.flatMap e_api_FileItem))), (ct r.2.2.m.Plan.ID), (ct r.2.2.m.Plan.Name), (ci r.2.2.m.Plan.Kind), (C.p false (.sl r.2.2.m.Plan.Entry.length (r.2.2.m.Plan.Entry.flatMap e_api_Sentry))), (C.p false (.sl r.2.2.m.Plan.Exit.length (r.2.2.m.Plan.Exit.flatMap e_api_Sentry))), (ct r.2.2.m.Plan.Manual), (ct r.2.2.m.Plan.Required), (ct r.2.2.m.Plan.Repeat), (cb r.2.2.m.Plan.Auto), (cb r.2.2.m.Plan.Free), (ci r.2.2.m.Plan.After), (C.p false (.sl r.2.2.m.Plan.Roles.length (r.2.2.m.Plan.Roles.flatMap e_str))), (C.p false (.sl r.2.2.m.Plan.Kids.length (r.2.2.m.Plan.Kids.flatMap e_api_Item))), (C.p false (.sl r.2.2.m.Plan.Table.length (r.2.2.m.Plan.Table.flatMap e_api_Item))), (C.p true (.v (.map none)))]))] := by
 unfold index_Index_Latch.f at h
 refine Meets.of_body (n := 104) Tryd.func6 rfl rfl (nl rfl) fun x hx => ?_
 replace hx : x.k = 1 := hx
 show AW _ x _ _ ⟨104, fr0 [(rf 0 0), (D.agg (c_api_Case a1)), (D.agg (c_api_Event a2))], [(some (AObj.cells false [(ct p0.m.ID), (ct p0.m.Name), (C.p false (.sl p0.m.Roles.length (p0.m.Roles.flatMap e_str))), (C.p false (.sl p0.m.Files.length (p0.m.Files.flatMap e_api_FileItem))), (ct p0.m.Plan.ID), (ct p0.m.Plan.Name), (ci p0.m.Plan.Kind), (C.p false (.sl p0.m.Plan.Entry.length (p0.m.Plan.Entry.flatMap e_api_Sentry))), (C.p false (.sl p0.m.Plan.Exit.length (p0.m.Plan.Exit.flatMap e_api_Sentry))), (ct p0.m.Plan.Manual), (ct p0.m.Plan.Required), (ct p0.m.Plan.Repeat), (cb p0.m.Plan.Auto), (cb p0.m.Plan.Free), (ci p0.m.Plan.After), (C.p false (.sl p0.m.Plan.Roles.length (p0.m.Plan.Roles.flatMap e_str))), (C.p false (.sl p0.m.Plan.Kids.length (p0.m.Plan.Kids.flatMap e_api_Item))), (C.p false (.sl p0.m.Plan.Table.length (p0.m.Plan.Table.flatMap e_api_Item))), (C.p true (.v (.map none)))]))]⟩
 refine AW.seq (AW.region ?_)
 refine s_box (cs := (c_api_Case a1)) rfl (List.cons_ne_nil _ _) rfl (s_box (cs := (c_api_Event a2)) rfl (List.cons_ne_nil _ _) rfl (s_alloc (cs := [(ci 0), (ct (⟨#[]⟩ : ByteArray)), (C.p true (.v (.slice none 0 0))), (C.p true (.v (.slice none 0 0))), (ci 0)]) F.z_25 rfl rfl (s_assign (d := (sc (.slice none 0 0))) rfl (AWops.nil (AW.seq (AW.region (s_loadN (ds := (c_api_Case a1)) F.ag_25 F.sz_25 rfl rfl rfl ?_)))))))
 obtain ⟨r1, er1, h⟩ := bnd h
 refine cc [] [(some (AObj.cells false [(ct p0.m.ID), (ct p0.m.Name), (C.p false (.sl p0.m.Roles.length (p0.m.Roles.flatMap e_str))), (C.p false (.sl p0.m.Files.length (p0.m.Files.flatMap e_api_FileItem))), (ct p0.m.Plan.ID), (ct p0.m.Plan.Name), (ci p0.m.Plan.Kind), (C.p false (.sl p0.m.Plan.Entry.length (p0.m.Plan.Entry.flatMap e_api_Sentry))), (C.p false (.sl p0.m.Plan.Exit.length (p0.m.Plan.Exit.flatMap e_api_Sentry))), (ct p0.m.Plan.Manual), (ct p0.m.Plan.Required), (ct p0.m.Plan.Repeat), (cb p0.m.Plan.Auto), (cb p0.m.Plan.Free), (ci p0.m.Plan.After), (C.p false (.sl p0.m.Plan.Roles.length (p0.m.Plan.Roles.flatMap e_str))), (C.p false (.sl p0.m.Plan.Kids.length (p0.m.Plan.Kids.flatMap e_api_Item))), (C.p false (.sl p0.m.Plan.Table.length (p0.m.Plan.Table.flatMap e_api_Item))), (C.p true (.v (.map none)))])), (some (AObj.cells true (c_api_Case a1))), (some (AObj.cells true (c_api_Event a2))), (some (AObj.cells true [(ci 0), (ct (⟨#[]⟩ : ByteArray)), (C.p true (.v (.slice none 0 0))), (C.p true (.v (.slice none 0 0))), (ci 0)]))] (D.agg (c_api_Case r1)) F.ca_10 rfl rfl (ac (LendT.aggL (ac .sc (ac .sc (ac .imm (ac .imm (ac .sc an)))))) an) an (tree_Copy.meets _ a1 r1 er1) (s_store (cs' := (c_api_Case r1)) rfl rfl rfl (List.cons_ne_nil _ _) rfl F.sz_25 (nl rfl) rfl (AWops.nil (AW.seq (AW.seq (AW.region (s_move (d := (rf 0 0)) rfl ?_))))))
 obtain ⟨r2, er2, h⟩ := bnd h
 refine cc [0] [(some (AObj.cells false [(ct r2.2.m.ID), (ct r2.2.m.Name), (C.p false (.sl r2.2.m.Roles.length (r2.2.m.Roles.flatMap e_str))), (C.p false (.sl r2.2.m.Files.length (r2.2.m.Files.flatMap e_api_FileItem))), (ct r2.2.m.Plan.ID), (ct r2.2.m.Plan.Name), (ci r2.2.m.Plan.Kind), (C.p false (.sl r2.2.m.Plan.Entry.length (r2.2.m.Plan.Entry.flatMap e_api_Sentry))), (C.p false (.sl r2.2.m.Plan.Exit.length (r2.2.m.Plan.Exit.flatMap e_api_Sentry))), (ct r2.2.m.Plan.Manual), (ct r2.2.m.Plan.Required), (ct r2.2.m.Plan.Repeat), (cb r2.2.m.Plan.Auto), (cb r2.2.m.Plan.Free), (ci r2.2.m.Plan.After), (C.p false (.sl r2.2.m.Plan.Roles.length (r2.2.m.Plan.Roles.flatMap e_str))), (C.p false (.sl r2.2.m.Plan.Kids.length (r2.2.m.Plan.Kids.flatMap e_api_Item))), (C.p false (.sl r2.2.m.Plan.Table.length (r2.2.m.Plan.Table.flatMap e_api_Item))), (C.p true (.v (.map none)))])), (some (AObj.cells true (c_api_Case r1))), (some (AObj.cells true (c_api_Event a2))), (some (AObj.cells true [(ci 0), (ct (⟨#[]⟩ : ByteArray)), (C.p true (.v (.slice none 0 0))), (C.p true (.v (.slice none 0 0))), (ci 0)]))] (sb r2.1) F.ca_11 rfl rfl (ac (.one (.ref rfl)) an) (ac (.cells (ac .sc (ac .sc (ac .imm (ac .imm (ac .sc (ac .sc (ac .sc (ac .imm (ac .imm (ac .sc (ac .sc (ac .sc (ac .sc (ac .sc (ac .sc (ac .imm (ac .imm (ac .imm (ac .sc an)))))))))))))))))))) an) (index_Index_none.meets _ (⟨p0.m, ([] : List (index_source × List api_Hook))⟩ : index_Index) r2 er2) (AWops.nil ?_)
 rcases itH h with ⟨c3, h⟩ | ⟨c3, h⟩
 ·refine AW.cond_yes rfl c3 (AW.seq (AW.region ?_))
  refine s_loadN (ds := (c_api_Case r1)) F.ag_25 F.sz_25 rfl rfl rfl (s_store (cs' := (c_api_Case r1)) rfl rfl rfl (List.cons_ne_nil _ _) rfl F.sz_25 (nl rfl) rfl (s_assign (d := (sc (.slice none 0 0))) rfl (AWops.nil (AW.ret ?_))))
  obtain rfl := Option.some.inj h
  exact ⟨_, rfl, (wg 1 [0] [] rfl (le_upd (le_top _) (DLe.tup (ac (TLe.agg (ac .sc (ac .sc (ac .same (ac .same (ac .sc an)))))) (ac (TLe.one .nil) an)))) (ac (.cells id (ac .sc (ac .sc (ac .same (ac .same (ac .sc (ac .sc (ac .sc (ac .same (ac .same (ac .sc (ac .sc (ac .sc (ac .sc (ac .sc (ac .sc (ac .same (ac .same (ac .same (ac .sc an)))))))))))))))))))) an))⟩
 ·refine AW.cond_no rfl c3 (AW.skip (AW.seq (AW.region ?_)))
  refine s_move (d := (rf 0 0)) rfl (s_loadN (ds := (c_api_Event a2)) F.ag_27 F.sz_27 rfl rfl rfl ?_)
  obtain ⟨r4, er4, h⟩ := bnd h
  refine cc [0] [(some (AObj.cells false [(ct r4.2.m.ID), (ct r4.2.m.Name), (C.p false (.sl r4.2.m.Roles.length (r4.2.m.Roles.flatMap e_str))), (C.p false (.sl r4.2.m.Files.length (r4.2.m.Files.flatMap e_api_FileItem))), (ct r4.2.m.Plan.ID), (ct r4.2.m.Plan.Name), (ci r4.2.m.Plan.Kind), (C.p false (.sl r4.2.m.Plan.Entry.length (r4.2.m.Plan.Entry.flatMap e_api_Sentry))), (C.p false (.sl r4.2.m.Plan.Exit.length (r4.2.m.Plan.Exit.flatMap e_api_Sentry))), (ct r4.2.m.Plan.Manual), (ct r4.2.m.Plan.Required), (ct r4.2.m.Plan.Repeat), (cb r4.2.m.Plan.Auto), (cb r4.2.m.Plan.Free), (ci r4.2.m.Plan.After), (C.p false (.sl r4.2.m.Plan.Roles.length (r4.2.m.Plan.Roles.flatMap e_str))), (C.p false (.sl r4.2.m.Plan.Kids.length (r4.2.m.Plan.Kids.flatMap e_api_Item))), (C.p false (.sl r4.2.m.Plan.Table.length (r4.2.m.Plan.Table.flatMap e_api_Item))), (C.p true (.v (.map none)))])), (some (AObj.cells true (c_api_Case r1))), (some (AObj.cells true (c_api_Event a2))), (some (AObj.cells true [(ci 0), (ct (⟨#[]⟩ : ByteArray)), (C.p true (.v (.slice none 0 0))), (C.p true (.v (.slice none 0 0))), (ci 0)])), (ow_ e_api_Hook r4.1)] (D.one (C.own 4 0 r4.1.length 4)) F.ca_7 rfl rfl (ac (.one (.ref rfl)) (ac (LendT.aggL (ac .sc (ac .sc (ac .sc an)))) an)) (ac (.cells (ac .sc (ac .sc (ac .imm (ac .imm (ac .sc (ac .sc (ac .sc (ac .imm (ac .imm (ac .sc (ac .sc (ac .sc (ac .sc (ac .sc (ac .sc (ac .imm (ac .imm (ac .imm (ac .sc an)))))))))))))))))))) an) (index_Index_For.meets _ (⟨r2.2.m, ([] : List (index_source × List api_Hook))⟩ : index_Index) a2 r4 er4) (s_assign (d := (D.one (C.own 4 0 r4.1.length 4))) rfl (AWops.nil (AW.seq (AW.region (s_assign (d := (sc (.slice none 0 0))) rfl (AWops.nil (AW.seq (AW.seq (AW.region (s_fieldRef F.fo_25_2 (by decide) rfl (s_load1 (c' := (C.p false (.sl r1.Insts.length (r1.Insts.flatMap e_api_Inst)))) F.ag_22 rfl rfl (s_len (n := r1.Insts.length) F.u_22 rfl (.inr ⟨(fun _ _ h => by cases h), ⟨_, rfl⟩⟩) ?_))))))))))))
  refine s_move (d := (si 0)) rfl (AWops.nil (AW.block ?_))
  refine AW.unroll 9 ?_
  refine U.step (AW.seq (AW.region ?_))
  refine s_binI (v := (.bool (decide (0 < (r1.Insts.length : Int))))) rfl rfl rfl (AWops.nil (AW.seq ?_))
  rcases itH h with ⟨c5, h⟩ | ⟨c5, h⟩
  ·refine AW.cond_yes rfl c5 (AW.skip (AW.seq (AW.block (AW.seq (AW.region ?_)))))
   refine s_move (d := (si 0)) rfl ?_
   obtain ⟨v6, ev6, h⟩ := bnd h
   obtain ⟨pv6, qv6, gv6⟩ := rd_some ev6
   refine s_indexImm (ps := (p_api_Inst v6)) F.u_22 F.sz_51 rfl rfl pv6 qv6 (flat_at e_api_Inst_len gv6 (e_api_Inst_eq v6)) (s_loadN (ds := (c_api_Inst v6)) F.ag_51 F.sz_51 rfl rfl rfl (s_alloc (cs := [(ct (⟨#[]⟩ : ByteArray)), (ct (⟨#[]⟩ : ByteArray)), (ci 0), (ci 0), (C.p true (.v (.slice none 0 0))), (ci 0)]) F.z_51 rfl rfl (s_assign (d := (si 0)) rfl (s_store (cs' := (c_api_Inst v6)) rfl rfl rfl (List.cons_ne_nil _ _) rfl F.sz_51 (nl rfl) rfl (AWops.nil (AW.seq ?_))))))
   refine AW.weak (st' := ⟨104, (upd 104 (upd 104 (upd 104 (upd 104 (upd 104 (upd 104 (upd 104 (upd 104 (upd 104 (upd 104 (upd 104 topF 0 (rf 0 0)) 4 (rf 1 0)) 5 (rf 2 0)) 6 (rf 3 0)) 8 (D.one (C.own 4 0 r4.1.length 4))) 9 (sc (.slice none 0 0))) 10 (si 0)) 11 (rf 5 0)) 30 (D.one (C.p false (.sl r1.Insts.length (r1.Insts.flatMap e_api_Inst))))) 31 (si (r1.Insts.length : Int))) 32 (si 0)), [(some (AObj.cells false [(ct r4.2.m.ID), (ct r4.2.m.Name), (C.p false (.sl r4.2.m.Roles.length (r4.2.m.Roles.flatMap e_str))), (C.p false (.sl r4.2.m.Files.length (r4.2.m.Files.flatMap e_api_FileItem))), (ct r4.2.m.Plan.ID), (ct r4.2.m.Plan.Name), (ci r4.2.m.Plan.Kind), (C.p false (.sl r4.2.m.Plan.Entry.length (r4.2.m.Plan.Entry.flatMap e_api_Sentry))), (C.p false (.sl r4.2.m.Plan.Exit.length (r4.2.m.Plan.Exit.flatMap e_api_Sentry))), (ct r4.2.m.Plan.Manual), (ct r4.2.m.Plan.Required), (ct r4.2.m.Plan.Repeat), (cb r4.2.m.Plan.Auto), (cb r4.2.m.Plan.Free), (ci r4.2.m.Plan.After), (C.p false (.sl r4.2.m.Plan.Roles.length (r4.2.m.Plan.Roles.flatMap e_str))), (C.p false (.sl r4.2.m.Plan.Kids.length (r4.2.m.Plan.Kids.flatMap e_api_Item))), (C.p false (.sl r4.2.m.Plan.Table.length (r4.2.m.Plan.Table.flatMap e_api_Item))), (C.p true (.v (.map none)))])), (some (AObj.cells true (c_api_Case r1))), (some (AObj.cells true (c_api_Event a2))), (some (AObj.cells true [(ci 0), (ct (⟨#[]⟩ : ByteArray)), (C.p true (.v (.slice none 0 0))), (C.p true (.v (.slice none 0 0))), (ci 0)])), (ow_ e_api_Hook r4.1), (some (AObj.cells true (c_api_Inst v6)))]⟩) (wg 1 [0, 1, 2, 3, 4, 5] [] hx (le_upd (le_upd (le_upd (le_upd (le_upd (le_upd (le_upd (le_upd (le_upd (le_upd (le_upd (le_top _) (o1 (.ref rfl))) (o1 (.ref rfl))) (o1 (.ref rfl))) (o1 (.ref rfl))) (o1 (.own rfl))) (o1 .sc)) (o1 .sc)) (o1 (.ref rfl))) (o1 .same)) (o1 .sc)) (o1 .sc)) (ac (.cells id (ac .sc (ac .sc (ac .same (ac .same (ac .sc (ac .sc (ac .sc (ac .same (ac .same (ac .sc (ac .sc (ac .sc (ac .sc (ac .sc (ac .sc (ac .same (ac .same (ac .same (ac .sc an)))))))))))))))))))) (ac (.cells (fun _ => rfl) (ac .sc (ac .sc (ac .same (ac .same (ac .sc an)))))) (ac (.cells (fun _ => rfl) (ac .sc (ac .sc (ac .sc an)))) (ac (.cells (fun _ => rfl) (ac .sc (ac .sc (ac .sc (ac .sc (ac .sc an)))))) (ac (.cells (fun _ => rfl) (all2_row _)) (ac (.cells (fun _ => rfl) (ac .sc (ac .sc (ac .sc (ac .sc (ac .same (ac .sc an))))))) an))))))) ?_
   cases h
  ·refine AW.cond_no rfl c5 (AW.exit (AW.seq (AW.region ?_)))
   refine s_loadN (ds := (c_api_Case r1)) F.ag_25 F.sz_25 rfl rfl rfl (s_move (d := (sc (.slice none 0 0))) rfl (s_store (cs' := (c_api_Case r1)) rfl rfl rfl (List.cons_ne_nil _ _) rfl F.sz_25 (nl rfl) rfl (s_assign (d := (sc (.slice none 0 0))) rfl (AWops.nil (AW.ret ?_)))))
   obtain rfl := Option.some.inj h
   exact ⟨_, rfl, (wg 1 [0] [] rfl (le_upd (le_top _) (DLe.tup (ac (TLe.agg (ac .sc (ac .sc (ac .same (ac .same (ac .sc an)))))) (ac (TLe.one .nil) an)))) (ac (.cells id (ac .sc (ac .sc (ac .same (ac .same (ac .sc (ac .sc (ac .sc (ac .same (ac .same (ac .sc (ac .sc (ac .sc (ac .sc (ac .sc (ac .sc (ac .same (ac .same (ac .same (ac .sc an)))))))))))))))))))) an))⟩
def slices_Clone_api_OnPart_api_OnPart.f (k : Nat) (a0 : List api_OnPart) : Option (List api_OnPart) := if (decide (([] : List api_OnPart).length + a0.length ≤ 3518437208883)) = true then (some a0) else none
theorem slices_Clone_api_OnPart_api_OnPart.meets (k : Nat) (a0 : List api_OnPart) (r : (List api_OnPart)) (h : slices_Clone_api_OnPart_api_OnPart.f k a0 = some r) : Meets Tryd.prog 52 [(D.one (C.p false (.sl a0.length (a0.flatMap e_api_OnPart))))] [] (D.one (C.own 0 0 r.length 3)) [(ow_ e_api_OnPart r)] := by
 unfold slices_Clone_api_OnPart_api_OnPart.f at h
 refine Meets.of_body (n := 8) Tryd.func52 rfl rfl (nl rfl) fun x hx => ?_
 replace hx : x.k = 0 := hx
 show AW _ x _ _ ⟨8, fr0 [(D.one (C.p false (.sl a0.length (a0.flatMap e_api_OnPart))))], []⟩
 refine AW.seq (AW.region ?_)
 refine s_assign (d := (sc (.slice none 0 0))) rfl (AWops.nil (AW.seq (AW.seq (AW.region ?_))))
 refine s_move (d := (D.one (C.p false (.sl a0.length (a0.flatMap e_api_OnPart))))) rfl (s_eqNil (n := _) F.u_58 rfl (fun _ _ h => by cases h) rfl (.inl rfl) (fun b w => ?_))
 cases b with
 | false =>
  refine AWops.nil ?_
  refine AW.cond_no rfl rfl (AW.skip (AW.seq (AW.region ?_)))
  refine s_buildSlice (n := 0) (ps := []) (cs := rowC e_api_OnPart ([] : List api_OnPart)) F.u_58 F.sz_57 F.z_57 rfl rfl (by decide) (by decide) rfl rfl (s_move (d := (D.one (C.p false (.sl a0.length (a0.flatMap e_api_OnPart))))) rfl ?_)
  obtain ⟨c1, h⟩ := gdH h
  have dc1 := of_decide_eq_true c1
  refine t_append (xs := ([] : List api_OnPart)) (ys := a0) (zs := a0) (H' := [none, (ow_ e_api_OnPart a0)]) F.u_58 F.in_57 rfl e_api_OnPart_len (.own rfl rfl) .imm F.u_58 (by omega) (by omega) rfl rfl (s_assign (d := (D.one (C.own 1 0 a0.length 3))) rfl (AWops.nil (AW.ret ?_)))
  obtain rfl := Option.some.inj h
  exact ⟨_, rfl, (wg 0 [1] [] rfl (le_upd (le_top _) (o1 (.own rfl))) (ac (.cells (fun _ => rfl) (all2_row _)) an))⟩
 | true =>
  obtain rfl : a0 = [] := by cases a0 with | nil => rfl | cons _ _ => exact absurd (w (by simp)) (by decide)
  replace h : (some ([] : List api_OnPart)) = some r := by simpa [bytesI] using h
  skip
  refine AWops.nil ?_
  refine AW.cond_yes rfl rfl (AW.seq (AW.region ?_))
  refine s_assign (d := (sc (.slice none 0 0))) rfl (AWops.nil (AW.ret ?_))
  obtain rfl := Option.some.inj h
  exact ⟨_, rfl, (Weak.trans (Weak.nil (sz := 3) (i := 0) rfl) (wg 0 [0] [] rfl (le_upd (le_top _) (o1 (CLe.ownN rfl (by simp)))) (ac (.cells (fun _ => rfl) an) an)))⟩
mutual
def model_own_1.l0 : Nat → (List api_Sentry) → Int → (List api_Sentry) → Option (List api_Sentry)
 | 0, _, _, _ => none
 | k + 1, x1, x2, a0 => if (decide (x2 < (a0.length : Int))) = true then ((rd a0 x2).bind fun v4 => (slices_Clone_api_OnPart_api_OnPart.f k v4.On).bind fun r5 => if (decide (x1.length + ([(⟨r5, v4.If⟩ : api_Sentry)] : List api_Sentry).length ≤ 3518437208883)) = true then (model_own_1.l0 k (x1 ++ ([(⟨r5, v4.If⟩ : api_Sentry)] : List api_Sentry)) (IntKind.i64.wrap (x2 + 1)) a0) else none) else (some x1)
end
def model_own_1.f (k : Nat) (a0 : List api_Sentry) : Option (List api_Sentry) := model_own_1.l0 k ([] : List api_Sentry) 0 a0
theorem model_own_1.meets (k : Nat) (a0 : List api_Sentry) (r : (List api_Sentry)) (h : model_own_1.f k a0 = some r) : Meets Tryd.prog 51 [(D.one (C.p false (.sl a0.length (a0.flatMap e_api_Sentry))))] [] (D.one (C.own 0 0 r.length 2)) [(ow_ e_api_Sentry r)] := by
 unfold model_own_1.f at h
 refine Meets.of_body (n := 23) Tryd.func51 rfl rfl (nl rfl) fun x hx => ?_
 replace hx : x.k = 0 := hx
 show AW _ x _ _ ⟨23, fr0 [(D.one (C.p false (.sl a0.length (a0.flatMap e_api_Sentry))))], []⟩
 refine AW.seq (AW.region ?_)
 refine s_assign (d := (sc (.slice none 0 0))) rfl (AWops.nil (AW.seq (AW.region ?_)))
 refine s_assign (d := (sc (.slice none 0 0))) rfl (AWops.nil (AW.seq (AW.seq (AW.region ?_))))
 refine s_move (d := (D.one (C.p false (.sl a0.length (a0.flatMap e_api_Sentry))))) rfl (s_len (n := a0.length) F.u_33 rfl (.inr ⟨(fun _ _ h => by cases h), ⟨_, rfl⟩⟩) (s_move (d := (si 0)) rfl (AWops.nil (AW.block ?_))))
 refine AW.loopw (st0 := ⟨23, (upd 23 (upd 23 (upd 23 (upd 23 topF 3 (D.one (C.own 0 0 ([] : List api_Sentry).length 2))) 6 (D.one (C.p false (.sl a0.length (a0.flatMap e_api_Sentry))))) 7 (si (a0.length : Int))) 8 (si 0)), [(some (AObj.cells true (rowC e_api_Sentry ([] : List api_Sentry))))]⟩) (fun kv st => kv ≤ k ∧ ∃ (x1 : List api_Sentry) (x2 : Int), model_own_1.l0 kv x1 x2 a0 = some r ∧ st = ⟨23, (upd 23 (upd 23 (upd 23 (upd 23 topF 3 (D.one (C.own 0 0 x1.length 2))) 6 (D.one (C.p false (.sl a0.length (a0.flatMap e_api_Sentry))))) 7 (si (a0.length : Int))) 8 (si x2)), [(ow_ e_api_Sentry x1)]⟩) (k := k) (Weak.trans (Weak.nil (sz := 2) (i := 3) rfl) (wg 0 [0] [] hx (le_upd (le_upd (le_upd (le_upd (le_top _) (o1 (.own rfl))) (o1 .same)) (o1 .sc)) (o1 .sc)) (ac (.cells (fun _ => rfl) an) an))) ⟨Nat.le_refl _, ([] : List api_Sentry), 0, h, rfl⟩ ?_
 rintro ql0 st ⟨hkl0, x1, x2, h, rfl⟩
 cases ql0 with
 | zero => exact absurd h (by simp [model_own_1.l0])
 | succ ql0 =>
  replace h := (model_own_1.l0.eq_2 _ _ _ _).symm.trans h
  refine AW.seq (AW.region ?_)
  refine s_binI (v := (.bool (decide (x2 < (a0.length : Int))))) rfl rfl rfl (AWops.nil (AW.seq ?_))
  rcases itH h with ⟨c3, h⟩ | ⟨c3, h⟩
  ·refine AW.cond_yes rfl c3 (AW.skip (AW.seq (AW.block (AW.seq (AW.region ?_)))))
   obtain ⟨v4, ev4, h⟩ := bnd h
   obtain ⟨pv4, qv4, gv4⟩ := rd_some ev4
   refine s_indexImm (ps := (p_api_Sentry v4)) F.u_33 F.sz_60 rfl rfl pv4 qv4 (flat_at e_api_Sentry_len gv4 (e_api_Sentry_eq v4)) (s_loadN (ds := (c_api_Sentry v4)) F.ag_60 F.sz_60 rfl rfl rfl (s_alloc (cs := [(C.p true (.v (.slice none 0 0))), (ct (⟨#[]⟩ : ByteArray))]) F.z_60 rfl rfl (s_store (cs' := (c_api_Sentry v4)) rfl rfl rfl (List.cons_ne_nil _ _) rfl F.sz_60 (nl rfl) rfl (AWops.nil ?_))))
   refine AW.weak (st' := ⟨23, (upd 23 (upd 23 (upd 23 (upd 23 (upd 23 topF 3 (D.one (C.own 0 0 x1.length 2))) 5 (rf 1 0)) 6 (D.one (C.p false (.sl a0.length (a0.flatMap e_api_Sentry))))) 7 (si (a0.length : Int))) 8 (si x2)), [(ow_ e_api_Sentry x1), (some (AObj.cells true (c_api_Sentry v4)))]⟩) (wg 0 [0, 1] [] hx (le_upd (le_upd (le_upd (le_upd (le_upd (le_top _) (o1 (.own rfl))) (o1 (.ref rfl))) (o1 .same)) (o1 .sc)) (o1 .sc)) (ac (.cells (fun _ => rfl) (all2_row _)) (ac (.cells (fun _ => rfl) (ac .same (ac .sc an))) an))) ?_
   obtain ⟨r5, er5, h⟩ := bnd h
   obtain ⟨c6, h⟩ := gdH h
   have dc6 := of_decide_eq_true c6
   refine AW.draw (n := 23) (L := 5) [(ft 0 12 (D.one (C.own 0 0 x1.length 2)) [(3, (D.one (C.own 0 0 x1.length 2)))]), (ft 1 13 (rf 1 0) [(5, (rf 1 0))]), (2, ⟨some 14, (D.one (C.p false (.sl v4.On.length (v4.On.flatMap e_api_OnPart)))), [(13, (rf 1 0))], [(1, (some (AObj.cells true (c_api_Sentry v4))))], [], none⟩), (3, ⟨some 15, (D.one (C.p false (.sl r5.length (r5.flatMap e_api_OnPart)))), [(14, (D.one (C.p false (.sl v4.On.length (v4.On.flatMap e_api_OnPart)))))], [], [], some 2⟩), (ft 4 16 (rf 1 1) [(5, (rf 1 0))]), (5, ⟨some 17, (st_ v4.If), [(16, (rf 1 1))], [(1, (some (AObj.cells true (c_api_Sentry v4))))], [], none⟩), (ft 6 18 (D.agg [(C.p false (.sl r5.length (r5.flatMap e_api_OnPart))), (ct v4.If)]) [(15, (D.one (C.p false (.sl r5.length (r5.flatMap e_api_OnPart))))), (17, (st_ v4.If))]), (7, ⟨some 19, (D.one (C.own 3 0 (([(⟨r5, v4.If⟩ : api_Sentry)] : List api_Sentry).length) 2)), [(18, (D.agg [(C.p false (.sl r5.length (r5.flatMap e_api_OnPart))), (ct v4.If)]))], [], [(3, (some (AObj.cells true (rowC e_api_Sentry ([(⟨r5, v4.If⟩ : api_Sentry)] : List api_Sentry)))))], some 3⟩), (8, ⟨some 20, (D.one (C.own 4 0 ((x1 ++ ([(⟨r5, v4.If⟩ : api_Sentry)] : List api_Sentry)).length) 2)), [(12, (D.one (C.own 0 0 x1.length 2))), (19, (D.one (C.own 3 0 (([(⟨r5, v4.If⟩ : api_Sentry)] : List api_Sentry).length) 2)))], [(0, (ow_ e_api_Sentry x1)), (3, (some (AObj.cells true (rowC e_api_Sentry ([(⟨r5, v4.If⟩ : api_Sentry)] : List api_Sentry)))))], [(0, none), (4, (some (AObj.cells true (rowC e_api_Sentry (x1 ++ ([(⟨r5, v4.If⟩ : api_Sentry)] : List api_Sentry))))))], some 4⟩), (ft 9 3 (D.one (C.own 4 0 ((x1 ++ ([(⟨r5, v4.If⟩ : api_Sentry)] : List api_Sentry)).length) 2)) [(20, (D.one (C.own 4 0 ((x1 ++ ([(⟨r5, v4.If⟩ : api_Sentry)] : List api_Sentry)).length) 2)))])] [[], [], [1], [1, 2], [], [4], [1, 2, 3, 4, 5], [1, 2, 3, 4, 5, 6], (.range 8), (.range 9)] (nl rfl) [0, 0, 1, 2, 0, 1, 3, 4, 5, 6] rfl (TK := [(3, 2), (7, 3), (8, 4)]) rfl (AllK.cons' ⟨(tk_upd (tk_upd (tk_upd (tk_upd (tk_upd tk_top rfl) rfl) rfl) rfl) rfl), (tC (tkO_row _) (tC rfl AllT.nil')), (fC (.inr rfl) (fC (.inr rfl) (fC (.inr rfl) (fC (.inl rfl) (fC (.inr rfl) (fC (.inr rfl) (fC (.inl rfl) (fC (.inl rfl) (fC (.inl rfl) (fC (.inl rfl) AllF.nil'))))))))))⟩ (AllK.cons' ⟨(tk_upd (tk_upd (tk_upd (tk_upd (tk_upd tk_top rfl) rfl) rfl) rfl) rfl), (tC (tkO_row _) (tC rfl AllT.nil')), (fC (.inr rfl) (fC (.inr rfl) (fC (.inr rfl) (fC (.inr rfl) (fC (.inr rfl) (fC (.inr rfl) (fC (.inr rfl) (fC (.inl rfl) (fC (.inl rfl) (fC (.inl rfl) AllF.nil'))))))))))⟩ (AllK.cons' ⟨(tk_upd (tk_upd (tk_upd (tk_upd (tk_upd tk_top rfl) rfl) rfl) rfl) rfl), (tC (tkO_row _) (tC rfl AllT.nil')), (by repeat (first | refine fC (.inl rfl) ?_ | refine fC (.inr rfl) ?_ | refine fC (.inr (by unfold tkFoot; simp only [List.all_cons, List.all_nil, tkO_row, Bool.and_true, Bool.true_and]; rfl)) ?_ | trivial))⟩ AllK.nil'))) (by repeat (first | refine fC ⟨?_, ?_⟩ ?_ | refine sC rfl ?_ | refine hC rfl ?_ | trivial)) ?_ ?_
   ·refine (pC ?_ (pC ?_ (pC ?_ (pC ?_ (pC ?_ (pC ?_ (pC ?_ (pC ?_ (pC ?_ (pC ?_ AllStep.nil'))))))))))
    ·intro K rest fr hv htk k
     show AWops _ x _ _ K ⟨23, (upd 23 fr 3 (D.one (C.own 0 0 x1.length 2))), _⟩
     refine s_move (d := (D.one (C.own 0 0 x1.length 2))) rfl k
    ·intro K rest fr hv htk k
     show AWops _ x _ _ K ⟨23, (upd 23 fr 5 (rf 1 0)), [(hv 0), (hv 1), (hv 2), (hv 3), (hv 4)]⟩
     refine s_fieldRef F.fo_60_0 (by decide) rfl k
    ·intro K rest fr hv htk k
     show AWops _ x _ _ K ⟨23, (upd 23 fr 13 (rf 1 0)), [(hv 0), (some (AObj.cells true (c_api_Sentry v4))), (hv 2), (hv 3), (hv 4)]⟩
     refine s_load1 (c' := (C.p false (.sl v4.On.length (v4.On.flatMap e_api_OnPart)))) F.ag_58 rfl rfl k
    ·intro K rest fr hv htk k
     show AWops _ x _ _ K ⟨23, (upd 23 fr 14 (D.one (C.p false (.sl v4.On.length (v4.On.flatMap e_api_OnPart))))), [(hv 0), (hv 1), (hv 2), (hv 3), (hv 4)]⟩
     refine cc [] [(hv 0), (hv 1), (hv 2), (hv 3), (hv 4), (ow_ e_api_OnPart r5)] (D.one (C.own 5 0 r5.length 3)) F.ca_52 rfl rfl (ac (.one .imm) an) an (slices_Clone_api_OnPart_api_OnPart.meets _ v4.On r5 er5) ?_
     refine AWops.weak (st' := ⟨23, (upd 23 (upd 23 fr 14 (D.one (C.p false (.sl v4.On.length (v4.On.flatMap e_api_OnPart))))) 15 (D.one (C.p false (.sl r5.length (r5.flatMap e_api_OnPart))))), [(hv 0), (hv 1), (hv 2), (hv 3), (hv 4)]⟩) (wg 0 [0, 1, 2, 3, 4] [5] hx (le_upd2 (le_ok (p := 2) (L := 5) rfl (htk 2 rfl).1) (o1 (CLe.frz e_api_OnPart_len rfl rfl rfl))) (ac (oq 2 5 (htk 2 rfl) 0) (ac (oq 2 5 (htk 2 rfl) 1) (ac (oq 2 5 (htk 2 rfl) 2) (ac (oq 2 5 (htk 2 rfl) 3) (ac (oq 2 5 (htk 2 rfl) 4) an)))))) k
    ·intro K rest fr hv htk k
     show AWops _ x _ _ K ⟨23, (upd 23 fr 5 (rf 1 0)), [(hv 0), (hv 1), (hv 2), (hv 3), (hv 4)]⟩
     refine s_fieldRef F.fo_60_1 (by decide) rfl k
    ·intro K rest fr hv htk k
     show AWops _ x _ _ K ⟨23, (upd 23 fr 16 (rf 1 1)), [(hv 0), (some (AObj.cells true (c_api_Sentry v4))), (hv 2), (hv 3), (hv 4)]⟩
     refine s_load1 (c' := (ct v4.If)) F.ag_9 rfl rfl k
    ·intro K rest fr hv htk k
     show AWops _ x _ _ K ⟨23, (upd 23 (upd 23 fr 17 (st_ v4.If)) 15 (D.one (C.p false (.sl r5.length (r5.flatMap e_api_OnPart))))), [(hv 0), (hv 1), (hv 2), (hv 3), (hv 4)]⟩
     refine s_build (ps := [(0, (D.one (C.p false (.sl r5.length (r5.flatMap e_api_OnPart))))), (1, (st_ v4.If))]) (cs := [(C.p false (.sl r5.length (r5.flatMap e_api_OnPart))), (ct v4.If)]) F.z_60 rfl F.so_60 rfl rfl k
    ·intro K rest fr hv htk k
     show AWops _ x _ _ K ⟨23, (upd 23 fr 18 (D.agg [(C.p false (.sl r5.length (r5.flatMap e_api_OnPart))), (ct v4.If)])), [(hv 0), (hv 1), (hv 2), (hv 3), (hv 4)]⟩
     refine s_buildSlice (n := 1) (ps := [(0, (D.agg [(C.p false (.sl r5.length (r5.flatMap e_api_OnPart))), (ct v4.If)]))]) (cs := rowC e_api_Sentry ([(⟨r5, v4.If⟩ : api_Sentry)] : List api_Sentry)) F.u_33 F.sz_60 F.z_60 rfl rfl (by decide) (by decide) rfl rfl ?_
     refine AWops.weak (st' := ⟨23, (upd 23 (upd 23 fr 18 (D.agg [(C.p false (.sl r5.length (r5.flatMap e_api_OnPart))), (ct v4.If)])) 19 (D.one (C.own 3 0 (([(⟨r5, v4.If⟩ : api_Sentry)] : List api_Sentry).length) 2))), [(hv 0), (hv 1), (hv 2), (some (AObj.cells true (rowC e_api_Sentry ([(⟨r5, v4.If⟩ : api_Sentry)] : List api_Sentry)))), (hv 4)]⟩) (wg 0 [0, 1, 2, 5, 4] [] hx (le_upd2 (le_ok (p := 3) (L := 5) rfl (htk 3 rfl).1) (o1 (.own rfl))) (ac (oq 3 5 (htk 3 rfl) 0) (ac (oq 3 5 (htk 3 rfl) 1) (ac (oq 3 5 (htk 3 rfl) 2) (ac (.cells (fun _ => rfl) (all2_row _)) (ac (oq 3 5 (htk 3 rfl) 4) an)))))) k
    ·intro K rest fr hv htk k
     show AWops _ x _ _ K ⟨23, (upd 23 (upd 23 fr 19 (D.one (C.own 3 0 (([(⟨r5, v4.If⟩ : api_Sentry)] : List api_Sentry).length) 2))) 12 (D.one (C.own 0 0 x1.length 2))), [(ow_ e_api_Sentry x1), (hv 1), (hv 2), (some (AObj.cells true (rowC e_api_Sentry ([(⟨r5, v4.If⟩ : api_Sentry)] : List api_Sentry)))), (hv 4)]⟩
     refine t_append (xs := x1) (ys := ([(⟨r5, v4.If⟩ : api_Sentry)] : List api_Sentry)) (zs := x1 ++ ([(⟨r5, v4.If⟩ : api_Sentry)] : List api_Sentry)) (H' := [none, (hv 1), (hv 2), (some (AObj.cells true (rowC e_api_Sentry ([(⟨r5, v4.If⟩ : api_Sentry)] : List api_Sentry)))), (hv 4), (some (AObj.cells true (rowC e_api_Sentry (x1 ++ ([(⟨r5, v4.If⟩ : api_Sentry)] : List api_Sentry)))))]) F.u_33 F.in_60 rfl e_api_Sentry_len (.own rfl rfl) (.own rfl rfl) F.u_33 (by omega) (by omega) rfl rfl ?_
     refine AWops.weak (st' := ⟨23, (upd 23 (upd 23 (upd 23 fr 19 (D.one (C.own 3 0 (([(⟨r5, v4.If⟩ : api_Sentry)] : List api_Sentry).length) 2))) 12 (D.one (C.own 0 0 x1.length 2))) 20 (D.one (C.own 4 0 ((x1 ++ ([(⟨r5, v4.If⟩ : api_Sentry)] : List api_Sentry)).length) 2))), [none, (hv 1), (hv 2), (some (AObj.cells true (rowC e_api_Sentry ([(⟨r5, v4.If⟩ : api_Sentry)] : List api_Sentry)))), (some (AObj.cells true (rowC e_api_Sentry (x1 ++ ([(⟨r5, v4.If⟩ : api_Sentry)] : List api_Sentry)))))]⟩) (wg 0 [0, 1, 2, 3, 5] [] hx (le_upd2 (le_ok (p := 4) (L := 5) rfl (htk 4 rfl).1) (o1 (.own rfl))) (ac (.none _) (ac (oq 4 5 (htk 4 rfl) 1) (ac (oq 4 5 (htk 4 rfl) 2) (ac (.cells (fun _ => rfl) (all2_row _)) (ac (.cells (fun _ => rfl) (all2_row _)) an)))))) k
    ·intro K rest fr hv htk k
     show AWops _ x _ _ K ⟨23, (upd 23 fr 20 (D.one (C.own 4 0 ((x1 ++ ([(⟨r5, v4.If⟩ : api_Sentry)] : List api_Sentry)).length) 2))), _⟩
     refine s_assign (d := (D.one (C.own 4 0 ((x1 ++ ([(⟨r5, v4.If⟩ : api_Sentry)] : List api_Sentry)).length) 2))) rfl k
   ·refine AWops.weak (st' := ⟨23, (upd 23 (upd 23 (upd 23 (upd 23 topF 3 (D.one (C.own 0 0 ((x1 ++ ([(⟨r5, v4.If⟩ : api_Sentry)] : List api_Sentry)).length) 2))) 6 (D.one (C.p false (.sl a0.length (a0.flatMap e_api_Sentry))))) 7 (si (a0.length : Int))) 8 (si x2)), [(some (AObj.cells true (rowC e_api_Sentry (x1 ++ ([(⟨r5, v4.If⟩ : api_Sentry)] : List api_Sentry)))))]⟩) (wg 0 [4] [] hx (le_upd (le_upd (le_upd (le_upd (le_top _) (o1 (.own rfl))) (o1 .same)) (o1 .sc)) (o1 .sc)) (ac (.cells (fun _ => rfl) (all2_row _)) an)) (AWops.nil (AW.region ?_))
    refine s_binI (v := (.int .i64 (IntKind.i64.wrap (x2 + 1)))) rfl rfl rfl (s_move (d := (si (IntKind.i64.wrap (x2 + 1)))) rfl (AWops.nil ?_))
    exact ⟨_, ⟨23, (upd 23 (upd 23 (upd 23 (upd 23 topF 3 (D.one (C.own 0 0 (x1 ++ ([(⟨r5, v4.If⟩ : api_Sentry)] : List api_Sentry)).length 2))) 6 (D.one (C.p false (.sl a0.length (a0.flatMap e_api_Sentry))))) 7 (si (a0.length : Int))) 8 (si (IntKind.i64.wrap (x2 + 1)))), [(some (AObj.cells true (rowC e_api_Sentry (x1 ++ ([(⟨r5, v4.If⟩ : api_Sentry)] : List api_Sentry)))))]⟩, by omega, (wg 0 [0] [] hx (le_upd (le_upd (le_upd (le_upd (le_top _) (o1 (.own rfl))) (o1 .same)) (o1 .sc)) (o1 .sc)) (ac (.cells (fun _ => rfl) (all2_row _)) an)), by omega, x1 ++ ([(⟨r5, v4.If⟩ : api_Sentry)] : List api_Sentry), IntKind.i64.wrap (x2 + 1), h, rfl⟩
  ·refine AW.cond_no rfl c3 (AW.exit (AW.seq (AW.region ?_)))
   refine s_move (d := (D.one (C.own 0 0 x1.length 2))) rfl (s_assign (d := (D.one (C.own 0 0 x1.length 2))) rfl (AWops.nil (AW.ret ?_)))
   obtain rfl := Option.some.inj h
   exact ⟨_, rfl, (wg 0 [0] [] rfl (le_upd (le_top _) (o1 (.own rfl))) (ac (.cells (fun _ => rfl) (all2_row _)) an))⟩
end Go.Abs.GenI
