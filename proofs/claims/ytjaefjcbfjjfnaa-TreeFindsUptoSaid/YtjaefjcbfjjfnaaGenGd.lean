import Derived.Test.YtjaefjcbfjjfnaaGenGc
set_option linter.unusedVariables false
set_option linter.unusedSimpArgs false
set_option maxRecDepth 100000
set_option maxHeartbeats 4000000
namespace Go.Abs.GenG
open Go.Abs Go.Proofs
def dossierlaw18_TreeFinds.f (k : Nat) (a0 : api_Case) (a1 : api_Case) (a2 : ByteArray) (a3 : ByteArray) : Option Bool := (dossierplain_Case.f k a0).bind fun r1 => if r1 = true then ((dossierplain_Case.f k a1).bind fun r3 => if r3 = true then ((tree_Find.f k a0 a2).bind fun r5 => (dossierref18_Find.f k a0 a2).bind fun r6 => (tree_Kids.f k a0 a2).bind fun r7 => (dossierref18_Kids.f k a0 a2).bind fun r8 => (dossierplain_SameInsts.f k r7 r8).bind fun r9 => if r9 = true then ((tree_Below.f k a0 a2).bind fun r11 => (dossierref18_Below.f k a0 a2).bind fun r12 => (dossierplain_SameInsts.f k r11 r12).bind fun r13 => if (r5.2 == r6.2) = true then ((dossierref18_SameInst.f k r5.1 r6.1).bind fun r15 => if r15 = true then (if r13 = true then ((tree_Next.f k a0 a2 a3).bind fun r18 => (dossierref18_Next.f k a0 a2 a3).bind fun r19 => if (r18 == r19) = true then ((tree_Same.f k a0 a1).bind fun r21 => (dossierref18_Same.f k a0 a1).bind fun r22 => if (r21 == r22) = true then ((tree_Copy.f k a0).bind fun r24 => (dossierref18_Same.f k r24 a0).bind fun r25 => if r25 = true then ((dossierlaw18_awake.f k).bind fun r27 => some r27) else (some false)) else (some false)) else (some false)) else (some false)) else (some false)) else (some false)) else (if (r5.2 == r6.2) = true then ((dossierref18_SameInst.f k r5.1 r6.1).bind fun r29 => if r29 = true then (some false) else (some false)) else (some false))) else ((dossierlaw18_awake.f k).bind fun r31 => some r31)) else ((dossierlaw18_awake.f k).bind fun r32 => some r32)
theorem dossierlaw18_TreeFinds.meets (k : Nat) (a0 : api_Case) (a1 : api_Case) (a2 : ByteArray) (a3 : ByteArray) (r : Bool) (h : dossierlaw18_TreeFinds.f k a0 a1 a2 a3 = some r) : Meets Try.prog 3 [(D.agg (c_api_Case a0)), (D.agg (c_api_Case a1)), (sc (.string a2)), (sc (.string a3))] [] (sc (.bool r)) [] := by
 unfold dossierlaw18_TreeFinds.f at h
 refine Meets.of_body (n := 91) Try.func3 rfl rfl (nl rfl) fun x hx => ?_
 replace hx : x.k = 0 := hx
 show AW _ x _ _ ⟨91, fr0 [(D.agg (c_api_Case a0)), (D.agg (c_api_Case a1)), (sc (.string a2)), (sc (.string a3))], []⟩
 refine AW.seq (AW.region ?_)
 refine s_box (cs := (c_api_Case a0)) rfl (List.cons_ne_nil _ _) rfl ?_
 refine s_box (cs := (c_api_Case a1)) rfl (List.cons_ne_nil _ _) rfl ?_
 refine s_assign (d := (sc (.bool false))) rfl (AWops.nil (AW.seq (AW.seq (AW.region ?_))))
 refine s_loadN (ds := (c_api_Case a0)) F.ag_25 F.sz_25 rfl rfl rfl ?_
 obtain ⟨r1, er1, h⟩ := bnd h
 refine s_call2 (ρ := []) (br := false) (H2 := [(some (AObj.cells true (c_api_Case a0))), (some (AObj.cells true (c_api_Case a1)))]) (d := (sc (.bool r1))) F.ca_4 rfl rfl (ac (LendT.aggL (ac .sc (ac .sc (ac .imm (ac .imm (ac .sc an)))))) an) an (by decide) rfl (dossierplain_Case.meets _ a0 r1 er1) (.inl rfl) rfl rfl ?_
 refine s_not rfl ?_
 refine s_move (d := (sc (.bool (!r1)))) rfl ?_
 rcases itH h with ⟨c2, h⟩ | ⟨c2, h⟩
 ·refine AWops.guard_yes rfl (nl rfl) rfl (by rw [c2] <;> rfl) ?_
  refine s_loadN (ds := (c_api_Case a1)) F.ag_25 F.sz_25 rfl rfl rfl ?_
  refine AWops.guard_yes rfl (nl rfl) rfl (by rw [c2] <;> rfl) ?_
  obtain ⟨r3, er3, h⟩ := bnd h
  refine s_call2 (ρ := []) (br := false) (H2 := [(some (AObj.cells true (c_api_Case a0))), (some (AObj.cells true (c_api_Case a1)))]) (d := (sc (.bool r3))) F.ca_4 rfl rfl (ac (LendT.aggL (ac .sc (ac .sc (ac .imm (ac .imm (ac .sc an)))))) an) an (by decide) rfl (dossierplain_Case.meets _ a1 r3 er3) (.inl rfl) rfl rfl ?_
  refine AWops.guard_yes rfl (nl rfl) rfl (by rw [c2] <;> rfl) ?_
  refine s_not rfl ?_
  refine s_pick_no (d := (sc (.bool (!r3)))) rfl (by rw [c2] <;> rfl) rfl (AWops.nil ?_)
  rcases itH h with ⟨c4, h⟩ | ⟨c4, h⟩
  ·refine AW.cond_no rfl (by rw [c4] <;> rfl) (AW.skip (AW.seq (AW.region ?_)))
   refine s_loadN (ds := (c_api_Case a0)) F.ag_25 F.sz_25 rfl rfl rfl ?_
   refine s_move (d := (sc (.string a2))) rfl ?_
   obtain ⟨r5, er5, h⟩ := bnd h
   refine s_call2 (ρ := []) (br := false) (H2 := [(some (AObj.cells true (c_api_Case a0))), (some (AObj.cells true (c_api_Case a1)))]) (d := (D.tup [(D.agg (c_api_Inst r5.1)), (sc (.bool r5.2))])) F.ca_6 rfl rfl (ac (LendT.aggL (ac .sc (ac .sc (ac .imm (ac .imm (ac .sc an)))))) (ac (.one .sc) an)) an (by decide) rfl (tree_Find.meets _ a0 a2 r5 er5) (.inl rfl) rfl rfl ?_
   refine s_move (d := (D.tup [(D.agg (c_api_Inst r5.1)), (sc (.bool r5.2))])) rfl ?_
   refine s_extract (d := (D.agg (c_api_Inst r5.1))) rfl rfl ?_
   refine s_extract (d := (sc (.bool r5.2))) rfl rfl ?_
   refine s_alloc (cs := [(C.p true (.v (.string (⟨#[]⟩ : ByteArray)))), (C.p true (.v (.string (⟨#[]⟩ : ByteArray)))), (C.p true (.v (.int .i64 0))), (C.p true (.v (.int .i64 0))), (C.p true (.v (.slice none 0 0))), (C.p true (.v (.int .i64 0)))]) F.z_30 rfl rfl ?_
   refine s_store (cs' := (c_api_Inst r5.1)) rfl rfl rfl (List.cons_ne_nil _ _) rfl F.sz_30 (nl rfl) rfl ?_
   refine s_assign (d := (sc (.bool r5.2))) rfl (AWops.nil (AW.seq (AW.region ?_)))
   refine s_loadN (ds := (c_api_Case a0)) F.ag_25 F.sz_25 rfl rfl rfl ?_
   refine s_move (d := (sc (.string a2))) rfl ?_
   obtain ⟨r6, er6, h⟩ := bnd h
   refine s_call2 (ρ := []) (br := false) (H2 := [(some (AObj.cells true (c_api_Case a0))), (some (AObj.cells true (c_api_Case a1))), (some (AObj.cells true (c_api_Inst r5.1)))]) (d := (D.tup [(D.agg (c_api_Inst r6.1)), (sc (.bool r6.2))])) F.ca_7 rfl rfl (ac (LendT.aggL (ac .sc (ac .sc (ac .imm (ac .imm (ac .sc an)))))) (ac (.one .sc) an)) an (by decide) rfl (dossierref18_Find.meets _ a0 a2 r6 er6) (.inl rfl) rfl rfl ?_
   refine s_move (d := (D.tup [(D.agg (c_api_Inst r6.1)), (sc (.bool r6.2))])) rfl ?_
   refine s_extract (d := (D.agg (c_api_Inst r6.1))) rfl rfl ?_
   refine s_extract (d := (sc (.bool r6.2))) rfl rfl ?_
   refine s_alloc (cs := [(C.p true (.v (.string (⟨#[]⟩ : ByteArray)))), (C.p true (.v (.string (⟨#[]⟩ : ByteArray)))), (C.p true (.v (.int .i64 0))), (C.p true (.v (.int .i64 0))), (C.p true (.v (.slice none 0 0))), (C.p true (.v (.int .i64 0)))]) F.z_30 rfl rfl ?_
   refine s_store (cs' := (c_api_Inst r6.1)) rfl rfl rfl (List.cons_ne_nil _ _) rfl F.sz_30 (nl rfl) rfl ?_
   refine s_assign (d := (sc (.bool r6.2))) rfl (AWops.nil (AW.seq ?_))
   refine AW.weak (st' := ⟨91, (upd 91 (upd 91 (upd 91 (upd 91 (upd 91 (upd 91 (upd 91 (upd 91 topF 2 (sc (.string a2))) 3 (sc (.string a3))) 4 (D.one (C.ref 0 0))) 5 (D.one (C.ref 1 0))) 9 (D.one (C.ref 2 0))) 10 (sc (.bool r5.2))) 11 (D.one (C.ref 3 0))) 12 (sc (.bool r6.2))), [(some (AObj.cells true (c_api_Case a0))), (some (AObj.cells true (c_api_Case a1))), (some (AObj.cells true (c_api_Inst r5.1))), (some (AObj.cells true (c_api_Inst r6.1)))]⟩) (Weak.gen (kk := 0) [0, 1, 2, 3] [] hx rfl (by decide) (by decide) rfl rfl rfl (le_upd (le_upd (le_upd (le_upd (le_upd (le_upd (le_upd (le_upd (le_top _) (.t (.one .sc))) (.t (.one .sc))) (.t (.one (.ref rfl)))) (.t (.one (.ref rfl)))) (.t (.one (.ref rfl)))) (.t (.one .sc))) (.t (.one (.ref rfl)))) (.t (.one .sc))) (ac (.cells (fun h => h) (ac .sc (ac .sc (ac .same (ac .same (ac .sc an)))))) (ac (.cells (fun h => h) (ac .sc (ac .sc (ac .same (ac .same (ac .sc an)))))) (ac (.cells (fun h => h) (ac .sc (ac .sc (ac .sc (ac .sc (ac .same (ac .sc an))))))) (ac (.cells (fun h => h) (ac .sc (ac .sc (ac .sc (ac .sc (ac .same (ac .sc an))))))) an))))) ?_
   obtain ⟨r7, er7, h⟩ := bnd h
   obtain ⟨r8, er8, h⟩ := bnd h
   obtain ⟨r9, er9, h⟩ := bnd h
   rcases itH h with ⟨c10, h⟩ | ⟨c10, h⟩
   ·obtain ⟨r11, er11, h⟩ := bnd h
    obtain ⟨r12, er12, h⟩ := bnd h
    obtain ⟨r13, er13, h⟩ := bnd h
    refine AW.draw (n := 91) (L := 10) [(0, ⟨some 35, (D.agg (c_api_Case a0)), [(4, (D.one (C.ref 0 0)))], [(0, (some (AObj.cells true (c_api_Case a0))))], [], none⟩), (1, ⟨some 36, (sc (.string a2)), [(2, (sc (.string a2)))], [], [], none⟩), (2, ⟨some 37, (D.one (C.own 4 0 r7.length 6)), [(35, (D.agg (c_api_Case a0))), (36, (sc (.string a2)))], [], [(4, (some (AObj.cells true (rowC e_api_Inst r7))))], some 4⟩), (3, ⟨some 38, (D.agg (c_api_Case a0)), [(4, (D.one (C.ref 0 0)))], [(0, (some (AObj.cells true (c_api_Case a0))))], [], none⟩), (4, ⟨some 39, (sc (.string a2)), [(2, (sc (.string a2)))], [], [], none⟩), (5, ⟨some 40, (D.one (C.own 5 0 r8.length 6)), [(38, (D.agg (c_api_Case a0))), (39, (sc (.string a2)))], [], [(5, (some (AObj.cells true (rowC e_api_Inst r8))))], some 5⟩), (6, ⟨some 41, (sc (.bool r9)), [(37, (D.one (C.own 4 0 r7.length 6))), (40, (D.one (C.own 5 0 r8.length 6)))], [(4, (some (AObj.cells true (rowC e_api_Inst r7)))), (5, (some (AObj.cells true (rowC e_api_Inst r8))))], [], none⟩), (7, ⟨some 42, (sc (.bool r9)), [(41, (sc (.bool r9)))], [], [], none⟩), (8, ⟨some 43, (D.agg (c_api_Case a0)), [(4, (D.one (C.ref 0 0))), (42, (sc (.bool r9)))], [(0, (some (AObj.cells true (c_api_Case a0))))], [], none⟩), (9, ⟨some 44, (sc (.string a2)), [(2, (sc (.string a2))), (42, (sc (.bool r9)))], [], [], none⟩), (10, ⟨some 45, (D.one (C.own 7 0 r11.length 6)), [(42, (sc (.bool r9))), (43, (D.agg (c_api_Case a0))), (44, (sc (.string a2)))], [], [(7, (some (AObj.cells true (rowC e_api_Inst r11))))], some 7⟩), (11, ⟨some 46, (D.agg (c_api_Case a0)), [(4, (D.one (C.ref 0 0))), (42, (sc (.bool r9)))], [(0, (some (AObj.cells true (c_api_Case a0))))], [], none⟩), (12, ⟨some 47, (sc (.string a2)), [(2, (sc (.string a2))), (42, (sc (.bool r9)))], [], [], none⟩), (13, ⟨some 48, (D.one (C.own 8 0 r12.length 6)), [(42, (sc (.bool r9))), (46, (D.agg (c_api_Case a0))), (47, (sc (.string a2)))], [], [(8, (some (AObj.cells true (rowC e_api_Inst r12))))], some 8⟩), (14, ⟨some 49, (sc (.bool r13)), [(42, (sc (.bool r9))), (45, (D.one (C.own 7 0 r11.length 6))), (48, (D.one (C.own 8 0 r12.length 6)))], [(7, (some (AObj.cells true (rowC e_api_Inst r11)))), (8, (some (AObj.cells true (rowC e_api_Inst r12))))], [], none⟩), (15, ⟨some 50, (sc (.bool r13)), [(42, (sc (.bool r9))), (49, (sc (.bool r13)))], [], [], none⟩), (16, ⟨some 13, (sc (.bool r13)), [(50, (sc (.bool r13)))], [], [], none⟩)] [[], [], [0, 1], [], [], [0, 1, 2, 3, 4], [0, 1, 2, 3, 4, 5], [0, 1, 2, 3, 4, 5, 6], [0, 1, 2, 3, 4, 5, 6, 7], [0, 1, 2, 3, 4, 5, 6, 7], [0, 1, 2, 3, 4, 5, 6, 7, 8, 9], [0, 1, 2, 3, 4, 5, 6, 7], [0, 1, 2, 3, 4, 5, 6, 7], [0, 1, 2, 3, 4, 5, 6, 7, 8, 9, 10, 11, 12], [0, 1, 2, 3, 4, 5, 6, 7, 8, 9, 10, 11, 12, 13], [0, 1, 2, 3, 4, 5, 6, 7, 8, 9, 10, 11, 12, 13, 14], [0, 1, 2, 3, 4, 5, 6, 7, 8, 9, 10, 11, 12, 13, 14, 15]] (nl rfl) [0, 0, 1, 0, 0, 2, 3, 4, 5, 5, 6, 5, 5, 7, 8, 9, 10] rfl (TK := [(2, 4), (5, 5), (10, 7), (13, 8)]) rfl (AllK.cons' ⟨(tk_upd (tk_upd (tk_upd (tk_upd (tk_upd (tk_upd (tk_upd (tk_upd tk_top rfl) rfl) rfl) rfl) rfl) rfl) rfl) rfl), (tC rfl (tC rfl (tC rfl (tC rfl AllT.nil')))), (fC (.inr rfl) (fC (.inr rfl) (fC (.inl rfl) (fC (.inr rfl) (fC (.inr rfl) (fC (.inl rfl) (fC (.inl rfl) (fC (.inl rfl) (fC (.inl rfl) (fC (.inl rfl) (fC (.inl rfl) (fC (.inl rfl) (fC (.inl rfl) (fC (.inl rfl) (fC (.inl rfl) (fC (.inl rfl) (fC (.inl rfl) AllF.nil')))))))))))))))))⟩ (AllK.cons' ⟨(tk_upd (tk_upd (tk_upd (tk_upd (tk_upd (tk_upd (tk_upd (tk_upd tk_top rfl) rfl) rfl) rfl) rfl) rfl) rfl) rfl), (tC rfl (tC rfl (tC rfl (tC rfl AllT.nil')))), (fC (.inr rfl) (fC (.inr rfl) (fC (.inr (by unfold tkFoot; simp only [List.all_cons, List.all_nil, tkO_row, Bool.and_true, Bool.true_and]; rfl)) (fC (.inr rfl) (fC (.inr rfl) (fC (.inl rfl) (fC (.inl rfl) (fC (.inl rfl) (fC (.inl rfl) (fC (.inl rfl) (fC (.inl rfl) (fC (.inl rfl) (fC (.inl rfl) (fC (.inl rfl) (fC (.inl rfl) (fC (.inl rfl) (fC (.inl rfl) AllF.nil')))))))))))))))))⟩ (AllK.cons' ⟨(tk_upd (tk_upd (tk_upd (tk_upd (tk_upd (tk_upd (tk_upd (tk_upd tk_top rfl) rfl) rfl) rfl) rfl) rfl) rfl) rfl), (tC rfl (tC rfl (tC rfl (tC rfl AllT.nil')))), (fC (.inr rfl) (fC (.inr rfl) (fC (.inr (by unfold tkFoot; simp only [List.all_cons, List.all_nil, tkO_row, Bool.and_true, Bool.true_and]; rfl)) (fC (.inr rfl) (fC (.inr rfl) (fC (.inr (by unfold tkFoot; simp only [List.all_cons, List.all_nil, tkO_row, Bool.and_true, Bool.true_and]; rfl)) (fC (.inr rfl) (fC (.inr rfl) (fC (.inr rfl) (fC (.inr rfl) (fC (.inl rfl) (fC (.inr rfl) (fC (.inr rfl) (fC (.inl rfl) (fC (.inl rfl) (fC (.inl rfl) (fC (.inl rfl) AllF.nil')))))))))))))))))⟩ (AllK.cons' ⟨(tk_upd (tk_upd (tk_upd (tk_upd (tk_upd (tk_upd (tk_upd (tk_upd tk_top rfl) rfl) rfl) rfl) rfl) rfl) rfl) rfl), (tC rfl (tC rfl (tC rfl (tC rfl AllT.nil')))), (fC (.inr rfl) (fC (.inr rfl) (fC (.inr (by unfold tkFoot; simp only [List.all_cons, List.all_nil, tkO_row, Bool.and_true, Bool.true_and]; rfl)) (fC (.inr rfl) (fC (.inr rfl) (fC (.inr (by unfold tkFoot; simp only [List.all_cons, List.all_nil, tkO_row, Bool.and_true, Bool.true_and]; rfl)) (fC (.inr rfl) (fC (.inr rfl) (fC (.inr rfl) (fC (.inr rfl) (fC (.inr (by unfold tkFoot; simp only [List.all_cons, List.all_nil, tkO_row, Bool.and_true, Bool.true_and]; rfl)) (fC (.inr rfl) (fC (.inr rfl) (fC (.inl rfl) (fC (.inl rfl) (fC (.inl rfl) (fC (.inl rfl) AllF.nil')))))))))))))))))⟩ AllK.nil')))) (fC ⟨(sC rfl AllS.nil'), (hC rfl AllH.nil')⟩ (fC ⟨(sC rfl AllS.nil'), AllH.nil'⟩ (fC ⟨(sC rfl (sC rfl AllS.nil')), AllH.nil'⟩ (fC ⟨(sC rfl AllS.nil'), (hC rfl AllH.nil')⟩ (fC ⟨(sC rfl AllS.nil'), AllH.nil'⟩ (fC ⟨(sC rfl (sC rfl AllS.nil')), AllH.nil'⟩ (fC ⟨(sC rfl (sC rfl AllS.nil')), (hC rfl (hC rfl AllH.nil'))⟩ (fC ⟨(sC rfl AllS.nil'), AllH.nil'⟩ (fC ⟨(sC rfl (sC rfl AllS.nil')), (hC rfl AllH.nil')⟩ (fC ⟨(sC rfl (sC rfl AllS.nil')), AllH.nil'⟩ (fC ⟨(sC rfl (sC rfl (sC rfl AllS.nil'))), AllH.nil'⟩ (fC ⟨(sC rfl (sC rfl AllS.nil')), (hC rfl AllH.nil')⟩ (fC ⟨(sC rfl (sC rfl AllS.nil')), AllH.nil'⟩ (fC ⟨(sC rfl (sC rfl (sC rfl AllS.nil'))), AllH.nil'⟩ (fC ⟨(sC rfl (sC rfl (sC rfl AllS.nil'))), (hC rfl (hC rfl AllH.nil'))⟩ (fC ⟨(sC rfl (sC rfl AllS.nil')), AllH.nil'⟩ (fC ⟨(sC rfl AllS.nil'), AllH.nil'⟩ AllF.nil'))))))))))))))))) ?_ ?_
    ·refine (pC ?_ (pC ?_ (pC ?_ (pC ?_ (pC ?_ (pC ?_ (pC ?_ (pC ?_ (pC ?_ (pC ?_ (pC ?_ (pC ?_ (pC ?_ (pC ?_ (pC ?_ (pC ?_ (pC ?_ AllStep.nil')))))))))))))))))
     ·intro K rest fr hv htk k
      show AWops _ x _ _ K ⟨91, (upd 91 fr 4 (D.one (C.ref 0 0))), [(some (AObj.cells true (c_api_Case a0))), (hv 1), (hv 2), (hv 3), (hv 4), (hv 5), (hv 6), (hv 7), (hv 8), (hv 9)]⟩
      refine s_loadN (ds := (c_api_Case a0)) F.ag_25 F.sz_25 rfl rfl rfl k
     ·intro K rest fr hv htk k
      show AWops _ x _ _ K ⟨91, (upd 91 fr 2 (sc (.string a2))), _⟩
      refine s_move (d := (sc (.string a2))) rfl k
     ·intro K rest fr hv htk k
      show AWops _ x _ _ K ⟨91, (upd 91 (upd 91 fr 36 (sc (.string a2))) 35 (D.agg (c_api_Case a0))), [(hv 0), (hv 1), (hv 2), (hv 3), (hv 4), (hv 5), (hv 6), (hv 7), (hv 8), (hv 9)]⟩
      refine s_call2 (ρ := []) (br := false) (H2 := [(hv 0), (hv 1), (hv 2), (hv 3), (hv 4), (hv 5), (hv 6), (hv 7), (hv 8), (hv 9), (some (AObj.cells true (rowC e_api_Inst r7)))]) (d := (D.one (C.own 10 0 r7.length 6))) F.ca_9 rfl rfl (ac (LendT.aggL (ac .sc (ac .sc (ac .imm (ac .imm (ac .sc an)))))) (ac (.one .sc) an)) an (by decide) rfl (tree_Kids.meets _ a0 a2 r7 er7) (.inl rfl) (by first | rfl | (simp only [mergeH2, orF, Bool.false_or, Bool.or_false, Bool.true_or, Bool.or_true, mergeAt, mergeObj, renO, ren_row, List.drop_succ_cons, List.drop_zero, List.map_cons, List.map_nil, Option.map_some, Option.map_none, List.length_cons, List.length_nil, Nat.zero_add, List.append_assoc, List.cons_append, List.nil_append]; done) | (simp only [mergeH2, orF, Bool.false_or, Bool.or_false, Bool.true_or, Bool.or_true, mergeAt, mergeObj, renO, ren_row, List.drop_succ_cons, List.drop_zero, List.map_cons, List.map_nil, Option.map_some, Option.map_none, List.length_cons, List.length_nil, Nat.zero_add, List.append_assoc, List.cons_append, List.nil_append]; rfl)) rfl ?_
      refine AWops.weak (st' := ⟨91, (upd 91 (upd 91 (upd 91 fr 36 (sc (.string a2))) 35 (D.agg (c_api_Case a0))) 37 (D.one (C.own 4 0 r7.length 6))), [(hv 0), (hv 1), (hv 2), (hv 3), (some (AObj.cells true (rowC e_api_Inst r7))), (hv 5), (hv 6), (hv 7), (hv 8), (hv 9)]⟩) (Weak.gen (kk := 0) [0, 1, 2, 3, 10, 5, 6, 7, 8, 9] [] hx rfl (by decide) (by decide) rfl rfl rfl (le_upd2 (le_ok (p := 4) (L := 10) rfl (htk 4 rfl).1) (.t (.one (.own rfl)))) (ac (ole_ok (p := 4) (L := 10) rfl ((htk 4 rfl).2 0)) (ac (ole_ok (p := 4) (L := 10) rfl ((htk 4 rfl).2 1)) (ac (ole_ok (p := 4) (L := 10) rfl ((htk 4 rfl).2 2)) (ac (ole_ok (p := 4) (L := 10) rfl ((htk 4 rfl).2 3)) (ac (.cells (fun h => h) (all2_row _)) (ac (ole_ok (p := 4) (L := 10) rfl ((htk 4 rfl).2 5)) (ac (ole_ok (p := 4) (L := 10) rfl ((htk 4 rfl).2 6)) (ac (ole_ok (p := 4) (L := 10) rfl ((htk 4 rfl).2 7)) (ac (ole_ok (p := 4) (L := 10) rfl ((htk 4 rfl).2 8)) (ac (ole_ok (p := 4) (L := 10) rfl ((htk 4 rfl).2 9)) an))))))))))) k
     ·intro K rest fr hv htk k
      show AWops _ x _ _ K ⟨91, (upd 91 fr 4 (D.one (C.ref 0 0))), [(some (AObj.cells true (c_api_Case a0))), (hv 1), (hv 2), (hv 3), (hv 4), (hv 5), (hv 6), (hv 7), (hv 8), (hv 9)]⟩
      refine s_loadN (ds := (c_api_Case a0)) F.ag_25 F.sz_25 rfl rfl rfl k
     ·intro K rest fr hv htk k
      show AWops _ x _ _ K ⟨91, (upd 91 fr 2 (sc (.string a2))), _⟩
      refine s_move (d := (sc (.string a2))) rfl k
     ·intro K rest fr hv htk k
      show AWops _ x _ _ K ⟨91, (upd 91 (upd 91 fr 39 (sc (.string a2))) 38 (D.agg (c_api_Case a0))), [(hv 0), (hv 1), (hv 2), (hv 3), (hv 4), (hv 5), (hv 6), (hv 7), (hv 8), (hv 9)]⟩
      refine s_call2 (ρ := []) (br := false) (H2 := [(hv 0), (hv 1), (hv 2), (hv 3), (hv 4), (hv 5), (hv 6), (hv 7), (hv 8), (hv 9), (some (AObj.cells true (rowC e_api_Inst r8)))]) (d := (D.one (C.own 10 0 r8.length 6))) F.ca_10 rfl rfl (ac (LendT.aggL (ac .sc (ac .sc (ac .imm (ac .imm (ac .sc an)))))) (ac (.one .sc) an)) an (by decide) rfl (dossierref18_Kids.meets _ a0 a2 r8 er8) (.inl rfl) (by first | rfl | (simp only [mergeH2, orF, Bool.false_or, Bool.or_false, Bool.true_or, Bool.or_true, mergeAt, mergeObj, renO, ren_row, List.drop_succ_cons, List.drop_zero, List.map_cons, List.map_nil, Option.map_some, Option.map_none, List.length_cons, List.length_nil, Nat.zero_add, List.append_assoc, List.cons_append, List.nil_append]; done) | (simp only [mergeH2, orF, Bool.false_or, Bool.or_false, Bool.true_or, Bool.or_true, mergeAt, mergeObj, renO, ren_row, List.drop_succ_cons, List.drop_zero, List.map_cons, List.map_nil, Option.map_some, Option.map_none, List.length_cons, List.length_nil, Nat.zero_add, List.append_assoc, List.cons_append, List.nil_append]; rfl)) rfl ?_
      refine AWops.weak (st' := ⟨91, (upd 91 (upd 91 (upd 91 fr 39 (sc (.string a2))) 38 (D.agg (c_api_Case a0))) 40 (D.one (C.own 5 0 r8.length 6))), [(hv 0), (hv 1), (hv 2), (hv 3), (hv 4), (some (AObj.cells true (rowC e_api_Inst r8))), (hv 6), (hv 7), (hv 8), (hv 9)]⟩) (Weak.gen (kk := 0) [0, 1, 2, 3, 4, 10, 6, 7, 8, 9] [] hx rfl (by decide) (by decide) rfl rfl rfl (le_upd2 (le_ok (p := 5) (L := 10) rfl (htk 5 rfl).1) (.t (.one (.own rfl)))) (ac (ole_ok (p := 5) (L := 10) rfl ((htk 5 rfl).2 0)) (ac (ole_ok (p := 5) (L := 10) rfl ((htk 5 rfl).2 1)) (ac (ole_ok (p := 5) (L := 10) rfl ((htk 5 rfl).2 2)) (ac (ole_ok (p := 5) (L := 10) rfl ((htk 5 rfl).2 3)) (ac (ole_ok (p := 5) (L := 10) rfl ((htk 5 rfl).2 4)) (ac (.cells (fun h => h) (all2_row _)) (ac (ole_ok (p := 5) (L := 10) rfl ((htk 5 rfl).2 6)) (ac (ole_ok (p := 5) (L := 10) rfl ((htk 5 rfl).2 7)) (ac (ole_ok (p := 5) (L := 10) rfl ((htk 5 rfl).2 8)) (ac (ole_ok (p := 5) (L := 10) rfl ((htk 5 rfl).2 9)) an))))))))))) k
     ·intro K rest fr hv htk k
      show AWops _ x _ _ K ⟨91, (upd 91 (upd 91 fr 40 (D.one (C.own 5 0 r8.length 6))) 37 (D.one (C.own 4 0 r7.length 6))), [(hv 0), (hv 1), (hv 2), (hv 3), (some (AObj.cells true (rowC e_api_Inst r7))), (some (AObj.cells true (rowC e_api_Inst r8))), (hv 6), (hv 7), (hv 8), (hv 9)]⟩
      refine s_call2 (ρ := []) (br := true) (H2 := [(hv 0), (hv 1), (hv 2), (hv 3), (some (AObj.cells true (rowC e_api_Inst r7))), (some (AObj.cells true (rowC e_api_Inst r8))), (hv 6), (hv 7), (hv 8), (hv 9)]) (d := (sc (.bool r9))) F.ca_8 rfl rfl (ac (.one (LendC.bor e_api_Inst_len rfl rfl rfl)) (ac (.one (LendC.bor e_api_Inst_len rfl rfl rfl)) an)) an (by decide) rfl (dossierplain_SameInsts.meets _ r7 r8 r9 er9) (.inr ⟨rfl, rfl⟩) rfl rfl k
     ·intro K rest fr hv htk k
      show AWops _ x _ _ K ⟨91, (upd 91 fr 41 (sc (.bool r9))), _⟩
      refine s_move (d := (sc (.bool r9))) rfl k
     ·intro K rest fr hv htk k
      show AWops _ x _ _ K ⟨91, (upd 91 (upd 91 fr 42 (sc (.bool r9))) 4 (D.one (C.ref 0 0))), [(some (AObj.cells true (c_api_Case a0))), (hv 1), (hv 2), (hv 3), (hv 4), (hv 5), (hv 6), (hv 7), (hv 8), (hv 9)]⟩
      refine AWops.guard_yes rfl (nl rfl) rfl c10 ?_
      refine s_loadN (ds := (c_api_Case a0)) F.ag_25 F.sz_25 rfl rfl rfl k
     ·intro K rest fr hv htk k
      show AWops _ x _ _ K ⟨91, (upd 91 (upd 91 fr 42 (sc (.bool r9))) 2 (sc (.string a2))), _⟩
      refine AWops.guard_yes rfl (nl rfl) rfl c10 ?_
      refine s_move (d := (sc (.string a2))) rfl k
     ·intro K rest fr hv htk k
      show AWops _ x _ _ K ⟨91, (upd 91 (upd 91 (upd 91 fr 44 (sc (.string a2))) 43 (D.agg (c_api_Case a0))) 42 (sc (.bool r9))), [(hv 0), (hv 1), (hv 2), (hv 3), (hv 4), (hv 5), (hv 6), (hv 7), (hv 8), (hv 9)]⟩
      refine AWops.guard_yes rfl (nl rfl) rfl c10 ?_
      refine s_call2 (ρ := []) (br := false) (H2 := [(hv 0), (hv 1), (hv 2), (hv 3), (hv 4), (hv 5), (hv 6), (hv 7), (hv 8), (hv 9), (some (AObj.cells true (rowC e_api_Inst r11)))]) (d := (D.one (C.own 10 0 r11.length 6))) F.ca_11 rfl rfl (ac (LendT.aggL (ac .sc (ac .sc (ac .imm (ac .imm (ac .sc an)))))) (ac (.one .sc) an)) an (by decide) rfl (tree_Below.meets _ a0 a2 r11 er11) (.inl rfl) (by first | rfl | (simp only [mergeH2, orF, Bool.false_or, Bool.or_false, Bool.true_or, Bool.or_true, mergeAt, mergeObj, renO, ren_row, List.drop_succ_cons, List.drop_zero, List.map_cons, List.map_nil, Option.map_some, Option.map_none, List.length_cons, List.length_nil, Nat.zero_add, List.append_assoc, List.cons_append, List.nil_append]; done) | (simp only [mergeH2, orF, Bool.false_or, Bool.or_false, Bool.true_or, Bool.or_true, mergeAt, mergeObj, renO, ren_row, List.drop_succ_cons, List.drop_zero, List.map_cons, List.map_nil, Option.map_some, Option.map_none, List.length_cons, List.length_nil, Nat.zero_add, List.append_assoc, List.cons_append, List.nil_append]; rfl)) rfl ?_
      refine AWops.weak (st' := ⟨91, (upd 91 (upd 91 (upd 91 (upd 91 fr 44 (sc (.string a2))) 43 (D.agg (c_api_Case a0))) 42 (sc (.bool r9))) 45 (D.one (C.own 7 0 r11.length 6))), [(hv 0), (hv 1), (hv 2), (hv 3), (hv 4), (hv 5), (hv 6), (some (AObj.cells true (rowC e_api_Inst r11))), (hv 8), (hv 9)]⟩) (Weak.gen (kk := 0) [0, 1, 2, 3, 4, 5, 6, 10, 8, 9] [] hx rfl (by decide) (by decide) rfl rfl rfl (le_upd2 (le_ok (p := 7) (L := 10) rfl (htk 7 rfl).1) (.t (.one (.own rfl)))) (ac (ole_ok (p := 7) (L := 10) rfl ((htk 7 rfl).2 0)) (ac (ole_ok (p := 7) (L := 10) rfl ((htk 7 rfl).2 1)) (ac (ole_ok (p := 7) (L := 10) rfl ((htk 7 rfl).2 2)) (ac (ole_ok (p := 7) (L := 10) rfl ((htk 7 rfl).2 3)) (ac (ole_ok (p := 7) (L := 10) rfl ((htk 7 rfl).2 4)) (ac (ole_ok (p := 7) (L := 10) rfl ((htk 7 rfl).2 5)) (ac (ole_ok (p := 7) (L := 10) rfl ((htk 7 rfl).2 6)) (ac (.cells (fun h => h) (all2_row _)) (ac (ole_ok (p := 7) (L := 10) rfl ((htk 7 rfl).2 8)) (ac (ole_ok (p := 7) (L := 10) rfl ((htk 7 rfl).2 9)) an))))))))))) k
     ·intro K rest fr hv htk k
      show AWops _ x _ _ K ⟨91, (upd 91 (upd 91 fr 42 (sc (.bool r9))) 4 (D.one (C.ref 0 0))), [(some (AObj.cells true (c_api_Case a0))), (hv 1), (hv 2), (hv 3), (hv 4), (hv 5), (hv 6), (hv 7), (hv 8), (hv 9)]⟩
      refine AWops.guard_yes rfl (nl rfl) rfl c10 ?_
      refine s_loadN (ds := (c_api_Case a0)) F.ag_25 F.sz_25 rfl rfl rfl k
     ·intro K rest fr hv htk k
      show AWops _ x _ _ K ⟨91, (upd 91 (upd 91 fr 42 (sc (.bool r9))) 2 (sc (.string a2))), _⟩
      refine AWops.guard_yes rfl (nl rfl) rfl c10 ?_
      refine s_move (d := (sc (.string a2))) rfl k
     ·intro K rest fr hv htk k
      show AWops _ x _ _ K ⟨91, (upd 91 (upd 91 (upd 91 fr 47 (sc (.string a2))) 46 (D.agg (c_api_Case a0))) 42 (sc (.bool r9))), [(hv 0), (hv 1), (hv 2), (hv 3), (hv 4), (hv 5), (hv 6), (hv 7), (hv 8), (hv 9)]⟩
      refine AWops.guard_yes rfl (nl rfl) rfl c10 ?_
      refine s_call2 (ρ := []) (br := false) (H2 := [(hv 0), (hv 1), (hv 2), (hv 3), (hv 4), (hv 5), (hv 6), (hv 7), (hv 8), (hv 9), (some (AObj.cells true (rowC e_api_Inst r12)))]) (d := (D.one (C.own 10 0 r12.length 6))) F.ca_12 rfl rfl (ac (LendT.aggL (ac .sc (ac .sc (ac .imm (ac .imm (ac .sc an)))))) (ac (.one .sc) an)) an (by decide) rfl (dossierref18_Below.meets _ a0 a2 r12 er12) (.inl rfl) (by first | rfl | (simp only [mergeH2, orF, Bool.false_or, Bool.or_false, Bool.true_or, Bool.or_true, mergeAt, mergeObj, renO, ren_row, List.drop_succ_cons, List.drop_zero, List.map_cons, List.map_nil, Option.map_some, Option.map_none, List.length_cons, List.length_nil, Nat.zero_add, List.append_assoc, List.cons_append, List.nil_append]; done) | (simp only [mergeH2, orF, Bool.false_or, Bool.or_false, Bool.true_or, Bool.or_true, mergeAt, mergeObj, renO, ren_row, List.drop_succ_cons, List.drop_zero, List.map_cons, List.map_nil, Option.map_some, Option.map_none, List.length_cons, List.length_nil, Nat.zero_add, List.append_assoc, List.cons_append, List.nil_append]; rfl)) rfl ?_
      refine AWops.weak (st' := ⟨91, (upd 91 (upd 91 (upd 91 (upd 91 fr 47 (sc (.string a2))) 46 (D.agg (c_api_Case a0))) 42 (sc (.bool r9))) 48 (D.one (C.own 8 0 r12.length 6))), [(hv 0), (hv 1), (hv 2), (hv 3), (hv 4), (hv 5), (hv 6), (hv 7), (some (AObj.cells true (rowC e_api_Inst r12))), (hv 9)]⟩) (Weak.gen (kk := 0) [0, 1, 2, 3, 4, 5, 6, 7, 10, 9] [] hx rfl (by decide) (by decide) rfl rfl rfl (le_upd2 (le_ok (p := 8) (L := 10) rfl (htk 8 rfl).1) (.t (.one (.own rfl)))) (ac (ole_ok (p := 8) (L := 10) rfl ((htk 8 rfl).2 0)) (ac (ole_ok (p := 8) (L := 10) rfl ((htk 8 rfl).2 1)) (ac (ole_ok (p := 8) (L := 10) rfl ((htk 8 rfl).2 2)) (ac (ole_ok (p := 8) (L := 10) rfl ((htk 8 rfl).2 3)) (ac (ole_ok (p := 8) (L := 10) rfl ((htk 8 rfl).2 4)) (ac (ole_ok (p := 8) (L := 10) rfl ((htk 8 rfl).2 5)) (ac (ole_ok (p := 8) (L := 10) rfl ((htk 8 rfl).2 6)) (ac (ole_ok (p := 8) (L := 10) rfl ((htk 8 rfl).2 7)) (ac (.cells (fun h => h) (all2_row _)) (ac (ole_ok (p := 8) (L := 10) rfl ((htk 8 rfl).2 9)) an))))))))))) k
     ·intro K rest fr hv htk k
      show AWops _ x _ _ K ⟨91, (upd 91 (upd 91 (upd 91 fr 48 (D.one (C.own 8 0 r12.length 6))) 45 (D.one (C.own 7 0 r11.length 6))) 42 (sc (.bool r9))), [(hv 0), (hv 1), (hv 2), (hv 3), (hv 4), (hv 5), (hv 6), (some (AObj.cells true (rowC e_api_Inst r11))), (some (AObj.cells true (rowC e_api_Inst r12))), (hv 9)]⟩
      refine AWops.guard_yes rfl (nl rfl) rfl c10 ?_
      refine s_call2 (ρ := []) (br := true) (H2 := [(hv 0), (hv 1), (hv 2), (hv 3), (hv 4), (hv 5), (hv 6), (some (AObj.cells true (rowC e_api_Inst r11))), (some (AObj.cells true (rowC e_api_Inst r12))), (hv 9)]) (d := (sc (.bool r13))) F.ca_8 rfl rfl (ac (.one (LendC.bor e_api_Inst_len rfl rfl rfl)) (ac (.one (LendC.bor e_api_Inst_len rfl rfl rfl)) an)) an (by decide) rfl (dossierplain_SameInsts.meets _ r11 r12 r13 er13) (.inr ⟨rfl, rfl⟩) rfl rfl k
     ·intro K rest fr hv htk k
      show AWops _ x _ _ K ⟨91, (upd 91 (upd 91 fr 49 (sc (.bool r13))) 42 (sc (.bool r9))), _⟩
      refine s_pick_yes (d := (sc (.bool r13))) rfl c10 rfl k
     ·intro K rest fr hv htk k
      show AWops _ x _ _ K ⟨91, (upd 91 fr 50 (sc (.bool r13))), _⟩
      refine s_assign (d := (sc (.bool r13))) rfl k
    ·refine AWops.weak (st' := ⟨91, (upd 91 (upd 91 (upd 91 (upd 91 (upd 91 (upd 91 (upd 91 (upd 91 (upd 91 topF 2 (sc (.string a2))) 3 (sc (.string a3))) 4 (D.one (C.ref 0 0))) 5 (D.one (C.ref 1 0))) 9 (D.one (C.ref 2 0))) 10 (sc (.bool r5.2))) 11 (D.one (C.ref 3 0))) 12 (sc (.bool r6.2))) 13 (sc (.bool r13))), [(some (AObj.cells true (c_api_Case a0))), (some (AObj.cells true (c_api_Case a1))), (some (AObj.cells true (c_api_Inst r5.1))), (some (AObj.cells true (c_api_Inst r6.1)))]⟩) (Weak.gen (kk := 0) [0, 1, 2, 3] [] hx rfl (by decide) (by decide) rfl rfl rfl (le_upd (le_upd (le_upd (le_upd (le_upd (le_upd (le_upd (le_upd (le_upd (le_top _) (.t (.one .sc))) (.t (.one .sc))) (.t (.one (.ref rfl)))) (.t (.one (.ref rfl)))) (.t (.one (.ref rfl)))) (.t (.one .sc))) (.t (.one (.ref rfl)))) (.t (.one .sc))) (.t (.one .sc))) (ac (.cells (fun h => h) (ac .sc (ac .sc (ac .same (ac .same (ac .sc an)))))) (ac (.cells (fun h => h) (ac .sc (ac .sc (ac .same (ac .same (ac .sc an)))))) (ac (.cells (fun h => h) (ac .sc (ac .sc (ac .sc (ac .sc (ac .same (ac .sc an))))))) (ac (.cells (fun h => h) (ac .sc (ac .sc (ac .sc (ac .sc (ac .same (ac .sc an))))))) an))))) (AWops.nil (AW.seq ?_))
     refine AW.weak (st' := ⟨91, (upd 91 (upd 91 (upd 91 (upd 91 (upd 91 (upd 91 (upd 91 (upd 91 (upd 91 topF 2 (sc (.string a2))) 3 (sc (.string a3))) 4 (D.one (C.ref 0 0))) 5 (D.one (C.ref 1 0))) 9 (D.one (C.ref 2 0))) 10 (sc (.bool r5.2))) 11 (D.one (C.ref 3 0))) 12 (sc (.bool r6.2))) 13 (sc (.bool r13))), [(some (AObj.cells true (c_api_Case a0))), (some (AObj.cells true (c_api_Case a1))), (some (AObj.cells true (c_api_Inst r5.1))), (some (AObj.cells true (c_api_Inst r6.1)))]⟩) (Weak.gen (kk := 0) [0, 1, 2, 3] [] hx rfl (by decide) (by decide) rfl rfl rfl (le_upd (le_upd (le_upd (le_upd (le_upd (le_upd (le_upd (le_upd (le_upd (le_top _) (.t (.one .sc))) (.t (.one .sc))) (.t (.one (.ref rfl)))) (.t (.one (.ref rfl)))) (.t (.one (.ref rfl)))) (.t (.one .sc))) (.t (.one (.ref rfl)))) (.t (.one .sc))) (.t (.one .sc))) (ac (.cells (fun h => h) (ac .sc (ac .sc (ac .same (ac .same (ac .sc an)))))) (ac (.cells (fun h => h) (ac .sc (ac .sc (ac .same (ac .same (ac .sc an)))))) (ac (.cells (fun h => h) (ac .sc (ac .sc (ac .sc (ac .sc (ac .same (ac .sc an))))))) (ac (.cells (fun h => h) (ac .sc (ac .sc (ac .sc (ac .sc (ac .same (ac .sc an))))))) an))))) ?_
     rcases itH h with ⟨c14, h⟩ | ⟨c14, h⟩
     ·obtain ⟨r15, er15, h⟩ := bnd h
      rcases itH h with ⟨c16, h⟩ | ⟨c16, h⟩
      ·rcases itH h with ⟨c17, h⟩ | ⟨c17, h⟩
       ·obtain ⟨r18, er18, h⟩ := bnd h
        obtain ⟨r19, er19, h⟩ := bnd h
        rcases itH h with ⟨c20, h⟩ | ⟨c20, h⟩
        ·obtain ⟨r21, er21, h⟩ := bnd h
         obtain ⟨r22, er22, h⟩ := bnd h
         rcases itH h with ⟨c23, h⟩ | ⟨c23, h⟩
         ·obtain ⟨r24, er24, h⟩ := bnd h
          obtain ⟨r25, er25, h⟩ := bnd h
          rcases itH h with ⟨c26, h⟩ | ⟨c26, h⟩
          ·obtain ⟨r27, er27, h⟩ := bnd h
           refine AW.draw (n := 91) (L := 12) [(0, ⟨some 51, (sc (.bool r5.2)), [(10, (sc (.bool r5.2)))], [], [], none⟩), (1, ⟨some 52, (sc (.bool r6.2)), [(12, (sc (.bool r6.2)))], [], [], none⟩), (2, ⟨some 53, (sc (.bool (r5.2 == r6.2))), [(51, (sc (.bool r5.2))), (52, (sc (.bool r6.2)))], [], [], none⟩), (3, ⟨some 54, (sc (.bool (r5.2 == r6.2))), [(53, (sc (.bool (r5.2 == r6.2))))], [], [], none⟩), (4, ⟨some 55, (D.agg (c_api_Inst r5.1)), [(9, (D.one (C.ref 2 0))), (54, (sc (.bool (r5.2 == r6.2))))], [(2, (some (AObj.cells true (c_api_Inst r5.1))))], [], none⟩), (5, ⟨some 56, (D.agg (c_api_Inst r6.1)), [(11, (D.one (C.ref 3 0))), (54, (sc (.bool (r5.2 == r6.2))))], [(3, (some (AObj.cells true (c_api_Inst r6.1))))], [], none⟩), (6, ⟨some 57, (sc (.bool r15)), [(54, (sc (.bool (r5.2 == r6.2)))), (55, (D.agg (c_api_Inst r5.1))), (56, (D.agg (c_api_Inst r6.1)))], [], [], none⟩), (7, ⟨some 58, (sc (.bool r15)), [(54, (sc (.bool (r5.2 == r6.2)))), (57, (sc (.bool r15)))], [], [], none⟩), (8, ⟨some 59, (sc (.bool r15)), [(58, (sc (.bool r15)))], [], [], none⟩), (9, ⟨some 60, (sc (.bool r13)), [(13, (sc (.bool r13))), (59, (sc (.bool r15)))], [], [], none⟩), (10, ⟨some 61, (sc (.bool r13)), [(59, (sc (.bool r15))), (60, (sc (.bool r13)))], [], [], none⟩), (11, ⟨some 62, (sc (.bool r13)), [(61, (sc (.bool r13)))], [], [], none⟩), (12, ⟨some 63, (D.agg (c_api_Case a0)), [(4, (D.one (C.ref 0 0))), (62, (sc (.bool r13)))], [(0, (some (AObj.cells true (c_api_Case a0))))], [], none⟩), (13, ⟨some 64, (sc (.string a2)), [(2, (sc (.string a2))), (62, (sc (.bool r13)))], [], [], none⟩), (14, ⟨some 65, (sc (.string a3)), [(3, (sc (.string a3))), (62, (sc (.bool r13)))], [], [], none⟩), (15, ⟨some 66, (sc (.int .i64 r18)), [(62, (sc (.bool r13))), (63, (D.agg (c_api_Case a0))), (64, (sc (.string a2))), (65, (sc (.string a3)))], [], [], none⟩), (16, ⟨some 67, (D.agg (c_api_Case a0)), [(4, (D.one (C.ref 0 0))), (62, (sc (.bool r13)))], [(0, (some (AObj.cells true (c_api_Case a0))))], [], none⟩), (17, ⟨some 68, (sc (.string a2)), [(2, (sc (.string a2))), (62, (sc (.bool r13)))], [], [], none⟩), (18, ⟨some 69, (sc (.string a3)), [(3, (sc (.string a3))), (62, (sc (.bool r13)))], [], [], none⟩), (19, ⟨some 70, (sc (.int .i64 r19)), [(62, (sc (.bool r13))), (67, (D.agg (c_api_Case a0))), (68, (sc (.string a2))), (69, (sc (.string a3)))], [], [], none⟩), (20, ⟨some 71, (sc (.bool (r18 == r19))), [(62, (sc (.bool r13))), (66, (sc (.int .i64 r18))), (70, (sc (.int .i64 r19)))], [], [], none⟩), (21, ⟨some 72, (sc (.bool (r18 == r19))), [(62, (sc (.bool r13))), (71, (sc (.bool (r18 == r19))))], [], [], none⟩), (22, ⟨some 73, (sc (.bool (r18 == r19))), [(72, (sc (.bool (r18 == r19))))], [], [], none⟩), (23, ⟨some 74, (D.agg (c_api_Case a0)), [(4, (D.one (C.ref 0 0))), (73, (sc (.bool (r18 == r19))))], [(0, (some (AObj.cells true (c_api_Case a0))))], [], none⟩), (24, ⟨some 75, (D.agg (c_api_Case a1)), [(5, (D.one (C.ref 1 0))), (73, (sc (.bool (r18 == r19))))], [(1, (some (AObj.cells true (c_api_Case a1))))], [], none⟩), (25, ⟨some 76, (sc (.bool r21)), [(73, (sc (.bool (r18 == r19)))), (74, (D.agg (c_api_Case a0))), (75, (D.agg (c_api_Case a1)))], [], [], none⟩), (26, ⟨some 77, (D.agg (c_api_Case a0)), [(4, (D.one (C.ref 0 0))), (73, (sc (.bool (r18 == r19))))], [(0, (some (AObj.cells true (c_api_Case a0))))], [], none⟩), (27, ⟨some 78, (D.agg (c_api_Case a1)), [(5, (D.one (C.ref 1 0))), (73, (sc (.bool (r18 == r19))))], [(1, (some (AObj.cells true (c_api_Case a1))))], [], none⟩), (28, ⟨some 79, (sc (.bool r22)), [(73, (sc (.bool (r18 == r19)))), (77, (D.agg (c_api_Case a0))), (78, (D.agg (c_api_Case a1)))], [], [], none⟩), (29, ⟨some 80, (sc (.bool (r21 == r22))), [(73, (sc (.bool (r18 == r19)))), (76, (sc (.bool r21))), (79, (sc (.bool r22)))], [], [], none⟩), (30, ⟨some 81, (sc (.bool (r21 == r22))), [(73, (sc (.bool (r18 == r19)))), (80, (sc (.bool (r21 == r22))))], [], [], none⟩), (31, ⟨some 82, (sc (.bool (r21 == r22))), [(81, (sc (.bool (r21 == r22))))], [], [], none⟩), (32, ⟨some 83, (D.agg (c_api_Case a0)), [(4, (D.one (C.ref 0 0))), (82, (sc (.bool (r21 == r22))))], [(0, (some (AObj.cells true (c_api_Case a0))))], [], none⟩), (33, ⟨some 84, (D.agg (c_api_Case r24)), [(82, (sc (.bool (r21 == r22)))), (83, (D.agg (c_api_Case a0)))], [], [], none⟩), (34, ⟨some 85, (D.agg (c_api_Case a0)), [(4, (D.one (C.ref 0 0))), (82, (sc (.bool (r21 == r22))))], [(0, (some (AObj.cells true (c_api_Case a0))))], [], none⟩), (35, ⟨some 86, (sc (.bool r25)), [(82, (sc (.bool (r21 == r22)))), (84, (D.agg (c_api_Case r24))), (85, (D.agg (c_api_Case a0)))], [], [], none⟩), (36, ⟨some 87, (sc (.bool r25)), [(82, (sc (.bool (r21 == r22)))), (86, (sc (.bool r25)))], [], [], none⟩), (37, ⟨some 88, (sc (.bool r25)), [(87, (sc (.bool r25)))], [], [], none⟩), (38, ⟨some 89, (sc (.bool r27)), [(88, (sc (.bool r25)))], [], [], none⟩), (39, ⟨some 90, (sc (.bool r27)), [(88, (sc (.bool r25))), (89, (sc (.bool r27)))], [], [], none⟩), (40, ⟨some 8, (sc (.bool r27)), [(90, (sc (.bool r27)))], [], [], none⟩)] [[], [], [0, 1], [0, 1, 2], [0, 1, 2, 3], [0, 1, 2, 3], [0, 1, 2, 3, 4, 5], [0, 1, 2, 3, 4, 5, 6], [0, 1, 2, 3, 4, 5, 6, 7], [0, 1, 2, 3, 4, 5, 6, 7, 8], [0, 1, 2, 3, 4, 5, 6, 7, 8, 9], [0, 1, 2, 3, 4, 5, 6, 7, 8, 9, 10], [0, 1, 2, 3, 4, 5, 6, 7, 8, 9, 10, 11], [0, 1, 2, 3, 4, 5, 6, 7, 8, 9, 10, 11], [0, 1, 2, 3, 4, 5, 6, 7, 8, 9, 10, 11], [0, 1, 2, 3, 4, 5, 6, 7, 8, 9, 10, 11, 12, 13, 14], [0, 1, 2, 3, 4, 5, 6, 7, 8, 9, 10, 11], [0, 1, 2, 3, 4, 5, 6, 7, 8, 9, 10, 11], [0, 1, 2, 3, 4, 5, 6, 7, 8, 9, 10, 11], [0, 1, 2, 3, 4, 5, 6, 7, 8, 9, 10, 11, 12, 13, 14, 15, 16, 17, 18], [0, 1, 2, 3, 4, 5, 6, 7, 8, 9, 10, 11, 12, 13, 14, 15, 16, 17, 18, 19], [0, 1, 2, 3, 4, 5, 6, 7, 8, 9, 10, 11, 12, 13, 14, 15, 16, 17, 18, 19, 20], [0, 1, 2, 3, 4, 5, 6, 7, 8, 9, 10, 11, 12, 13, 14, 15, 16, 17, 18, 19, 20, 21], [0, 1, 2, 3, 4, 5, 6, 7, 8, 9, 10, 11, 12, 13, 14, 15, 16, 17, 18, 19, 20, 21, 22], [0, 1, 2, 3, 4, 5, 6, 7, 8, 9, 10, 11, 12, 13, 14, 15, 16, 17, 18, 19, 20, 21, 22], [0, 1, 2, 3, 4, 5, 6, 7, 8, 9, 10, 11, 12, 13, 14, 15, 16, 17, 18, 19, 20, 21, 22, 23, 24], [0, 1, 2, 3, 4, 5, 6, 7, 8, 9, 10, 11, 12, 13, 14, 15, 16, 17, 18, 19, 20, 21, 22], [0, 1, 2, 3, 4, 5, 6, 7, 8, 9, 10, 11, 12, 13, 14, 15, 16, 17, 18, 19, 20, 21, 22], [0, 1, 2, 3, 4, 5, 6, 7, 8, 9, 10, 11, 12, 13, 14, 15, 16, 17, 18, 19, 20, 21, 22, 23, 24, 25, 26, 27], [0, 1, 2, 3, 4, 5, 6, 7, 8, 9, 10, 11, 12, 13, 14, 15, 16, 17, 18, 19, 20, 21, 22, 23, 24, 25, 26, 27, 28], [0, 1, 2, 3, 4, 5, 6, 7, 8, 9, 10, 11, 12, 13, 14, 15, 16, 17, 18, 19, 20, 21, 22, 23, 24, 25, 26, 27, 28, 29], [0, 1, 2, 3, 4, 5, 6, 7, 8, 9, 10, 11, 12, 13, 14, 15, 16, 17, 18, 19, 20, 21, 22, 23, 24, 25, 26, 27, 28, 29, 30], [0, 1, 2, 3, 4, 5, 6, 7, 8, 9, 10, 11, 12, 13, 14, 15, 16, 17, 18, 19, 20, 21, 22, 23, 24, 25, 26, 27, 28, 29, 30, 31], [0, 1, 2, 3, 4, 5, 6, 7, 8, 9, 10, 11, 12, 13, 14, 15, 16, 17, 18, 19, 20, 21, 22, 23, 24, 25, 26, 27, 28, 29, 30, 31, 32], [0, 1, 2, 3, 4, 5, 6, 7, 8, 9, 10, 11, 12, 13, 14, 15, 16, 17, 18, 19, 20, 21, 22, 23, 24, 25, 26, 27, 28, 29, 30, 31], [0, 1, 2, 3, 4, 5, 6, 7, 8, 9, 10, 11, 12, 13, 14, 15, 16, 17, 18, 19, 20, 21, 22, 23, 24, 25, 26, 27, 28, 29, 30, 31, 32, 33, 34], [0, 1, 2, 3, 4, 5, 6, 7, 8, 9, 10, 11, 12, 13, 14, 15, 16, 17, 18, 19, 20, 21, 22, 23, 24, 25, 26, 27, 28, 29, 30, 31, 32, 33, 34, 35], [0, 1, 2, 3, 4, 5, 6, 7, 8, 9, 10, 11, 12, 13, 14, 15, 16, 17, 18, 19, 20, 21, 22, 23, 24, 25, 26, 27, 28, 29, 30, 31, 32, 33, 34, 35, 36], [0, 1, 2, 3, 4, 5, 6, 7, 8, 9, 10, 11, 12, 13, 14, 15, 16, 17, 18, 19, 20, 21, 22, 23, 24, 25, 26, 27, 28, 29, 30, 31, 32, 33, 34, 35, 36, 37], [0, 1, 2, 3, 4, 5, 6, 7, 8, 9, 10, 11, 12, 13, 14, 15, 16, 17, 18, 19, 20, 21, 22, 23, 24, 25, 26, 27, 28, 29, 30, 31, 32, 33, 34, 35, 36, 37, 38], [0, 1, 2, 3, 4, 5, 6, 7, 8, 9, 10, 11, 12, 13, 14, 15, 16, 17, 18, 19, 20, 21, 22, 23, 24, 25, 26, 27, 28, 29, 30, 31, 32, 33, 34, 35, 36, 37, 38, 39]] (nl rfl) [0, 0, 1, 2, 3, 3, 4, 5, 6, 7, 8, 9, 10, 10, 10, 11, 10, 10, 10, 12, 13, 14, 15, 16, 16, 17, 16, 16, 18, 19, 20, 21, 22, 23, 22, 24, 25, 26, 27, 28, 29] rfl (TK := []) rfl AllK.nil' (fC ⟨(sC rfl AllS.nil'), AllH.nil'⟩ (fC ⟨(sC rfl AllS.nil'), AllH.nil'⟩ (fC ⟨(sC rfl (sC rfl AllS.nil')), AllH.nil'⟩ (fC ⟨(sC rfl AllS.nil'), AllH.nil'⟩ (fC ⟨(sC rfl (sC rfl AllS.nil')), (hC rfl AllH.nil')⟩ (fC ⟨(sC rfl (sC rfl AllS.nil')), (hC rfl AllH.nil')⟩ (fC ⟨(sC rfl (sC rfl (sC rfl AllS.nil'))), AllH.nil'⟩ (fC ⟨(sC rfl (sC rfl AllS.nil')), AllH.nil'⟩ (fC ⟨(sC rfl AllS.nil'), AllH.nil'⟩ (fC ⟨(sC rfl (sC rfl AllS.nil')), AllH.nil'⟩ (fC ⟨(sC rfl (sC rfl AllS.nil')), AllH.nil'⟩ (fC ⟨(sC rfl AllS.nil'), AllH.nil'⟩ (fC ⟨(sC rfl (sC rfl AllS.nil')), (hC rfl AllH.nil')⟩ (fC ⟨(sC rfl (sC rfl AllS.nil')), AllH.nil'⟩ (fC ⟨(sC rfl (sC rfl AllS.nil')), AllH.nil'⟩ (fC ⟨(sC rfl (sC rfl (sC rfl (sC rfl AllS.nil')))), AllH.nil'⟩ (fC ⟨(sC rfl (sC rfl AllS.nil')), (hC rfl AllH.nil')⟩ (fC ⟨(sC rfl (sC rfl AllS.nil')), AllH.nil'⟩ (fC ⟨(sC rfl (sC rfl AllS.nil')), AllH.nil'⟩ (fC ⟨(sC rfl (sC rfl (sC rfl (sC rfl AllS.nil')))), AllH.nil'⟩ (fC ⟨(sC rfl (sC rfl (sC rfl AllS.nil'))), AllH.nil'⟩ (fC ⟨(sC rfl (sC rfl AllS.nil')), AllH.nil'⟩ (fC ⟨(sC rfl AllS.nil'), AllH.nil'⟩ (fC ⟨(sC rfl (sC rfl AllS.nil')), (hC rfl AllH.nil')⟩ (fC ⟨(sC rfl (sC rfl AllS.nil')), (hC rfl AllH.nil')⟩ (fC ⟨(sC rfl (sC rfl (sC rfl AllS.nil'))), AllH.nil'⟩ (fC ⟨(sC rfl (sC rfl AllS.nil')), (hC rfl AllH.nil')⟩ (fC ⟨(sC rfl (sC rfl AllS.nil')), (hC rfl AllH.nil')⟩ (fC ⟨(sC rfl (sC rfl (sC rfl AllS.nil'))), AllH.nil'⟩ (fC ⟨(sC rfl (sC rfl (sC rfl AllS.nil'))), AllH.nil'⟩ (fC ⟨(sC rfl (sC rfl AllS.nil')), AllH.nil'⟩ (fC ⟨(sC rfl AllS.nil'), AllH.nil'⟩ (fC ⟨(sC rfl (sC rfl AllS.nil')), (hC rfl AllH.nil')⟩ (fC ⟨(sC rfl (sC rfl AllS.nil')), AllH.nil'⟩ (fC ⟨(sC rfl (sC rfl AllS.nil')), (hC rfl AllH.nil')⟩ (fC ⟨(sC rfl (sC rfl (sC rfl AllS.nil'))), AllH.nil'⟩ (fC ⟨(sC rfl (sC rfl AllS.nil')), AllH.nil'⟩ (fC ⟨(sC rfl AllS.nil'), AllH.nil'⟩ (fC ⟨(sC rfl AllS.nil'), AllH.nil'⟩ (fC ⟨(sC rfl (sC rfl AllS.nil')), AllH.nil'⟩ (fC ⟨(sC rfl AllS.nil'), AllH.nil'⟩ AllF.nil'))))))))))))))))))))))))))))))))))))))))) ?_ ?_
           ·refine (pC ?_ (pC ?_ (pC ?_ (pC ?_ (pC ?_ (pC ?_ (pC ?_ (pC ?_ (pC ?_ (pC ?_ (pC ?_ (pC ?_ (pC ?_ (pC ?_ (pC ?_ (pC ?_ (pC ?_ (pC ?_ (pC ?_ (pC ?_ (pC ?_ (pC ?_ (pC ?_ (pC ?_ (pC ?_ (pC ?_ (pC ?_ (pC ?_ (pC ?_ (pC ?_ (pC ?_ (pC ?_ (pC ?_ (pC ?_ (pC ?_ (pC ?_ (pC ?_ (pC ?_ (pC ?_ (pC ?_ (pC ?_ AllStep.nil')))))))))))))))))))))))))))))))))))))))))
            ·intro K rest fr hv htk k
             show AWops _ x _ _ K ⟨91, (upd 91 fr 10 (sc (.bool r5.2))), _⟩
             refine s_move (d := (sc (.bool r5.2))) rfl k
            ·intro K rest fr hv htk k
             show AWops _ x _ _ K ⟨91, (upd 91 fr 12 (sc (.bool r6.2))), _⟩
             refine s_move (d := (sc (.bool r6.2))) rfl k
            ·intro K rest fr hv htk k
             show AWops _ x _ _ K ⟨91, (upd 91 (upd 91 fr 52 (sc (.bool r6.2))) 51 (sc (.bool r5.2))), _⟩
             refine s_binB (b := (r5.2 == r6.2)) F.u_4 rfl rfl (.inl ⟨rfl, rfl⟩) k
            ·intro K rest fr hv htk k
             show AWops _ x _ _ K ⟨91, (upd 91 fr 53 (sc (.bool (r5.2 == r6.2)))), _⟩
             refine s_move (d := (sc (.bool (r5.2 == r6.2)))) rfl k
            ·intro K rest fr hv htk k
             show AWops _ x _ _ K ⟨91, (upd 91 (upd 91 fr 54 (sc (.bool (r5.2 == r6.2)))) 9 (D.one (C.ref 2 0))), [(hv 0), (hv 1), (some (AObj.cells true (c_api_Inst r5.1))), (hv 3), (hv 4), (hv 5), (hv 6), (hv 7), (hv 8), (hv 9), (hv 10), (hv 11)]⟩
             refine AWops.guard_yes rfl (nl rfl) rfl c14 ?_
             refine s_loadN (ds := (c_api_Inst r5.1)) F.ag_30 F.sz_30 rfl rfl rfl k
            ·intro K rest fr hv htk k
             show AWops _ x _ _ K ⟨91, (upd 91 (upd 91 fr 54 (sc (.bool (r5.2 == r6.2)))) 11 (D.one (C.ref 3 0))), [(hv 0), (hv 1), (hv 2), (some (AObj.cells true (c_api_Inst r6.1))), (hv 4), (hv 5), (hv 6), (hv 7), (hv 8), (hv 9), (hv 10), (hv 11)]⟩
             refine AWops.guard_yes rfl (nl rfl) rfl c14 ?_
             refine s_loadN (ds := (c_api_Inst r6.1)) F.ag_30 F.sz_30 rfl rfl rfl k
            ·intro K rest fr hv htk k
             show AWops _ x _ _ K ⟨91, (upd 91 (upd 91 (upd 91 fr 56 (D.agg (c_api_Inst r6.1))) 55 (D.agg (c_api_Inst r5.1))) 54 (sc (.bool (r5.2 == r6.2)))), [(hv 0), (hv 1), (hv 2), (hv 3), (hv 4), (hv 5), (hv 6), (hv 7), (hv 8), (hv 9), (hv 10), (hv 11)]⟩
             refine AWops.guard_yes rfl (nl rfl) rfl c14 ?_
             refine s_call2 (ρ := []) (br := false) (H2 := [(hv 0), (hv 1), (hv 2), (hv 3), (hv 4), (hv 5), (hv 6), (hv 7), (hv 8), (hv 9), (hv 10), (hv 11)]) (d := (sc (.bool r15))) F.ca_13 rfl rfl (ac (LendT.aggL (ac .sc (ac .sc (ac .sc (ac .sc (ac .imm (ac .sc an))))))) (ac (LendT.aggL (ac .sc (ac .sc (ac .sc (ac .sc (ac .imm (ac .sc an))))))) an)) an (by decide) rfl (dossierref18_SameInst.meets _ r5.1 r6.1 r15 er15) (.inl rfl) rfl rfl k
            ·intro K rest fr hv htk k
             show AWops _ x _ _ K ⟨91, (upd 91 (upd 91 fr 57 (sc (.bool r15))) 54 (sc (.bool (r5.2 == r6.2)))), _⟩
             refine s_pick_yes (d := (sc (.bool r15))) rfl c14 rfl k
            ·intro K rest fr hv htk k
             show AWops _ x _ _ K ⟨91, (upd 91 fr 58 (sc (.bool r15))), _⟩
             refine s_move (d := (sc (.bool r15))) rfl k
            ·intro K rest fr hv htk k
             show AWops _ x _ _ K ⟨91, (upd 91 (upd 91 fr 59 (sc (.bool r15))) 13 (sc (.bool r13))), _⟩
             refine AWops.guard_yes rfl (nl rfl) rfl c16 ?_
             refine s_move (d := (sc (.bool r13))) rfl k
            ·intro K rest fr hv htk k
             show AWops _ x _ _ K ⟨91, (upd 91 (upd 91 fr 60 (sc (.bool r13))) 59 (sc (.bool r15))), _⟩
             refine s_pick_yes (d := (sc (.bool r13))) rfl c16 rfl k
            ·intro K rest fr hv htk k
             show AWops _ x _ _ K ⟨91, (upd 91 fr 61 (sc (.bool r13))), _⟩
             refine s_move (d := (sc (.bool r13))) rfl k
            ·intro K rest fr hv htk k
             show AWops _ x _ _ K ⟨91, (upd 91 (upd 91 fr 62 (sc (.bool r13))) 4 (D.one (C.ref 0 0))), [(some (AObj.cells true (c_api_Case a0))), (hv 1), (hv 2), (hv 3), (hv 4), (hv 5), (hv 6), (hv 7), (hv 8), (hv 9), (hv 10), (hv 11)]⟩
             refine AWops.guard_yes rfl (nl rfl) rfl c17 ?_
             refine s_loadN (ds := (c_api_Case a0)) F.ag_25 F.sz_25 rfl rfl rfl k
            ·intro K rest fr hv htk k
             show AWops _ x _ _ K ⟨91, (upd 91 (upd 91 fr 62 (sc (.bool r13))) 2 (sc (.string a2))), _⟩
             refine AWops.guard_yes rfl (nl rfl) rfl c17 ?_
             refine s_move (d := (sc (.string a2))) rfl k
            ·intro K rest fr hv htk k
             show AWops _ x _ _ K ⟨91, (upd 91 (upd 91 fr 62 (sc (.bool r13))) 3 (sc (.string a3))), _⟩
             refine AWops.guard_yes rfl (nl rfl) rfl c17 ?_
             refine s_move (d := (sc (.string a3))) rfl k
            ·intro K rest fr hv htk k
             show AWops _ x _ _ K ⟨91, (upd 91 (upd 91 (upd 91 (upd 91 fr 65 (sc (.string a3))) 64 (sc (.string a2))) 63 (D.agg (c_api_Case a0))) 62 (sc (.bool r13))), [(hv 0), (hv 1), (hv 2), (hv 3), (hv 4), (hv 5), (hv 6), (hv 7), (hv 8), (hv 9), (hv 10), (hv 11)]⟩
             refine AWops.guard_yes rfl (nl rfl) rfl c17 ?_
             refine s_call2 (ρ := []) (br := false) (H2 := [(hv 0), (hv 1), (hv 2), (hv 3), (hv 4), (hv 5), (hv 6), (hv 7), (hv 8), (hv 9), (hv 10), (hv 11)]) (d := (sc (.int .i64 r18))) F.ca_14 rfl rfl (ac (LendT.aggL (ac .sc (ac .sc (ac .imm (ac .imm (ac .sc an)))))) (ac (.one .sc) (ac (.one .sc) an))) an (by decide) rfl (tree_Next.meets _ a0 a2 a3 r18 er18) (.inl rfl) rfl rfl k
            ·intro K rest fr hv htk k
             show AWops _ x _ _ K ⟨91, (upd 91 (upd 91 fr 62 (sc (.bool r13))) 4 (D.one (C.ref 0 0))), [(some (AObj.cells true (c_api_Case a0))), (hv 1), (hv 2), (hv 3), (hv 4), (hv 5), (hv 6), (hv 7), (hv 8), (hv 9), (hv 10), (hv 11)]⟩
             refine AWops.guard_yes rfl (nl rfl) rfl c17 ?_
             refine s_loadN (ds := (c_api_Case a0)) F.ag_25 F.sz_25 rfl rfl rfl k
            ·intro K rest fr hv htk k
             show AWops _ x _ _ K ⟨91, (upd 91 (upd 91 fr 62 (sc (.bool r13))) 2 (sc (.string a2))), _⟩
             refine AWops.guard_yes rfl (nl rfl) rfl c17 ?_
             refine s_move (d := (sc (.string a2))) rfl k
            ·intro K rest fr hv htk k
             show AWops _ x _ _ K ⟨91, (upd 91 (upd 91 fr 62 (sc (.bool r13))) 3 (sc (.string a3))), _⟩
             refine AWops.guard_yes rfl (nl rfl) rfl c17 ?_
             refine s_move (d := (sc (.string a3))) rfl k
            ·intro K rest fr hv htk k
             show AWops _ x _ _ K ⟨91, (upd 91 (upd 91 (upd 91 (upd 91 fr 69 (sc (.string a3))) 68 (sc (.string a2))) 67 (D.agg (c_api_Case a0))) 62 (sc (.bool r13))), [(hv 0), (hv 1), (hv 2), (hv 3), (hv 4), (hv 5), (hv 6), (hv 7), (hv 8), (hv 9), (hv 10), (hv 11)]⟩
             refine AWops.guard_yes rfl (nl rfl) rfl c17 ?_
             refine s_call2 (ρ := []) (br := false) (H2 := [(hv 0), (hv 1), (hv 2), (hv 3), (hv 4), (hv 5), (hv 6), (hv 7), (hv 8), (hv 9), (hv 10), (hv 11)]) (d := (sc (.int .i64 r19))) F.ca_15 rfl rfl (ac (LendT.aggL (ac .sc (ac .sc (ac .imm (ac .imm (ac .sc an)))))) (ac (.one .sc) (ac (.one .sc) an))) an (by decide) rfl (dossierref18_Next.meets _ a0 a2 a3 r19 er19) (.inl rfl) rfl rfl k
            ·intro K rest fr hv htk k
             show AWops _ x _ _ K ⟨91, (upd 91 (upd 91 (upd 91 fr 70 (sc (.int .i64 r19))) 66 (sc (.int .i64 r18))) 62 (sc (.bool r13))), _⟩
             refine AWops.guard_yes rfl (nl rfl) rfl c17 ?_
             refine s_binI (v := (.bool (r18 == r19))) rfl rfl rfl k
            ·intro K rest fr hv htk k
             show AWops _ x _ _ K ⟨91, (upd 91 (upd 91 fr 71 (sc (.bool (r18 == r19)))) 62 (sc (.bool r13))), _⟩
             refine s_pick_yes (d := (sc (.bool (r18 == r19)))) rfl c17 rfl k
            ·intro K rest fr hv htk k
             show AWops _ x _ _ K ⟨91, (upd 91 fr 72 (sc (.bool (r18 == r19)))), _⟩
             refine s_move (d := (sc (.bool (r18 == r19)))) rfl k
            ·intro K rest fr hv htk k
             show AWops _ x _ _ K ⟨91, (upd 91 (upd 91 fr 73 (sc (.bool (r18 == r19)))) 4 (D.one (C.ref 0 0))), [(some (AObj.cells true (c_api_Case a0))), (hv 1), (hv 2), (hv 3), (hv 4), (hv 5), (hv 6), (hv 7), (hv 8), (hv 9), (hv 10), (hv 11)]⟩
             refine AWops.guard_yes rfl (nl rfl) rfl c20 ?_
             refine s_loadN (ds := (c_api_Case a0)) F.ag_25 F.sz_25 rfl rfl rfl k
            ·intro K rest fr hv htk k
             show AWops _ x _ _ K ⟨91, (upd 91 (upd 91 fr 73 (sc (.bool (r18 == r19)))) 5 (D.one (C.ref 1 0))), [(hv 0), (some (AObj.cells true (c_api_Case a1))), (hv 2), (hv 3), (hv 4), (hv 5), (hv 6), (hv 7), (hv 8), (hv 9), (hv 10), (hv 11)]⟩
             refine AWops.guard_yes rfl (nl rfl) rfl c20 ?_
             refine s_loadN (ds := (c_api_Case a1)) F.ag_25 F.sz_25 rfl rfl rfl k
            ·intro K rest fr hv htk k
             show AWops _ x _ _ K ⟨91, (upd 91 (upd 91 (upd 91 fr 75 (D.agg (c_api_Case a1))) 74 (D.agg (c_api_Case a0))) 73 (sc (.bool (r18 == r19)))), [(hv 0), (hv 1), (hv 2), (hv 3), (hv 4), (hv 5), (hv 6), (hv 7), (hv 8), (hv 9), (hv 10), (hv 11)]⟩
             refine AWops.guard_yes rfl (nl rfl) rfl c20 ?_
             refine s_call2 (ρ := []) (br := false) (H2 := [(hv 0), (hv 1), (hv 2), (hv 3), (hv 4), (hv 5), (hv 6), (hv 7), (hv 8), (hv 9), (hv 10), (hv 11)]) (d := (sc (.bool r21))) F.ca_16 rfl rfl (ac (LendT.aggL (ac .sc (ac .sc (ac .imm (ac .imm (ac .sc an)))))) (ac (LendT.aggL (ac .sc (ac .sc (ac .imm (ac .imm (ac .sc an)))))) an)) an (by decide) rfl (tree_Same.meets _ a0 a1 r21 er21) (.inl rfl) rfl rfl k
            ·intro K rest fr hv htk k
             show AWops _ x _ _ K ⟨91, (upd 91 (upd 91 fr 73 (sc (.bool (r18 == r19)))) 4 (D.one (C.ref 0 0))), [(some (AObj.cells true (c_api_Case a0))), (hv 1), (hv 2), (hv 3), (hv 4), (hv 5), (hv 6), (hv 7), (hv 8), (hv 9), (hv 10), (hv 11)]⟩
             refine AWops.guard_yes rfl (nl rfl) rfl c20 ?_
             refine s_loadN (ds := (c_api_Case a0)) F.ag_25 F.sz_25 rfl rfl rfl k
            ·intro K rest fr hv htk k
             show AWops _ x _ _ K ⟨91, (upd 91 (upd 91 fr 73 (sc (.bool (r18 == r19)))) 5 (D.one (C.ref 1 0))), [(hv 0), (some (AObj.cells true (c_api_Case a1))), (hv 2), (hv 3), (hv 4), (hv 5), (hv 6), (hv 7), (hv 8), (hv 9), (hv 10), (hv 11)]⟩
             refine AWops.guard_yes rfl (nl rfl) rfl c20 ?_
             refine s_loadN (ds := (c_api_Case a1)) F.ag_25 F.sz_25 rfl rfl rfl k
            ·intro K rest fr hv htk k
             show AWops _ x _ _ K ⟨91, (upd 91 (upd 91 (upd 91 fr 78 (D.agg (c_api_Case a1))) 77 (D.agg (c_api_Case a0))) 73 (sc (.bool (r18 == r19)))), [(hv 0), (hv 1), (hv 2), (hv 3), (hv 4), (hv 5), (hv 6), (hv 7), (hv 8), (hv 9), (hv 10), (hv 11)]⟩
             refine AWops.guard_yes rfl (nl rfl) rfl c20 ?_
             refine s_call2 (ρ := []) (br := false) (H2 := [(hv 0), (hv 1), (hv 2), (hv 3), (hv 4), (hv 5), (hv 6), (hv 7), (hv 8), (hv 9), (hv 10), (hv 11)]) (d := (sc (.bool r22))) F.ca_17 rfl rfl (ac (LendT.aggL (ac .sc (ac .sc (ac .imm (ac .imm (ac .sc an)))))) (ac (LendT.aggL (ac .sc (ac .sc (ac .imm (ac .imm (ac .sc an)))))) an)) an (by decide) rfl (dossierref18_Same.meets _ a0 a1 r22 er22) (.inl rfl) rfl rfl k
            ·intro K rest fr hv htk k
             show AWops _ x _ _ K ⟨91, (upd 91 (upd 91 (upd 91 fr 79 (sc (.bool r22))) 76 (sc (.bool r21))) 73 (sc (.bool (r18 == r19)))), _⟩
             refine AWops.guard_yes rfl (nl rfl) rfl c20 ?_
             refine s_binB (b := (r21 == r22)) F.u_4 rfl rfl (.inl ⟨rfl, rfl⟩) k
            ·intro K rest fr hv htk k
             show AWops _ x _ _ K ⟨91, (upd 91 (upd 91 fr 80 (sc (.bool (r21 == r22)))) 73 (sc (.bool (r18 == r19)))), _⟩
             refine s_pick_yes (d := (sc (.bool (r21 == r22)))) rfl c20 rfl k
            ·intro K rest fr hv htk k
             show AWops _ x _ _ K ⟨91, (upd 91 fr 81 (sc (.bool (r21 == r22)))), _⟩
             refine s_move (d := (sc (.bool (r21 == r22)))) rfl k
            ·intro K rest fr hv htk k
             show AWops _ x _ _ K ⟨91, (upd 91 (upd 91 fr 82 (sc (.bool (r21 == r22)))) 4 (D.one (C.ref 0 0))), [(some (AObj.cells true (c_api_Case a0))), (hv 1), (hv 2), (hv 3), (hv 4), (hv 5), (hv 6), (hv 7), (hv 8), (hv 9), (hv 10), (hv 11)]⟩
             refine AWops.guard_yes rfl (nl rfl) rfl c23 ?_
             refine s_loadN (ds := (c_api_Case a0)) F.ag_25 F.sz_25 rfl rfl rfl k
            ·intro K rest fr hv htk k
             show AWops _ x _ _ K ⟨91, (upd 91 (upd 91 fr 83 (D.agg (c_api_Case a0))) 82 (sc (.bool (r21 == r22)))), [(hv 0), (hv 1), (hv 2), (hv 3), (hv 4), (hv 5), (hv 6), (hv 7), (hv 8), (hv 9), (hv 10), (hv 11)]⟩
             refine AWops.guard_yes rfl (nl rfl) rfl c23 ?_
             refine s_call2 (ρ := []) (br := false) (H2 := [(hv 0), (hv 1), (hv 2), (hv 3), (hv 4), (hv 5), (hv 6), (hv 7), (hv 8), (hv 9), (hv 10), (hv 11)]) (d := (D.agg (c_api_Case r24))) F.ca_18 rfl rfl (ac (LendT.aggL (ac .sc (ac .sc (ac .imm (ac .imm (ac .sc an)))))) an) an (by decide) rfl (tree_Copy.meets _ a0 r24 er24) (.inl rfl) rfl rfl k
            ·intro K rest fr hv htk k
             show AWops _ x _ _ K ⟨91, (upd 91 (upd 91 fr 82 (sc (.bool (r21 == r22)))) 4 (D.one (C.ref 0 0))), [(some (AObj.cells true (c_api_Case a0))), (hv 1), (hv 2), (hv 3), (hv 4), (hv 5), (hv 6), (hv 7), (hv 8), (hv 9), (hv 10), (hv 11)]⟩
             refine AWops.guard_yes rfl (nl rfl) rfl c23 ?_
             refine s_loadN (ds := (c_api_Case a0)) F.ag_25 F.sz_25 rfl rfl rfl k
            ·intro K rest fr hv htk k
             show AWops _ x _ _ K ⟨91, (upd 91 (upd 91 (upd 91 fr 85 (D.agg (c_api_Case a0))) 84 (D.agg (c_api_Case r24))) 82 (sc (.bool (r21 == r22)))), [(hv 0), (hv 1), (hv 2), (hv 3), (hv 4), (hv 5), (hv 6), (hv 7), (hv 8), (hv 9), (hv 10), (hv 11)]⟩
             refine AWops.guard_yes rfl (nl rfl) rfl c23 ?_
             refine s_call2 (ρ := []) (br := false) (H2 := [(hv 0), (hv 1), (hv 2), (hv 3), (hv 4), (hv 5), (hv 6), (hv 7), (hv 8), (hv 9), (hv 10), (hv 11)]) (d := (sc (.bool r25))) F.ca_17 rfl rfl (ac (LendT.aggL (ac .sc (ac .sc (ac .imm (ac .imm (ac .sc an)))))) (ac (LendT.aggL (ac .sc (ac .sc (ac .imm (ac .imm (ac .sc an)))))) an)) an (by decide) rfl (dossierref18_Same.meets _ r24 a0 r25 er25) (.inl rfl) rfl rfl k
            ·intro K rest fr hv htk k
             show AWops _ x _ _ K ⟨91, (upd 91 (upd 91 fr 86 (sc (.bool r25))) 82 (sc (.bool (r21 == r22)))), _⟩
             refine s_pick_yes (d := (sc (.bool r25))) rfl c23 rfl k
            ·intro K rest fr hv htk k
             show AWops _ x _ _ K ⟨91, (upd 91 fr 87 (sc (.bool r25))), _⟩
             refine s_move (d := (sc (.bool r25))) rfl k
            ·intro K rest fr hv htk k
             show AWops _ x _ _ K ⟨91, (upd 91 fr 88 (sc (.bool r25))), [(hv 0), (hv 1), (hv 2), (hv 3), (hv 4), (hv 5), (hv 6), (hv 7), (hv 8), (hv 9), (hv 10), (hv 11)]⟩
             refine AWops.guard_yes rfl (nl rfl) rfl c26 ?_
             refine s_call2 (ρ := []) (br := false) (H2 := [(hv 0), (hv 1), (hv 2), (hv 3), (hv 4), (hv 5), (hv 6), (hv 7), (hv 8), (hv 9), (hv 10), (hv 11)]) (d := (sc (.bool r27))) F.ca_5 rfl rfl an an (by decide) rfl (dossierlaw18_awake.meets _  r27 er27) (.inl rfl) rfl rfl k
            ·intro K rest fr hv htk k
             show AWops _ x _ _ K ⟨91, (upd 91 (upd 91 fr 89 (sc (.bool r27))) 88 (sc (.bool r25))), _⟩
             refine s_pick_yes (d := (sc (.bool r27))) rfl c26 rfl k
            ·intro K rest fr hv htk k
             show AWops _ x _ _ K ⟨91, (upd 91 fr 90 (sc (.bool r27))), _⟩
             refine s_assign (d := (sc (.bool r27))) rfl k
           ·refine AWops.weak (st' := ⟨91, (upd 91 topF 8 (sc (.bool r27))), []⟩) (Weak.gen (kk := 0) [] [] hx rfl (by decide) (by decide) rfl rfl rfl (le_upd (le_top _) (.t (.one .sc))) an) (AWops.nil (AW.ret ?_))
            obtain rfl := Option.some.inj h
            exact ⟨_, rfl, (Weak.gen (kk := 0) [] [] rfl rfl (by decide) (by decide) rfl rfl rfl (le_upd (le_top _) (.t (.one .sc))) an)⟩
          ·refine AW.draw (n := 91) (L := 12) [(0, ⟨some 51, (sc (.bool r5.2)), [(10, (sc (.bool r5.2)))], [], [], none⟩), (1, ⟨some 52, (sc (.bool r6.2)), [(12, (sc (.bool r6.2)))], [], [], none⟩), (2, ⟨some 53, (sc (.bool (r5.2 == r6.2))), [(51, (sc (.bool r5.2))), (52, (sc (.bool r6.2)))], [], [], none⟩), (3, ⟨some 54, (sc (.bool (r5.2 == r6.2))), [(53, (sc (.bool (r5.2 == r6.2))))], [], [], none⟩), (4, ⟨some 55, (D.agg (c_api_Inst r5.1)), [(9, (D.one (C.ref 2 0))), (54, (sc (.bool (r5.2 == r6.2))))], [(2, (some (AObj.cells true (c_api_Inst r5.1))))], [], none⟩), (5, ⟨some 56, (D.agg (c_api_Inst r6.1)), [(11, (D.one (C.ref 3 0))), (54, (sc (.bool (r5.2 == r6.2))))], [(3, (some (AObj.cells true (c_api_Inst r6.1))))], [], none⟩), (6, ⟨some 57, (sc (.bool r15)), [(54, (sc (.bool (r5.2 == r6.2)))), (55, (D.agg (c_api_Inst r5.1))), (56, (D.agg (c_api_Inst r6.1)))], [], [], none⟩), (7, ⟨some 58, (sc (.bool r15)), [(54, (sc (.bool (r5.2 == r6.2)))), (57, (sc (.bool r15)))], [], [], none⟩), (8, ⟨some 59, (sc (.bool r15)), [(58, (sc (.bool r15)))], [], [], none⟩), (9, ⟨some 60, (sc (.bool r13)), [(13, (sc (.bool r13))), (59, (sc (.bool r15)))], [], [], none⟩), (10, ⟨some 61, (sc (.bool r13)), [(59, (sc (.bool r15))), (60, (sc (.bool r13)))], [], [], none⟩), (11, ⟨some 62, (sc (.bool r13)), [(61, (sc (.bool r13)))], [], [], none⟩), (12, ⟨some 63, (D.agg (c_api_Case a0)), [(4, (D.one (C.ref 0 0))), (62, (sc (.bool r13)))], [(0, (some (AObj.cells true (c_api_Case a0))))], [], none⟩), (13, ⟨some 64, (sc (.string a2)), [(2, (sc (.string a2))), (62, (sc (.bool r13)))], [], [], none⟩), (14, ⟨some 65, (sc (.string a3)), [(3, (sc (.string a3))), (62, (sc (.bool r13)))], [], [], none⟩), (15, ⟨some 66, (sc (.int .i64 r18)), [(62, (sc (.bool r13))), (63, (D.agg (c_api_Case a0))), (64, (sc (.string a2))), (65, (sc (.string a3)))], [], [], none⟩), (16, ⟨some 67, (D.agg (c_api_Case a0)), [(4, (D.one (C.ref 0 0))), (62, (sc (.bool r13)))], [(0, (some (AObj.cells true (c_api_Case a0))))], [], none⟩), (17, ⟨some 68, (sc (.string a2)), [(2, (sc (.string a2))), (62, (sc (.bool r13)))], [], [], none⟩), (18, ⟨some 69, (sc (.string a3)), [(3, (sc (.string a3))), (62, (sc (.bool r13)))], [], [], none⟩), (19, ⟨some 70, (sc (.int .i64 r19)), [(62, (sc (.bool r13))), (67, (D.agg (c_api_Case a0))), (68, (sc (.string a2))), (69, (sc (.string a3)))], [], [], none⟩), (20, ⟨some 71, (sc (.bool (r18 == r19))), [(62, (sc (.bool r13))), (66, (sc (.int .i64 r18))), (70, (sc (.int .i64 r19)))], [], [], none⟩), (21, ⟨some 72, (sc (.bool (r18 == r19))), [(62, (sc (.bool r13))), (71, (sc (.bool (r18 == r19))))], [], [], none⟩), (22, ⟨some 73, (sc (.bool (r18 == r19))), [(72, (sc (.bool (r18 == r19))))], [], [], none⟩), (23, ⟨some 74, (D.agg (c_api_Case a0)), [(4, (D.one (C.ref 0 0))), (73, (sc (.bool (r18 == r19))))], [(0, (some (AObj.cells true (c_api_Case a0))))], [], none⟩), (24, ⟨some 75, (D.agg (c_api_Case a1)), [(5, (D.one (C.ref 1 0))), (73, (sc (.bool (r18 == r19))))], [(1, (some (AObj.cells true (c_api_Case a1))))], [], none⟩), (25, ⟨some 76, (sc (.bool r21)), [(73, (sc (.bool (r18 == r19)))), (74, (D.agg (c_api_Case a0))), (75, (D.agg (c_api_Case a1)))], [], [], none⟩), (26, ⟨some 77, (D.agg (c_api_Case a0)), [(4, (D.one (C.ref 0 0))), (73, (sc (.bool (r18 == r19))))], [(0, (some (AObj.cells true (c_api_Case a0))))], [], none⟩), (27, ⟨some 78, (D.agg (c_api_Case a1)), [(5, (D.one (C.ref 1 0))), (73, (sc (.bool (r18 == r19))))], [(1, (some (AObj.cells true (c_api_Case a1))))], [], none⟩), (28, ⟨some 79, (sc (.bool r22)), [(73, (sc (.bool (r18 == r19)))), (77, (D.agg (c_api_Case a0))), (78, (D.agg (c_api_Case a1)))], [], [], none⟩), (29, ⟨some 80, (sc (.bool (r21 == r22))), [(73, (sc (.bool (r18 == r19)))), (76, (sc (.bool r21))), (79, (sc (.bool r22)))], [], [], none⟩), (30, ⟨some 81, (sc (.bool (r21 == r22))), [(73, (sc (.bool (r18 == r19)))), (80, (sc (.bool (r21 == r22))))], [], [], none⟩), (31, ⟨some 82, (sc (.bool (r21 == r22))), [(81, (sc (.bool (r21 == r22))))], [], [], none⟩), (32, ⟨some 83, (D.agg (c_api_Case a0)), [(4, (D.one (C.ref 0 0))), (82, (sc (.bool (r21 == r22))))], [(0, (some (AObj.cells true (c_api_Case a0))))], [], none⟩), (33, ⟨some 84, (D.agg (c_api_Case r24)), [(82, (sc (.bool (r21 == r22)))), (83, (D.agg (c_api_Case a0)))], [], [], none⟩), (34, ⟨some 85, (D.agg (c_api_Case a0)), [(4, (D.one (C.ref 0 0))), (82, (sc (.bool (r21 == r22))))], [(0, (some (AObj.cells true (c_api_Case a0))))], [], none⟩), (35, ⟨some 86, (sc (.bool r25)), [(82, (sc (.bool (r21 == r22)))), (84, (D.agg (c_api_Case r24))), (85, (D.agg (c_api_Case a0)))], [], [], none⟩), (36, ⟨some 87, (sc (.bool r25)), [(82, (sc (.bool (r21 == r22)))), (86, (sc (.bool r25)))], [], [], none⟩), (37, ⟨some 88, (sc (.bool r25)), [(87, (sc (.bool r25)))], [], [], none⟩), (38, ⟨some 89, (D.tup []), [(88, (sc (.bool r25)))], [], [], none⟩), (39, ⟨some 90, (sc (.bool false)), [(88, (sc (.bool r25)))], [], [], none⟩), (40, ⟨some 8, (sc (.bool false)), [(90, (sc (.bool false)))], [], [], none⟩)] [[], [], [0, 1], [0, 1, 2], [0, 1, 2, 3], [0, 1, 2, 3], [0, 1, 2, 3, 4, 5], [0, 1, 2, 3, 4, 5, 6], [0, 1, 2, 3, 4, 5, 6, 7], [0, 1, 2, 3, 4, 5, 6, 7, 8], [0, 1, 2, 3, 4, 5, 6, 7, 8, 9], [0, 1, 2, 3, 4, 5, 6, 7, 8, 9, 10], [0, 1, 2, 3, 4, 5, 6, 7, 8, 9, 10, 11], [0, 1, 2, 3, 4, 5, 6, 7, 8, 9, 10, 11], [0, 1, 2, 3, 4, 5, 6, 7, 8, 9, 10, 11], [0, 1, 2, 3, 4, 5, 6, 7, 8, 9, 10, 11, 12, 13, 14], [0, 1, 2, 3, 4, 5, 6, 7, 8, 9, 10, 11], [0, 1, 2, 3, 4, 5, 6, 7, 8, 9, 10, 11], [0, 1, 2, 3, 4, 5, 6, 7, 8, 9, 10, 11], [0, 1, 2, 3, 4, 5, 6, 7, 8, 9, 10, 11, 12, 13, 14, 15, 16, 17, 18], [0, 1, 2, 3, 4, 5, 6, 7, 8, 9, 10, 11, 12, 13, 14, 15, 16, 17, 18, 19], [0, 1, 2, 3, 4, 5, 6, 7, 8, 9, 10, 11, 12, 13, 14, 15, 16, 17, 18, 19, 20], [0, 1, 2, 3, 4, 5, 6, 7, 8, 9, 10, 11, 12, 13, 14, 15, 16, 17, 18, 19, 20, 21], [0, 1, 2, 3, 4, 5, 6, 7, 8, 9, 10, 11, 12, 13, 14, 15, 16, 17, 18, 19, 20, 21, 22], [0, 1, 2, 3, 4, 5, 6, 7, 8, 9, 10, 11, 12, 13, 14, 15, 16, 17, 18, 19, 20, 21, 22], [0, 1, 2, 3, 4, 5, 6, 7, 8, 9, 10, 11, 12, 13, 14, 15, 16, 17, 18, 19, 20, 21, 22, 23, 24], [0, 1, 2, 3, 4, 5, 6, 7, 8, 9, 10, 11, 12, 13, 14, 15, 16, 17, 18, 19, 20, 21, 22], [0, 1, 2, 3, 4, 5, 6, 7, 8, 9, 10, 11, 12, 13, 14, 15, 16, 17, 18, 19, 20, 21, 22], [0, 1, 2, 3, 4, 5, 6, 7, 8, 9, 10, 11, 12, 13, 14, 15, 16, 17, 18, 19, 20, 21, 22, 23, 24, 25, 26, 27], [0, 1, 2, 3, 4, 5, 6, 7, 8, 9, 10, 11, 12, 13, 14, 15, 16, 17, 18, 19, 20, 21, 22, 23, 24, 25, 26, 27, 28], [0, 1, 2, 3, 4, 5, 6, 7, 8, 9, 10, 11, 12, 13, 14, 15, 16, 17, 18, 19, 20, 21, 22, 23, 24, 25, 26, 27, 28, 29], [0, 1, 2, 3, 4, 5, 6, 7, 8, 9, 10, 11, 12, 13, 14, 15, 16, 17, 18, 19, 20, 21, 22, 23, 24, 25, 26, 27, 28, 29, 30], [0, 1, 2, 3, 4, 5, 6, 7, 8, 9, 10, 11, 12, 13, 14, 15, 16, 17, 18, 19, 20, 21, 22, 23, 24, 25, 26, 27, 28, 29, 30, 31], [0, 1, 2, 3, 4, 5, 6, 7, 8, 9, 10, 11, 12, 13, 14, 15, 16, 17, 18, 19, 20, 21, 22, 23, 24, 25, 26, 27, 28, 29, 30, 31, 32], [0, 1, 2, 3, 4, 5, 6, 7, 8, 9, 10, 11, 12, 13, 14, 15, 16, 17, 18, 19, 20, 21, 22, 23, 24, 25, 26, 27, 28, 29, 30, 31], [0, 1, 2, 3, 4, 5, 6, 7, 8, 9, 10, 11, 12, 13, 14, 15, 16, 17, 18, 19, 20, 21, 22, 23, 24, 25, 26, 27, 28, 29, 30, 31, 32, 33, 34], [0, 1, 2, 3, 4, 5, 6, 7, 8, 9, 10, 11, 12, 13, 14, 15, 16, 17, 18, 19, 20, 21, 22, 23, 24, 25, 26, 27, 28, 29, 30, 31, 32, 33, 34, 35], [0, 1, 2, 3, 4, 5, 6, 7, 8, 9, 10, 11, 12, 13, 14, 15, 16, 17, 18, 19, 20, 21, 22, 23, 24, 25, 26, 27, 28, 29, 30, 31, 32, 33, 34, 35, 36], [0, 1, 2, 3, 4, 5, 6, 7, 8, 9, 10, 11, 12, 13, 14, 15, 16, 17, 18, 19, 20, 21, 22, 23, 24, 25, 26, 27, 28, 29, 30, 31, 32, 33, 34, 35, 36, 37], [0, 1, 2, 3, 4, 5, 6, 7, 8, 9, 10, 11, 12, 13, 14, 15, 16, 17, 18, 19, 20, 21, 22, 23, 24, 25, 26, 27, 28, 29, 30, 31, 32, 33, 34, 35, 36, 37, 38], [0, 1, 2, 3, 4, 5, 6, 7, 8, 9, 10, 11, 12, 13, 14, 15, 16, 17, 18, 19, 20, 21, 22, 23, 24, 25, 26, 27, 28, 29, 30, 31, 32, 33, 34, 35, 36, 37, 38, 39]] (nl rfl) [0, 0, 1, 2, 3, 3, 4, 5, 6, 7, 8, 9, 10, 10, 10, 11, 10, 10, 10, 12, 13, 14, 15, 16, 16, 17, 16, 16, 18, 19, 20, 21, 22, 23, 22, 24, 25, 26, 27, 28, 29] rfl (TK := []) rfl AllK.nil' (fC ⟨(sC rfl AllS.nil'), AllH.nil'⟩ (fC ⟨(sC rfl AllS.nil'), AllH.nil'⟩ (fC ⟨(sC rfl (sC rfl AllS.nil')), AllH.nil'⟩ (fC ⟨(sC rfl AllS.nil'), AllH.nil'⟩ (fC ⟨(sC rfl (sC rfl AllS.nil')), (hC rfl AllH.nil')⟩ (fC ⟨(sC rfl (sC rfl AllS.nil')), (hC rfl AllH.nil')⟩ (fC ⟨(sC rfl (sC rfl (sC rfl AllS.nil'))), AllH.nil'⟩ (fC ⟨(sC rfl (sC rfl AllS.nil')), AllH.nil'⟩ (fC ⟨(sC rfl AllS.nil'), AllH.nil'⟩ (fC ⟨(sC rfl (sC rfl AllS.nil')), AllH.nil'⟩ (fC ⟨(sC rfl (sC rfl AllS.nil')), AllH.nil'⟩ (fC ⟨(sC rfl AllS.nil'), AllH.nil'⟩ (fC ⟨(sC rfl (sC rfl AllS.nil')), (hC rfl AllH.nil')⟩ (fC ⟨(sC rfl (sC rfl AllS.nil')), AllH.nil'⟩ (fC ⟨(sC rfl (sC rfl AllS.nil')), AllH.nil'⟩ (fC ⟨(sC rfl (sC rfl (sC rfl (sC rfl AllS.nil')))), AllH.nil'⟩ (fC ⟨(sC rfl (sC rfl AllS.nil')), (hC rfl AllH.nil')⟩ (fC ⟨(sC rfl (sC rfl AllS.nil')), AllH.nil'⟩ (fC ⟨(sC rfl (sC rfl AllS.nil')), AllH.nil'⟩ (fC ⟨(sC rfl (sC rfl (sC rfl (sC rfl AllS.nil')))), AllH.nil'⟩ (fC ⟨(sC rfl (sC rfl (sC rfl AllS.nil'))), AllH.nil'⟩ (fC ⟨(sC rfl (sC rfl AllS.nil')), AllH.nil'⟩ (fC ⟨(sC rfl AllS.nil'), AllH.nil'⟩ (fC ⟨(sC rfl (sC rfl AllS.nil')), (hC rfl AllH.nil')⟩ (fC ⟨(sC rfl (sC rfl AllS.nil')), (hC rfl AllH.nil')⟩ (fC ⟨(sC rfl (sC rfl (sC rfl AllS.nil'))), AllH.nil'⟩ (fC ⟨(sC rfl (sC rfl AllS.nil')), (hC rfl AllH.nil')⟩ (fC ⟨(sC rfl (sC rfl AllS.nil')), (hC rfl AllH.nil')⟩ (fC ⟨(sC rfl (sC rfl (sC rfl AllS.nil'))), AllH.nil'⟩ (fC ⟨(sC rfl (sC rfl (sC rfl AllS.nil'))), AllH.nil'⟩ (fC ⟨(sC rfl (sC rfl AllS.nil')), AllH.nil'⟩ (fC ⟨(sC rfl AllS.nil'), AllH.nil'⟩ (fC ⟨(sC rfl (sC rfl AllS.nil')), (hC rfl AllH.nil')⟩ (fC ⟨(sC rfl (sC rfl AllS.nil')), AllH.nil'⟩ (fC ⟨(sC rfl (sC rfl AllS.nil')), (hC rfl AllH.nil')⟩ (fC ⟨(sC rfl (sC rfl (sC rfl AllS.nil'))), AllH.nil'⟩ (fC ⟨(sC rfl (sC rfl AllS.nil')), AllH.nil'⟩ (fC ⟨(sC rfl AllS.nil'), AllH.nil'⟩ (fC ⟨(sC rfl AllS.nil'), AllH.nil'⟩ (fC ⟨(sC rfl AllS.nil'), AllH.nil'⟩ (fC ⟨(sC rfl AllS.nil'), AllH.nil'⟩ AllF.nil'))))))))))))))))))))))))))))))))))))))))) ?_ ?_
           ·refine (pC ?_ (pC ?_ (pC ?_ (pC ?_ (pC ?_ (pC ?_ (pC ?_ (pC ?_ (pC ?_ (pC ?_ (pC ?_ (pC ?_ (pC ?_ (pC ?_ (pC ?_ (pC ?_ (pC ?_ (pC ?_ (pC ?_ (pC ?_ (pC ?_ (pC ?_ (pC ?_ (pC ?_ (pC ?_ (pC ?_ (pC ?_ (pC ?_ (pC ?_ (pC ?_ (pC ?_ (pC ?_ (pC ?_ (pC ?_ (pC ?_ (pC ?_ (pC ?_ (pC ?_ (pC ?_ (pC ?_ (pC ?_ AllStep.nil')))))))))))))))))))))))))))))))))))))))))
            ·intro K rest fr hv htk k
             show AWops _ x _ _ K ⟨91, (upd 91 fr 10 (sc (.bool r5.2))), _⟩
             refine s_move (d := (sc (.bool r5.2))) rfl k
            ·intro K rest fr hv htk k
             show AWops _ x _ _ K ⟨91, (upd 91 fr 12 (sc (.bool r6.2))), _⟩
             refine s_move (d := (sc (.bool r6.2))) rfl k
            ·intro K rest fr hv htk k
             show AWops _ x _ _ K ⟨91, (upd 91 (upd 91 fr 52 (sc (.bool r6.2))) 51 (sc (.bool r5.2))), _⟩
             refine s_binB (b := (r5.2 == r6.2)) F.u_4 rfl rfl (.inl ⟨rfl, rfl⟩) k
            ·intro K rest fr hv htk k
             show AWops _ x _ _ K ⟨91, (upd 91 fr 53 (sc (.bool (r5.2 == r6.2)))), _⟩
             refine s_move (d := (sc (.bool (r5.2 == r6.2)))) rfl k
            ·intro K rest fr hv htk k
             show AWops _ x _ _ K ⟨91, (upd 91 (upd 91 fr 54 (sc (.bool (r5.2 == r6.2)))) 9 (D.one (C.ref 2 0))), [(hv 0), (hv 1), (some (AObj.cells true (c_api_Inst r5.1))), (hv 3), (hv 4), (hv 5), (hv 6), (hv 7), (hv 8), (hv 9), (hv 10), (hv 11)]⟩
             refine AWops.guard_yes rfl (nl rfl) rfl c14 ?_
             refine s_loadN (ds := (c_api_Inst r5.1)) F.ag_30 F.sz_30 rfl rfl rfl k
            ·intro K rest fr hv htk k
             show AWops _ x _ _ K ⟨91, (upd 91 (upd 91 fr 54 (sc (.bool (r5.2 == r6.2)))) 11 (D.one (C.ref 3 0))), [(hv 0), (hv 1), (hv 2), (some (AObj.cells true (c_api_Inst r6.1))), (hv 4), (hv 5), (hv 6), (hv 7), (hv 8), (hv 9), (hv 10), (hv 11)]⟩
             refine AWops.guard_yes rfl (nl rfl) rfl c14 ?_
             refine s_loadN (ds := (c_api_Inst r6.1)) F.ag_30 F.sz_30 rfl rfl rfl k
            ·intro K rest fr hv htk k
             show AWops _ x _ _ K ⟨91, (upd 91 (upd 91 (upd 91 fr 56 (D.agg (c_api_Inst r6.1))) 55 (D.agg (c_api_Inst r5.1))) 54 (sc (.bool (r5.2 == r6.2)))), [(hv 0), (hv 1), (hv 2), (hv 3), (hv 4), (hv 5), (hv 6), (hv 7), (hv 8), (hv 9), (hv 10), (hv 11)]⟩
             refine AWops.guard_yes rfl (nl rfl) rfl c14 ?_
             refine s_call2 (ρ := []) (br := false) (H2 := [(hv 0), (hv 1), (hv 2), (hv 3), (hv 4), (hv 5), (hv 6), (hv 7), (hv 8), (hv 9), (hv 10), (hv 11)]) (d := (sc (.bool r15))) F.ca_13 rfl rfl (ac (LendT.aggL (ac .sc (ac .sc (ac .sc (ac .sc (ac .imm (ac .sc an))))))) (ac (LendT.aggL (ac .sc (ac .sc (ac .sc (ac .sc (ac .imm (ac .sc an))))))) an)) an (by decide) rfl (dossierref18_SameInst.meets _ r5.1 r6.1 r15 er15) (.inl rfl) rfl rfl k
            ·intro K rest fr hv htk k
             show AWops _ x _ _ K ⟨91, (upd 91 (upd 91 fr 57 (sc (.bool r15))) 54 (sc (.bool (r5.2 == r6.2)))), _⟩
             refine s_pick_yes (d := (sc (.bool r15))) rfl c14 rfl k
            ·intro K rest fr hv htk k
             show AWops _ x _ _ K ⟨91, (upd 91 fr 58 (sc (.bool r15))), _⟩
             refine s_move (d := (sc (.bool r15))) rfl k
            ·intro K rest fr hv htk k
             show AWops _ x _ _ K ⟨91, (upd 91 (upd 91 fr 59 (sc (.bool r15))) 13 (sc (.bool r13))), _⟩
             refine AWops.guard_yes rfl (nl rfl) rfl c16 ?_
             refine s_move (d := (sc (.bool r13))) rfl k
            ·intro K rest fr hv htk k
             show AWops _ x _ _ K ⟨91, (upd 91 (upd 91 fr 60 (sc (.bool r13))) 59 (sc (.bool r15))), _⟩
             refine s_pick_yes (d := (sc (.bool r13))) rfl c16 rfl k
            ·intro K rest fr hv htk k
             show AWops _ x _ _ K ⟨91, (upd 91 fr 61 (sc (.bool r13))), _⟩
             refine s_move (d := (sc (.bool r13))) rfl k
            ·intro K rest fr hv htk k
             show AWops _ x _ _ K ⟨91, (upd 91 (upd 91 fr 62 (sc (.bool r13))) 4 (D.one (C.ref 0 0))), [(some (AObj.cells true (c_api_Case a0))), (hv 1), (hv 2), (hv 3), (hv 4), (hv 5), (hv 6), (hv 7), (hv 8), (hv 9), (hv 10), (hv 11)]⟩
             refine AWops.guard_yes rfl (nl rfl) rfl c17 ?_
             refine s_loadN (ds := (c_api_Case a0)) F.ag_25 F.sz_25 rfl rfl rfl k
            ·intro K rest fr hv htk k
             show AWops _ x _ _ K ⟨91, (upd 91 (upd 91 fr 62 (sc (.bool r13))) 2 (sc (.string a2))), _⟩
             refine AWops.guard_yes rfl (nl rfl) rfl c17 ?_
             refine s_move (d := (sc (.string a2))) rfl k
            ·intro K rest fr hv htk k
             show AWops _ x _ _ K ⟨91, (upd 91 (upd 91 fr 62 (sc (.bool r13))) 3 (sc (.string a3))), _⟩
             refine AWops.guard_yes rfl (nl rfl) rfl c17 ?_
             refine s_move (d := (sc (.string a3))) rfl k
            ·intro K rest fr hv htk k
             show AWops _ x _ _ K ⟨91, (upd 91 (upd 91 (upd 91 (upd 91 fr 65 (sc (.string a3))) 64 (sc (.string a2))) 63 (D.agg (c_api_Case a0))) 62 (sc (.bool r13))), [(hv 0), (hv 1), (hv 2), (hv 3), (hv 4), (hv 5), (hv 6), (hv 7), (hv 8), (hv 9), (hv 10), (hv 11)]⟩
             refine AWops.guard_yes rfl (nl rfl) rfl c17 ?_
             refine s_call2 (ρ := []) (br := false) (H2 := [(hv 0), (hv 1), (hv 2), (hv 3), (hv 4), (hv 5), (hv 6), (hv 7), (hv 8), (hv 9), (hv 10), (hv 11)]) (d := (sc (.int .i64 r18))) F.ca_14 rfl rfl (ac (LendT.aggL (ac .sc (ac .sc (ac .imm (ac .imm (ac .sc an)))))) (ac (.one .sc) (ac (.one .sc) an))) an (by decide) rfl (tree_Next.meets _ a0 a2 a3 r18 er18) (.inl rfl) rfl rfl k
            ·intro K rest fr hv htk k
             show AWops _ x _ _ K ⟨91, (upd 91 (upd 91 fr 62 (sc (.bool r13))) 4 (D.one (C.ref 0 0))), [(some (AObj.cells true (c_api_Case a0))), (hv 1), (hv 2), (hv 3), (hv 4), (hv 5), (hv 6), (hv 7), (hv 8), (hv 9), (hv 10), (hv 11)]⟩
             refine AWops.guard_yes rfl (nl rfl) rfl c17 ?_
             refine s_loadN (ds := (c_api_Case a0)) F.ag_25 F.sz_25 rfl rfl rfl k
            ·intro K rest fr hv htk k
             show AWops _ x _ _ K ⟨91, (upd 91 (upd 91 fr 62 (sc (.bool r13))) 2 (sc (.string a2))), _⟩
             refine AWops.guard_yes rfl (nl rfl) rfl c17 ?_
             refine s_move (d := (sc (.string a2))) rfl k
            ·intro K rest fr hv htk k
             show AWops _ x _ _ K ⟨91, (upd 91 (upd 91 fr 62 (sc (.bool r13))) 3 (sc (.string a3))), _⟩
             refine AWops.guard_yes rfl (nl rfl) rfl c17 ?_
             refine s_move (d := (sc (.string a3))) rfl k
            ·intro K rest fr hv htk k
             show AWops _ x _ _ K ⟨91, (upd 91 (upd 91 (upd 91 (upd 91 fr 69 (sc (.string a3))) 68 (sc (.string a2))) 67 (D.agg (c_api_Case a0))) 62 (sc (.bool r13))), [(hv 0), (hv 1), (hv 2), (hv 3), (hv 4), (hv 5), (hv 6), (hv 7), (hv 8), (hv 9), (hv 10), (hv 11)]⟩
             refine AWops.guard_yes rfl (nl rfl) rfl c17 ?_
             refine s_call2 (ρ := []) (br := false) (H2 := [(hv 0), (hv 1), (hv 2), (hv 3), (hv 4), (hv 5), (hv 6), (hv 7), (hv 8), (hv 9), (hv 10), (hv 11)]) (d := (sc (.int .i64 r19))) F.ca_15 rfl rfl (ac (LendT.aggL (ac .sc (ac .sc (ac .imm (ac .imm (ac .sc an)))))) (ac (.one .sc) (ac (.one .sc) an))) an (by decide) rfl (dossierref18_Next.meets _ a0 a2 a3 r19 er19) (.inl rfl) rfl rfl k
            ·intro K rest fr hv htk k
             show AWops _ x _ _ K ⟨91, (upd 91 (upd 91 (upd 91 fr 70 (sc (.int .i64 r19))) 66 (sc (.int .i64 r18))) 62 (sc (.bool r13))), _⟩
             refine AWops.guard_yes rfl (nl rfl) rfl c17 ?_
             refine s_binI (v := (.bool (r18 == r19))) rfl rfl rfl k
            ·intro K rest fr hv htk k
             show AWops _ x _ _ K ⟨91, (upd 91 (upd 91 fr 71 (sc (.bool (r18 == r19)))) 62 (sc (.bool r13))), _⟩
             refine s_pick_yes (d := (sc (.bool (r18 == r19)))) rfl c17 rfl k
            ·intro K rest fr hv htk k
             show AWops _ x _ _ K ⟨91, (upd 91 fr 72 (sc (.bool (r18 == r19)))), _⟩
             refine s_move (d := (sc (.bool (r18 == r19)))) rfl k
            ·intro K rest fr hv htk k
             show AWops _ x _ _ K ⟨91, (upd 91 (upd 91 fr 73 (sc (.bool (r18 == r19)))) 4 (D.one (C.ref 0 0))), [(some (AObj.cells true (c_api_Case a0))), (hv 1), (hv 2), (hv 3), (hv 4), (hv 5), (hv 6), (hv 7), (hv 8), (hv 9), (hv 10), (hv 11)]⟩
             refine AWops.guard_yes rfl (nl rfl) rfl c20 ?_
             refine s_loadN (ds := (c_api_Case a0)) F.ag_25 F.sz_25 rfl rfl rfl k
            ·intro K rest fr hv htk k
             show AWops _ x _ _ K ⟨91, (upd 91 (upd 91 fr 73 (sc (.bool (r18 == r19)))) 5 (D.one (C.ref 1 0))), [(hv 0), (some (AObj.cells true (c_api_Case a1))), (hv 2), (hv 3), (hv 4), (hv 5), (hv 6), (hv 7), (hv 8), (hv 9), (hv 10), (hv 11)]⟩
             refine AWops.guard_yes rfl (nl rfl) rfl c20 ?_
             refine s_loadN (ds := (c_api_Case a1)) F.ag_25 F.sz_25 rfl rfl rfl k
            ·intro K rest fr hv htk k
             show AWops _ x _ _ K ⟨91, (upd 91 (upd 91 (upd 91 fr 75 (D.agg (c_api_Case a1))) 74 (D.agg (c_api_Case a0))) 73 (sc (.bool (r18 == r19)))), [(hv 0), (hv 1), (hv 2), (hv 3), (hv 4), (hv 5), (hv 6), (hv 7), (hv 8), (hv 9), (hv 10), (hv 11)]⟩
             refine AWops.guard_yes rfl (nl rfl) rfl c20 ?_
             refine s_call2 (ρ := []) (br := false) (H2 := [(hv 0), (hv 1), (hv 2), (hv 3), (hv 4), (hv 5), (hv 6), (hv 7), (hv 8), (hv 9), (hv 10), (hv 11)]) (d := (sc (.bool r21))) F.ca_16 rfl rfl (ac (LendT.aggL (ac .sc (ac .sc (ac .imm (ac .imm (ac .sc an)))))) (ac (LendT.aggL (ac .sc (ac .sc (ac .imm (ac .imm (ac .sc an)))))) an)) an (by decide) rfl (tree_Same.meets _ a0 a1 r21 er21) (.inl rfl) rfl rfl k
            ·intro K rest fr hv htk k
             show AWops _ x _ _ K ⟨91, (upd 91 (upd 91 fr 73 (sc (.bool (r18 == r19)))) 4 (D.one (C.ref 0 0))), [(some (AObj.cells true (c_api_Case a0))), (hv 1), (hv 2), (hv 3), (hv 4), (hv 5), (hv 6), (hv 7), (hv 8), (hv 9), (hv 10), (hv 11)]⟩
             refine AWops.guard_yes rfl (nl rfl) rfl c20 ?_
             refine s_loadN (ds := (c_api_Case a0)) F.ag_25 F.sz_25 rfl rfl rfl k
            ·intro K rest fr hv htk k
             show AWops _ x _ _ K ⟨91, (upd 91 (upd 91 fr 73 (sc (.bool (r18 == r19)))) 5 (D.one (C.ref 1 0))), [(hv 0), (some (AObj.cells true (c_api_Case a1))), (hv 2), (hv 3), (hv 4), (hv 5), (hv 6), (hv 7), (hv 8), (hv 9), (hv 10), (hv 11)]⟩
             refine AWops.guard_yes rfl (nl rfl) rfl c20 ?_
             refine s_loadN (ds := (c_api_Case a1)) F.ag_25 F.sz_25 rfl rfl rfl k
            ·intro K rest fr hv htk k
             show AWops _ x _ _ K ⟨91, (upd 91 (upd 91 (upd 91 fr 78 (D.agg (c_api_Case a1))) 77 (D.agg (c_api_Case a0))) 73 (sc (.bool (r18 == r19)))), [(hv 0), (hv 1), (hv 2), (hv 3), (hv 4), (hv 5), (hv 6), (hv 7), (hv 8), (hv 9), (hv 10), (hv 11)]⟩
             refine AWops.guard_yes rfl (nl rfl) rfl c20 ?_
             refine s_call2 (ρ := []) (br := false) (H2 := [(hv 0), (hv 1), (hv 2), (hv 3), (hv 4), (hv 5), (hv 6), (hv 7), (hv 8), (hv 9), (hv 10), (hv 11)]) (d := (sc (.bool r22))) F.ca_17 rfl rfl (ac (LendT.aggL (ac .sc (ac .sc (ac .imm (ac .imm (ac .sc an)))))) (ac (LendT.aggL (ac .sc (ac .sc (ac .imm (ac .imm (ac .sc an)))))) an)) an (by decide) rfl (dossierref18_Same.meets _ a0 a1 r22 er22) (.inl rfl) rfl rfl k
            ·intro K rest fr hv htk k
             show AWops _ x _ _ K ⟨91, (upd 91 (upd 91 (upd 91 fr 79 (sc (.bool r22))) 76 (sc (.bool r21))) 73 (sc (.bool (r18 == r19)))), _⟩
             refine AWops.guard_yes rfl (nl rfl) rfl c20 ?_
             refine s_binB (b := (r21 == r22)) F.u_4 rfl rfl (.inl ⟨rfl, rfl⟩) k
            ·intro K rest fr hv htk k
             show AWops _ x _ _ K ⟨91, (upd 91 (upd 91 fr 80 (sc (.bool (r21 == r22)))) 73 (sc (.bool (r18 == r19)))), _⟩
             refine s_pick_yes (d := (sc (.bool (r21 == r22)))) rfl c20 rfl k
            ·intro K rest fr hv htk k
             show AWops _ x _ _ K ⟨91, (upd 91 fr 81 (sc (.bool (r21 == r22)))), _⟩
             refine s_move (d := (sc (.bool (r21 == r22)))) rfl k
            ·intro K rest fr hv htk k
             show AWops _ x _ _ K ⟨91, (upd 91 (upd 91 fr 82 (sc (.bool (r21 == r22)))) 4 (D.one (C.ref 0 0))), [(some (AObj.cells true (c_api_Case a0))), (hv 1), (hv 2), (hv 3), (hv 4), (hv 5), (hv 6), (hv 7), (hv 8), (hv 9), (hv 10), (hv 11)]⟩
             refine AWops.guard_yes rfl (nl rfl) rfl c23 ?_
             refine s_loadN (ds := (c_api_Case a0)) F.ag_25 F.sz_25 rfl rfl rfl k
            ·intro K rest fr hv htk k
             show AWops _ x _ _ K ⟨91, (upd 91 (upd 91 fr 83 (D.agg (c_api_Case a0))) 82 (sc (.bool (r21 == r22)))), [(hv 0), (hv 1), (hv 2), (hv 3), (hv 4), (hv 5), (hv 6), (hv 7), (hv 8), (hv 9), (hv 10), (hv 11)]⟩
             refine AWops.guard_yes rfl (nl rfl) rfl c23 ?_
             refine s_call2 (ρ := []) (br := false) (H2 := [(hv 0), (hv 1), (hv 2), (hv 3), (hv 4), (hv 5), (hv 6), (hv 7), (hv 8), (hv 9), (hv 10), (hv 11)]) (d := (D.agg (c_api_Case r24))) F.ca_18 rfl rfl (ac (LendT.aggL (ac .sc (ac .sc (ac .imm (ac .imm (ac .sc an)))))) an) an (by decide) rfl (tree_Copy.meets _ a0 r24 er24) (.inl rfl) rfl rfl k
            ·intro K rest fr hv htk k
             show AWops _ x _ _ K ⟨91, (upd 91 (upd 91 fr 82 (sc (.bool (r21 == r22)))) 4 (D.one (C.ref 0 0))), [(some (AObj.cells true (c_api_Case a0))), (hv 1), (hv 2), (hv 3), (hv 4), (hv 5), (hv 6), (hv 7), (hv 8), (hv 9), (hv 10), (hv 11)]⟩
             refine AWops.guard_yes rfl (nl rfl) rfl c23 ?_
             refine s_loadN (ds := (c_api_Case a0)) F.ag_25 F.sz_25 rfl rfl rfl k
            ·intro K rest fr hv htk k
             show AWops _ x _ _ K ⟨91, (upd 91 (upd 91 (upd 91 fr 85 (D.agg (c_api_Case a0))) 84 (D.agg (c_api_Case r24))) 82 (sc (.bool (r21 == r22)))), [(hv 0), (hv 1), (hv 2), (hv 3), (hv 4), (hv 5), (hv 6), (hv 7), (hv 8), (hv 9), (hv 10), (hv 11)]⟩
             refine AWops.guard_yes rfl (nl rfl) rfl c23 ?_
             refine s_call2 (ρ := []) (br := false) (H2 := [(hv 0), (hv 1), (hv 2), (hv 3), (hv 4), (hv 5), (hv 6), (hv 7), (hv 8), (hv 9), (hv 10), (hv 11)]) (d := (sc (.bool r25))) F.ca_17 rfl rfl (ac (LendT.aggL (ac .sc (ac .sc (ac .imm (ac .imm (ac .sc an)))))) (ac (LendT.aggL (ac .sc (ac .sc (ac .imm (ac .imm (ac .sc an)))))) an)) an (by decide) rfl (dossierref18_Same.meets _ r24 a0 r25 er25) (.inl rfl) rfl rfl k
            ·intro K rest fr hv htk k
             show AWops _ x _ _ K ⟨91, (upd 91 (upd 91 fr 86 (sc (.bool r25))) 82 (sc (.bool (r21 == r22)))), _⟩
             refine s_pick_yes (d := (sc (.bool r25))) rfl c23 rfl k
            ·intro K rest fr hv htk k
             show AWops _ x _ _ K ⟨91, (upd 91 fr 87 (sc (.bool r25))), _⟩
             refine s_move (d := (sc (.bool r25))) rfl k
            ·intro K rest fr hv htk k
             show AWops _ x _ _ K ⟨91, (upd 91 fr 88 (sc (.bool r25))), _⟩
             refine AWops.guard_no rfl (nl rfl) rfl c26 k
            ·intro K rest fr hv htk k
             show AWops _ x _ _ K ⟨91, (upd 91 fr 88 (sc (.bool r25))), _⟩
             refine s_pick_no (d := (sc (.bool false))) rfl c26 rfl k
            ·intro K rest fr hv htk k
             show AWops _ x _ _ K ⟨91, (upd 91 fr 90 (sc (.bool false))), _⟩
             refine s_assign (d := (sc (.bool false))) rfl k
           ·refine AWops.weak (st' := ⟨91, (upd 91 topF 8 (sc (.bool false))), []⟩) (Weak.gen (kk := 0) [] [] hx rfl (by decide) (by decide) rfl rfl rfl (le_upd (le_top _) (.t (.one .sc))) an) (AWops.nil (AW.ret ?_))
            obtain rfl := Option.some.inj h
            exact ⟨_, rfl, (Weak.gen (kk := 0) [] [] rfl rfl (by decide) (by decide) rfl rfl rfl (le_upd (le_top _) (.t (.one .sc))) an)⟩
         ·refine AW.draw (n := 91) (L := 12) [(0, ⟨some 51, (sc (.bool r5.2)), [(10, (sc (.bool r5.2)))], [], [], none⟩), (1, ⟨some 52, (sc (.bool r6.2)), [(12, (sc (.bool r6.2)))], [], [], none⟩), (2, ⟨some 53, (sc (.bool (r5.2 == r6.2))), [(51, (sc (.bool r5.2))), (52, (sc (.bool r6.2)))], [], [], none⟩), (3, ⟨some 54, (sc (.bool (r5.2 == r6.2))), [(53, (sc (.bool (r5.2 == r6.2))))], [], [], none⟩), (4, ⟨some 55, (D.agg (c_api_Inst r5.1)), [(9, (D.one (C.ref 2 0))), (54, (sc (.bool (r5.2 == r6.2))))], [(2, (some (AObj.cells true (c_api_Inst r5.1))))], [], none⟩), (5, ⟨some 56, (D.agg (c_api_Inst r6.1)), [(11, (D.one (C.ref 3 0))), (54, (sc (.bool (r5.2 == r6.2))))], [(3, (some (AObj.cells true (c_api_Inst r6.1))))], [], none⟩), (6, ⟨some 57, (sc (.bool r15)), [(54, (sc (.bool (r5.2 == r6.2)))), (55, (D.agg (c_api_Inst r5.1))), (56, (D.agg (c_api_Inst r6.1)))], [], [], none⟩), (7, ⟨some 58, (sc (.bool r15)), [(54, (sc (.bool (r5.2 == r6.2)))), (57, (sc (.bool r15)))], [], [], none⟩), (8, ⟨some 59, (sc (.bool r15)), [(58, (sc (.bool r15)))], [], [], none⟩), (9, ⟨some 60, (sc (.bool r13)), [(13, (sc (.bool r13))), (59, (sc (.bool r15)))], [], [], none⟩), (10, ⟨some 61, (sc (.bool r13)), [(59, (sc (.bool r15))), (60, (sc (.bool r13)))], [], [], none⟩), (11, ⟨some 62, (sc (.bool r13)), [(61, (sc (.bool r13)))], [], [], none⟩), (12, ⟨some 63, (D.agg (c_api_Case a0)), [(4, (D.one (C.ref 0 0))), (62, (sc (.bool r13)))], [(0, (some (AObj.cells true (c_api_Case a0))))], [], none⟩), (13, ⟨some 64, (sc (.string a2)), [(2, (sc (.string a2))), (62, (sc (.bool r13)))], [], [], none⟩), (14, ⟨some 65, (sc (.string a3)), [(3, (sc (.string a3))), (62, (sc (.bool r13)))], [], [], none⟩), (15, ⟨some 66, (sc (.int .i64 r18)), [(62, (sc (.bool r13))), (63, (D.agg (c_api_Case a0))), (64, (sc (.string a2))), (65, (sc (.string a3)))], [], [], none⟩), (16, ⟨some 67, (D.agg (c_api_Case a0)), [(4, (D.one (C.ref 0 0))), (62, (sc (.bool r13)))], [(0, (some (AObj.cells true (c_api_Case a0))))], [], none⟩), (17, ⟨some 68, (sc (.string a2)), [(2, (sc (.string a2))), (62, (sc (.bool r13)))], [], [], none⟩), (18, ⟨some 69, (sc (.string a3)), [(3, (sc (.string a3))), (62, (sc (.bool r13)))], [], [], none⟩), (19, ⟨some 70, (sc (.int .i64 r19)), [(62, (sc (.bool r13))), (67, (D.agg (c_api_Case a0))), (68, (sc (.string a2))), (69, (sc (.string a3)))], [], [], none⟩), (20, ⟨some 71, (sc (.bool (r18 == r19))), [(62, (sc (.bool r13))), (66, (sc (.int .i64 r18))), (70, (sc (.int .i64 r19)))], [], [], none⟩), (21, ⟨some 72, (sc (.bool (r18 == r19))), [(62, (sc (.bool r13))), (71, (sc (.bool (r18 == r19))))], [], [], none⟩), (22, ⟨some 73, (sc (.bool (r18 == r19))), [(72, (sc (.bool (r18 == r19))))], [], [], none⟩), (23, ⟨some 74, (D.agg (c_api_Case a0)), [(4, (D.one (C.ref 0 0))), (73, (sc (.bool (r18 == r19))))], [(0, (some (AObj.cells true (c_api_Case a0))))], [], none⟩), (24, ⟨some 75, (D.agg (c_api_Case a1)), [(5, (D.one (C.ref 1 0))), (73, (sc (.bool (r18 == r19))))], [(1, (some (AObj.cells true (c_api_Case a1))))], [], none⟩), (25, ⟨some 76, (sc (.bool r21)), [(73, (sc (.bool (r18 == r19)))), (74, (D.agg (c_api_Case a0))), (75, (D.agg (c_api_Case a1)))], [], [], none⟩), (26, ⟨some 77, (D.agg (c_api_Case a0)), [(4, (D.one (C.ref 0 0))), (73, (sc (.bool (r18 == r19))))], [(0, (some (AObj.cells true (c_api_Case a0))))], [], none⟩), (27, ⟨some 78, (D.agg (c_api_Case a1)), [(5, (D.one (C.ref 1 0))), (73, (sc (.bool (r18 == r19))))], [(1, (some (AObj.cells true (c_api_Case a1))))], [], none⟩), (28, ⟨some 79, (sc (.bool r22)), [(73, (sc (.bool (r18 == r19)))), (77, (D.agg (c_api_Case a0))), (78, (D.agg (c_api_Case a1)))], [], [], none⟩), (29, ⟨some 80, (sc (.bool (r21 == r22))), [(73, (sc (.bool (r18 == r19)))), (76, (sc (.bool r21))), (79, (sc (.bool r22)))], [], [], none⟩), (30, ⟨some 81, (sc (.bool (r21 == r22))), [(73, (sc (.bool (r18 == r19)))), (80, (sc (.bool (r21 == r22))))], [], [], none⟩), (31, ⟨some 82, (sc (.bool (r21 == r22))), [(81, (sc (.bool (r21 == r22))))], [], [], none⟩), (32, ⟨some 83, (D.tup []), [(4, (D.one (C.ref 0 0))), (82, (sc (.bool (r21 == r22))))], [(0, (some (AObj.cells true (c_api_Case a0))))], [], none⟩), (33, ⟨some 84, (D.tup []), [(82, (sc (.bool (r21 == r22))))], [], [], none⟩), (34, ⟨some 85, (D.tup []), [(82, (sc (.bool (r21 == r22))))], [], [], none⟩), (35, ⟨some 86, (D.tup []), [(82, (sc (.bool (r21 == r22))))], [], [], none⟩), (36, ⟨some 87, (sc (.bool false)), [(82, (sc (.bool (r21 == r22))))], [], [], none⟩), (37, ⟨some 88, (sc (.bool false)), [(87, (sc (.bool false)))], [], [], none⟩), (38, ⟨some 89, (D.tup []), [(88, (sc (.bool false)))], [], [], none⟩), (39, ⟨some 90, (sc (.bool false)), [(88, (sc (.bool false)))], [], [], none⟩), (40, ⟨some 8, (sc (.bool false)), [(90, (sc (.bool false)))], [], [], none⟩)] [[], [], [0, 1], [0, 1, 2], [0, 1, 2, 3], [0, 1, 2, 3], [0, 1, 2, 3, 4, 5], [0, 1, 2, 3, 4, 5, 6], [0, 1, 2, 3, 4, 5, 6, 7], [0, 1, 2, 3, 4, 5, 6, 7, 8], [0, 1, 2, 3, 4, 5, 6, 7, 8, 9], [0, 1, 2, 3, 4, 5, 6, 7, 8, 9, 10], [0, 1, 2, 3, 4, 5, 6, 7, 8, 9, 10, 11], [0, 1, 2, 3, 4, 5, 6, 7, 8, 9, 10, 11], [0, 1, 2, 3, 4, 5, 6, 7, 8, 9, 10, 11], [0, 1, 2, 3, 4, 5, 6, 7, 8, 9, 10, 11, 12, 13, 14], [0, 1, 2, 3, 4, 5, 6, 7, 8, 9, 10, 11], [0, 1, 2, 3, 4, 5, 6, 7, 8, 9, 10, 11], [0, 1, 2, 3, 4, 5, 6, 7, 8, 9, 10, 11], [0, 1, 2, 3, 4, 5, 6, 7, 8, 9, 10, 11, 12, 13, 14, 15, 16, 17, 18], [0, 1, 2, 3, 4, 5, 6, 7, 8, 9, 10, 11, 12, 13, 14, 15, 16, 17, 18, 19], [0, 1, 2, 3, 4, 5, 6, 7, 8, 9, 10, 11, 12, 13, 14, 15, 16, 17, 18, 19, 20], [0, 1, 2, 3, 4, 5, 6, 7, 8, 9, 10, 11, 12, 13, 14, 15, 16, 17, 18, 19, 20, 21], [0, 1, 2, 3, 4, 5, 6, 7, 8, 9, 10, 11, 12, 13, 14, 15, 16, 17, 18, 19, 20, 21, 22], [0, 1, 2, 3, 4, 5, 6, 7, 8, 9, 10, 11, 12, 13, 14, 15, 16, 17, 18, 19, 20, 21, 22], [0, 1, 2, 3, 4, 5, 6, 7, 8, 9, 10, 11, 12, 13, 14, 15, 16, 17, 18, 19, 20, 21, 22, 23, 24], [0, 1, 2, 3, 4, 5, 6, 7, 8, 9, 10, 11, 12, 13, 14, 15, 16, 17, 18, 19, 20, 21, 22], [0, 1, 2, 3, 4, 5, 6, 7, 8, 9, 10, 11, 12, 13, 14, 15, 16, 17, 18, 19, 20, 21, 22], [0, 1, 2, 3, 4, 5, 6, 7, 8, 9, 10, 11, 12, 13, 14, 15, 16, 17, 18, 19, 20, 21, 22, 23, 24, 25, 26, 27], [0, 1, 2, 3, 4, 5, 6, 7, 8, 9, 10, 11, 12, 13, 14, 15, 16, 17, 18, 19, 20, 21, 22, 23, 24, 25, 26, 27, 28], [0, 1, 2, 3, 4, 5, 6, 7, 8, 9, 10, 11, 12, 13, 14, 15, 16, 17, 18, 19, 20, 21, 22, 23, 24, 25, 26, 27, 28, 29], [0, 1, 2, 3, 4, 5, 6, 7, 8, 9, 10, 11, 12, 13, 14, 15, 16, 17, 18, 19, 20, 21, 22, 23, 24, 25, 26, 27, 28, 29, 30], [0, 1, 2, 3, 4, 5, 6, 7, 8, 9, 10, 11, 12, 13, 14, 15, 16, 17, 18, 19, 20, 21, 22, 23, 24, 25, 26, 27, 28, 29, 30, 31], [0, 1, 2, 3, 4, 5, 6, 7, 8, 9, 10, 11, 12, 13, 14, 15, 16, 17, 18, 19, 20, 21, 22, 23, 24, 25, 26, 27, 28, 29, 30, 31, 32], [0, 1, 2, 3, 4, 5, 6, 7, 8, 9, 10, 11, 12, 13, 14, 15, 16, 17, 18, 19, 20, 21, 22, 23, 24, 25, 26, 27, 28, 29, 30, 31], [0, 1, 2, 3, 4, 5, 6, 7, 8, 9, 10, 11, 12, 13, 14, 15, 16, 17, 18, 19, 20, 21, 22, 23, 24, 25, 26, 27, 28, 29, 30, 31, 32, 33, 34], [0, 1, 2, 3, 4, 5, 6, 7, 8, 9, 10, 11, 12, 13, 14, 15, 16, 17, 18, 19, 20, 21, 22, 23, 24, 25, 26, 27, 28, 29, 30, 31, 32, 33, 34, 35], [0, 1, 2, 3, 4, 5, 6, 7, 8, 9, 10, 11, 12, 13, 14, 15, 16, 17, 18, 19, 20, 21, 22, 23, 24, 25, 26, 27, 28, 29, 30, 31, 32, 33, 34, 35, 36], [0, 1, 2, 3, 4, 5, 6, 7, 8, 9, 10, 11, 12, 13, 14, 15, 16, 17, 18, 19, 20, 21, 22, 23, 24, 25, 26, 27, 28, 29, 30, 31, 32, 33, 34, 35, 36, 37], [0, 1, 2, 3, 4, 5, 6, 7, 8, 9, 10, 11, 12, 13, 14, 15, 16, 17, 18, 19, 20, 21, 22, 23, 24, 25, 26, 27, 28, 29, 30, 31, 32, 33, 34, 35, 36, 37, 38], [0, 1, 2, 3, 4, 5, 6, 7, 8, 9, 10, 11, 12, 13, 14, 15, 16, 17, 18, 19, 20, 21, 22, 23, 24, 25, 26, 27, 28, 29, 30, 31, 32, 33, 34, 35, 36, 37, 38, 39]] (nl rfl) [0, 0, 1, 2, 3, 3, 4, 5, 6, 7, 8, 9, 10, 10, 10, 11, 10, 10, 10, 12, 13, 14, 15, 16, 16, 17, 16, 16, 18, 19, 20, 21, 22, 23, 22, 24, 25, 26, 27, 28, 29] rfl (TK := []) rfl AllK.nil' (fC ⟨(sC rfl AllS.nil'), AllH.nil'⟩ (fC ⟨(sC rfl AllS.nil'), AllH.nil'⟩ (fC ⟨(sC rfl (sC rfl AllS.nil')), AllH.nil'⟩ (fC ⟨(sC rfl AllS.nil'), AllH.nil'⟩ (fC ⟨(sC rfl (sC rfl AllS.nil')), (hC rfl AllH.nil')⟩ (fC ⟨(sC rfl (sC rfl AllS.nil')), (hC rfl AllH.nil')⟩ (fC ⟨(sC rfl (sC rfl (sC rfl AllS.nil'))), AllH.nil'⟩ (fC ⟨(sC rfl (sC rfl AllS.nil')), AllH.nil'⟩ (fC ⟨(sC rfl AllS.nil'), AllH.nil'⟩ (fC ⟨(sC rfl (sC rfl AllS.nil')), AllH.nil'⟩ (fC ⟨(sC rfl (sC rfl AllS.nil')), AllH.nil'⟩ (fC ⟨(sC rfl AllS.nil'), AllH.nil'⟩ (fC ⟨(sC rfl (sC rfl AllS.nil')), (hC rfl AllH.nil')⟩ (fC ⟨(sC rfl (sC rfl AllS.nil')), AllH.nil'⟩ (fC ⟨(sC rfl (sC rfl AllS.nil')), AllH.nil'⟩ (fC ⟨(sC rfl (sC rfl (sC rfl (sC rfl AllS.nil')))), AllH.nil'⟩ (fC ⟨(sC rfl (sC rfl AllS.nil')), (hC rfl AllH.nil')⟩ (fC ⟨(sC rfl (sC rfl AllS.nil')), AllH.nil'⟩ (fC ⟨(sC rfl (sC rfl AllS.nil')), AllH.nil'⟩ (fC ⟨(sC rfl (sC rfl (sC rfl (sC rfl AllS.nil')))), AllH.nil'⟩ (fC ⟨(sC rfl (sC rfl (sC rfl AllS.nil'))), AllH.nil'⟩ (fC ⟨(sC rfl (sC rfl AllS.nil')), AllH.nil'⟩ (fC ⟨(sC rfl AllS.nil'), AllH.nil'⟩ (fC ⟨(sC rfl (sC rfl AllS.nil')), (hC rfl AllH.nil')⟩ (fC ⟨(sC rfl (sC rfl AllS.nil')), (hC rfl AllH.nil')⟩ (fC ⟨(sC rfl (sC rfl (sC rfl AllS.nil'))), AllH.nil'⟩ (fC ⟨(sC rfl (sC rfl AllS.nil')), (hC rfl AllH.nil')⟩ (fC ⟨(sC rfl (sC rfl AllS.nil')), (hC rfl AllH.nil')⟩ (fC ⟨(sC rfl (sC rfl (sC rfl AllS.nil'))), AllH.nil'⟩ (fC ⟨(sC rfl (sC rfl (sC rfl AllS.nil'))), AllH.nil'⟩ (fC ⟨(sC rfl (sC rfl AllS.nil')), AllH.nil'⟩ (fC ⟨(sC rfl AllS.nil'), AllH.nil'⟩ (fC ⟨(sC rfl (sC rfl AllS.nil')), (hC rfl AllH.nil')⟩ (fC ⟨(sC rfl AllS.nil'), AllH.nil'⟩ (fC ⟨(sC rfl AllS.nil'), AllH.nil'⟩ (fC ⟨(sC rfl AllS.nil'), AllH.nil'⟩ (fC ⟨(sC rfl AllS.nil'), AllH.nil'⟩ (fC ⟨(sC rfl AllS.nil'), AllH.nil'⟩ (fC ⟨(sC rfl AllS.nil'), AllH.nil'⟩ (fC ⟨(sC rfl AllS.nil'), AllH.nil'⟩ (fC ⟨(sC rfl AllS.nil'), AllH.nil'⟩ AllF.nil'))))))))))))))))))))))))))))))))))))))))) ?_ ?_
          ·refine (pC ?_ (pC ?_ (pC ?_ (pC ?_ (pC ?_ (pC ?_ (pC ?_ (pC ?_ (pC ?_ (pC ?_ (pC ?_ (pC ?_ (pC ?_ (pC ?_ (pC ?_ (pC ?_ (pC ?_ (pC ?_ (pC ?_ (pC ?_ (pC ?_ (pC ?_ (pC ?_ (pC ?_ (pC ?_ (pC ?_ (pC ?_ (pC ?_ (pC ?_ (pC ?_ (pC ?_ (pC ?_ (pC ?_ (pC ?_ (pC ?_ (pC ?_ (pC ?_ (pC ?_ (pC ?_ (pC ?_ (pC ?_ AllStep.nil')))))))))))))))))))))))))))))))))))))))))
           ·intro K rest fr hv htk k
            show AWops _ x _ _ K ⟨91, (upd 91 fr 10 (sc (.bool r5.2))), _⟩
            refine s_move (d := (sc (.bool r5.2))) rfl k
           ·intro K rest fr hv htk k
            show AWops _ x _ _ K ⟨91, (upd 91 fr 12 (sc (.bool r6.2))), _⟩
            refine s_move (d := (sc (.bool r6.2))) rfl k
           ·intro K rest fr hv htk k
            show AWops _ x _ _ K ⟨91, (upd 91 (upd 91 fr 52 (sc (.bool r6.2))) 51 (sc (.bool r5.2))), _⟩
            refine s_binB (b := (r5.2 == r6.2)) F.u_4 rfl rfl (.inl ⟨rfl, rfl⟩) k
           ·intro K rest fr hv htk k
            show AWops _ x _ _ K ⟨91, (upd 91 fr 53 (sc (.bool (r5.2 == r6.2)))), _⟩
            refine s_move (d := (sc (.bool (r5.2 == r6.2)))) rfl k
           ·intro K rest fr hv htk k
            show AWops _ x _ _ K ⟨91, (upd 91 (upd 91 fr 54 (sc (.bool (r5.2 == r6.2)))) 9 (D.one (C.ref 2 0))), [(hv 0), (hv 1), (some (AObj.cells true (c_api_Inst r5.1))), (hv 3), (hv 4), (hv 5), (hv 6), (hv 7), (hv 8), (hv 9), (hv 10), (hv 11)]⟩
            refine AWops.guard_yes rfl (nl rfl) rfl c14 ?_
            refine s_loadN (ds := (c_api_Inst r5.1)) F.ag_30 F.sz_30 rfl rfl rfl k
           ·intro K rest fr hv htk k
            show AWops _ x _ _ K ⟨91, (upd 91 (upd 91 fr 54 (sc (.bool (r5.2 == r6.2)))) 11 (D.one (C.ref 3 0))), [(hv 0), (hv 1), (hv 2), (some (AObj.cells true (c_api_Inst r6.1))), (hv 4), (hv 5), (hv 6), (hv 7), (hv 8), (hv 9), (hv 10), (hv 11)]⟩
            refine AWops.guard_yes rfl (nl rfl) rfl c14 ?_
            refine s_loadN (ds := (c_api_Inst r6.1)) F.ag_30 F.sz_30 rfl rfl rfl k
           ·intro K rest fr hv htk k
            show AWops _ x _ _ K ⟨91, (upd 91 (upd 91 (upd 91 fr 56 (D.agg (c_api_Inst r6.1))) 55 (D.agg (c_api_Inst r5.1))) 54 (sc (.bool (r5.2 == r6.2)))), [(hv 0), (hv 1), (hv 2), (hv 3), (hv 4), (hv 5), (hv 6), (hv 7), (hv 8), (hv 9), (hv 10), (hv 11)]⟩
            refine AWops.guard_yes rfl (nl rfl) rfl c14 ?_
            refine s_call2 (ρ := []) (br := false) (H2 := [(hv 0), (hv 1), (hv 2), (hv 3), (hv 4), (hv 5), (hv 6), (hv 7), (hv 8), (hv 9), (hv 10), (hv 11)]) (d := (sc (.bool r15))) F.ca_13 rfl rfl (ac (LendT.aggL (ac .sc (ac .sc (ac .sc (ac .sc (ac .imm (ac .sc an))))))) (ac (LendT.aggL (ac .sc (ac .sc (ac .sc (ac .sc (ac .imm (ac .sc an))))))) an)) an (by decide) rfl (dossierref18_SameInst.meets _ r5.1 r6.1 r15 er15) (.inl rfl) rfl rfl k
           ·intro K rest fr hv htk k
            show AWops _ x _ _ K ⟨91, (upd 91 (upd 91 fr 57 (sc (.bool r15))) 54 (sc (.bool (r5.2 == r6.2)))), _⟩
            refine s_pick_yes (d := (sc (.bool r15))) rfl c14 rfl k
           ·intro K rest fr hv htk k
            show AWops _ x _ _ K ⟨91, (upd 91 fr 58 (sc (.bool r15))), _⟩
            refine s_move (d := (sc (.bool r15))) rfl k
           ·intro K rest fr hv htk k
            show AWops _ x _ _ K ⟨91, (upd 91 (upd 91 fr 59 (sc (.bool r15))) 13 (sc (.bool r13))), _⟩
            refine AWops.guard_yes rfl (nl rfl) rfl c16 ?_
            refine s_move (d := (sc (.bool r13))) rfl k
           ·intro K rest fr hv htk k
            show AWops _ x _ _ K ⟨91, (upd 91 (upd 91 fr 60 (sc (.bool r13))) 59 (sc (.bool r15))), _⟩
            refine s_pick_yes (d := (sc (.bool r13))) rfl c16 rfl k
           ·intro K rest fr hv htk k
            show AWops _ x _ _ K ⟨91, (upd 91 fr 61 (sc (.bool r13))), _⟩
            refine s_move (d := (sc (.bool r13))) rfl k
           ·intro K rest fr hv htk k
            show AWops _ x _ _ K ⟨91, (upd 91 (upd 91 fr 62 (sc (.bool r13))) 4 (D.one (C.ref 0 0))), [(some (AObj.cells true (c_api_Case a0))), (hv 1), (hv 2), (hv 3), (hv 4), (hv 5), (hv 6), (hv 7), (hv 8), (hv 9), (hv 10), (hv 11)]⟩
            refine AWops.guard_yes rfl (nl rfl) rfl c17 ?_
            refine s_loadN (ds := (c_api_Case a0)) F.ag_25 F.sz_25 rfl rfl rfl k
           ·intro K rest fr hv htk k
            show AWops _ x _ _ K ⟨91, (upd 91 (upd 91 fr 62 (sc (.bool r13))) 2 (sc (.string a2))), _⟩
            refine AWops.guard_yes rfl (nl rfl) rfl c17 ?_
            refine s_move (d := (sc (.string a2))) rfl k
           ·intro K rest fr hv htk k
            show AWops _ x _ _ K ⟨91, (upd 91 (upd 91 fr 62 (sc (.bool r13))) 3 (sc (.string a3))), _⟩
            refine AWops.guard_yes rfl (nl rfl) rfl c17 ?_
            refine s_move (d := (sc (.string a3))) rfl k
           ·intro K rest fr hv htk k
            show AWops _ x _ _ K ⟨91, (upd 91 (upd 91 (upd 91 (upd 91 fr 65 (sc (.string a3))) 64 (sc (.string a2))) 63 (D.agg (c_api_Case a0))) 62 (sc (.bool r13))), [(hv 0), (hv 1), (hv 2), (hv 3), (hv 4), (hv 5), (hv 6), (hv 7), (hv 8), (hv 9), (hv 10), (hv 11)]⟩
            refine AWops.guard_yes rfl (nl rfl) rfl c17 ?_
            refine s_call2 (ρ := []) (br := false) (H2 := [(hv 0), (hv 1), (hv 2), (hv 3), (hv 4), (hv 5), (hv 6), (hv 7), (hv 8), (hv 9), (hv 10), (hv 11)]) (d := (sc (.int .i64 r18))) F.ca_14 rfl rfl (ac (LendT.aggL (ac .sc (ac .sc (ac .imm (ac .imm (ac .sc an)))))) (ac (.one .sc) (ac (.one .sc) an))) an (by decide) rfl (tree_Next.meets _ a0 a2 a3 r18 er18) (.inl rfl) rfl rfl k
           ·intro K rest fr hv htk k
            show AWops _ x _ _ K ⟨91, (upd 91 (upd 91 fr 62 (sc (.bool r13))) 4 (D.one (C.ref 0 0))), [(some (AObj.cells true (c_api_Case a0))), (hv 1), (hv 2), (hv 3), (hv 4), (hv 5), (hv 6), (hv 7), (hv 8), (hv 9), (hv 10), (hv 11)]⟩
            refine AWops.guard_yes rfl (nl rfl) rfl c17 ?_
            refine s_loadN (ds := (c_api_Case a0)) F.ag_25 F.sz_25 rfl rfl rfl k
           ·intro K rest fr hv htk k
            show AWops _ x _ _ K ⟨91, (upd 91 (upd 91 fr 62 (sc (.bool r13))) 2 (sc (.string a2))), _⟩
            refine AWops.guard_yes rfl (nl rfl) rfl c17 ?_
            refine s_move (d := (sc (.string a2))) rfl k
           ·intro K rest fr hv htk k
            show AWops _ x _ _ K ⟨91, (upd 91 (upd 91 fr 62 (sc (.bool r13))) 3 (sc (.string a3))), _⟩
            refine AWops.guard_yes rfl (nl rfl) rfl c17 ?_
            refine s_move (d := (sc (.string a3))) rfl k
           ·intro K rest fr hv htk k
            show AWops _ x _ _ K ⟨91, (upd 91 (upd 91 (upd 91 (upd 91 fr 69 (sc (.string a3))) 68 (sc (.string a2))) 67 (D.agg (c_api_Case a0))) 62 (sc (.bool r13))), [(hv 0), (hv 1), (hv 2), (hv 3), (hv 4), (hv 5), (hv 6), (hv 7), (hv 8), (hv 9), (hv 10), (hv 11)]⟩
            refine AWops.guard_yes rfl (nl rfl) rfl c17 ?_
            refine s_call2 (ρ := []) (br := false) (H2 := [(hv 0), (hv 1), (hv 2), (hv 3), (hv 4), (hv 5), (hv 6), (hv 7), (hv 8), (hv 9), (hv 10), (hv 11)]) (d := (sc (.int .i64 r19))) F.ca_15 rfl rfl (ac (LendT.aggL (ac .sc (ac .sc (ac .imm (ac .imm (ac .sc an)))))) (ac (.one .sc) (ac (.one .sc) an))) an (by decide) rfl (dossierref18_Next.meets _ a0 a2 a3 r19 er19) (.inl rfl) rfl rfl k
           ·intro K rest fr hv htk k
            show AWops _ x _ _ K ⟨91, (upd 91 (upd 91 (upd 91 fr 70 (sc (.int .i64 r19))) 66 (sc (.int .i64 r18))) 62 (sc (.bool r13))), _⟩
            refine AWops.guard_yes rfl (nl rfl) rfl c17 ?_
            refine s_binI (v := (.bool (r18 == r19))) rfl rfl rfl k
           ·intro K rest fr hv htk k
            show AWops _ x _ _ K ⟨91, (upd 91 (upd 91 fr 71 (sc (.bool (r18 == r19)))) 62 (sc (.bool r13))), _⟩
            refine s_pick_yes (d := (sc (.bool (r18 == r19)))) rfl c17 rfl k
           ·intro K rest fr hv htk k
            show AWops _ x _ _ K ⟨91, (upd 91 fr 72 (sc (.bool (r18 == r19)))), _⟩
            refine s_move (d := (sc (.bool (r18 == r19)))) rfl k
           ·intro K rest fr hv htk k
            show AWops _ x _ _ K ⟨91, (upd 91 (upd 91 fr 73 (sc (.bool (r18 == r19)))) 4 (D.one (C.ref 0 0))), [(some (AObj.cells true (c_api_Case a0))), (hv 1), (hv 2), (hv 3), (hv 4), (hv 5), (hv 6), (hv 7), (hv 8), (hv 9), (hv 10), (hv 11)]⟩
            refine AWops.guard_yes rfl (nl rfl) rfl c20 ?_
            refine s_loadN (ds := (c_api_Case a0)) F.ag_25 F.sz_25 rfl rfl rfl k
           ·intro K rest fr hv htk k
            show AWops _ x _ _ K ⟨91, (upd 91 (upd 91 fr 73 (sc (.bool (r18 == r19)))) 5 (D.one (C.ref 1 0))), [(hv 0), (some (AObj.cells true (c_api_Case a1))), (hv 2), (hv 3), (hv 4), (hv 5), (hv 6), (hv 7), (hv 8), (hv 9), (hv 10), (hv 11)]⟩
            refine AWops.guard_yes rfl (nl rfl) rfl c20 ?_
            refine s_loadN (ds := (c_api_Case a1)) F.ag_25 F.sz_25 rfl rfl rfl k
           ·intro K rest fr hv htk k
            show AWops _ x _ _ K ⟨91, (upd 91 (upd 91 (upd 91 fr 75 (D.agg (c_api_Case a1))) 74 (D.agg (c_api_Case a0))) 73 (sc (.bool (r18 == r19)))), [(hv 0), (hv 1), (hv 2), (hv 3), (hv 4), (hv 5), (hv 6), (hv 7), (hv 8), (hv 9), (hv 10), (hv 11)]⟩
            refine AWops.guard_yes rfl (nl rfl) rfl c20 ?_
            refine s_call2 (ρ := []) (br := false) (H2 := [(hv 0), (hv 1), (hv 2), (hv 3), (hv 4), (hv 5), (hv 6), (hv 7), (hv 8), (hv 9), (hv 10), (hv 11)]) (d := (sc (.bool r21))) F.ca_16 rfl rfl (ac (LendT.aggL (ac .sc (ac .sc (ac .imm (ac .imm (ac .sc an)))))) (ac (LendT.aggL (ac .sc (ac .sc (ac .imm (ac .imm (ac .sc an)))))) an)) an (by decide) rfl (tree_Same.meets _ a0 a1 r21 er21) (.inl rfl) rfl rfl k
           ·intro K rest fr hv htk k
            show AWops _ x _ _ K ⟨91, (upd 91 (upd 91 fr 73 (sc (.bool (r18 == r19)))) 4 (D.one (C.ref 0 0))), [(some (AObj.cells true (c_api_Case a0))), (hv 1), (hv 2), (hv 3), (hv 4), (hv 5), (hv 6), (hv 7), (hv 8), (hv 9), (hv 10), (hv 11)]⟩
            refine AWops.guard_yes rfl (nl rfl) rfl c20 ?_
            refine s_loadN (ds := (c_api_Case a0)) F.ag_25 F.sz_25 rfl rfl rfl k
           ·intro K rest fr hv htk k
            show AWops _ x _ _ K ⟨91, (upd 91 (upd 91 fr 73 (sc (.bool (r18 == r19)))) 5 (D.one (C.ref 1 0))), [(hv 0), (some (AObj.cells true (c_api_Case a1))), (hv 2), (hv 3), (hv 4), (hv 5), (hv 6), (hv 7), (hv 8), (hv 9), (hv 10), (hv 11)]⟩
            refine AWops.guard_yes rfl (nl rfl) rfl c20 ?_
            refine s_loadN (ds := (c_api_Case a1)) F.ag_25 F.sz_25 rfl rfl rfl k
           ·intro K rest fr hv htk k
            show AWops _ x _ _ K ⟨91, (upd 91 (upd 91 (upd 91 fr 78 (D.agg (c_api_Case a1))) 77 (D.agg (c_api_Case a0))) 73 (sc (.bool (r18 == r19)))), [(hv 0), (hv 1), (hv 2), (hv 3), (hv 4), (hv 5), (hv 6), (hv 7), (hv 8), (hv 9), (hv 10), (hv 11)]⟩
            refine AWops.guard_yes rfl (nl rfl) rfl c20 ?_
            refine s_call2 (ρ := []) (br := false) (H2 := [(hv 0), (hv 1), (hv 2), (hv 3), (hv 4), (hv 5), (hv 6), (hv 7), (hv 8), (hv 9), (hv 10), (hv 11)]) (d := (sc (.bool r22))) F.ca_17 rfl rfl (ac (LendT.aggL (ac .sc (ac .sc (ac .imm (ac .imm (ac .sc an)))))) (ac (LendT.aggL (ac .sc (ac .sc (ac .imm (ac .imm (ac .sc an)))))) an)) an (by decide) rfl (dossierref18_Same.meets _ a0 a1 r22 er22) (.inl rfl) rfl rfl k
           ·intro K rest fr hv htk k
            show AWops _ x _ _ K ⟨91, (upd 91 (upd 91 (upd 91 fr 79 (sc (.bool r22))) 76 (sc (.bool r21))) 73 (sc (.bool (r18 == r19)))), _⟩
            refine AWops.guard_yes rfl (nl rfl) rfl c20 ?_
            refine s_binB (b := (r21 == r22)) F.u_4 rfl rfl (.inl ⟨rfl, rfl⟩) k
           ·intro K rest fr hv htk k
            show AWops _ x _ _ K ⟨91, (upd 91 (upd 91 fr 80 (sc (.bool (r21 == r22)))) 73 (sc (.bool (r18 == r19)))), _⟩
            refine s_pick_yes (d := (sc (.bool (r21 == r22)))) rfl c20 rfl k
           ·intro K rest fr hv htk k
            show AWops _ x _ _ K ⟨91, (upd 91 fr 81 (sc (.bool (r21 == r22)))), _⟩
            refine s_move (d := (sc (.bool (r21 == r22)))) rfl k
           ·intro K rest fr hv htk k
            show AWops _ x _ _ K ⟨91, (upd 91 (upd 91 fr 82 (sc (.bool (r21 == r22)))) 4 (D.one (C.ref 0 0))), [(some (AObj.cells true (c_api_Case a0))), (hv 1), (hv 2), (hv 3), (hv 4), (hv 5), (hv 6), (hv 7), (hv 8), (hv 9), (hv 10), (hv 11)]⟩
            refine AWops.guard_no rfl (nl rfl) rfl c23 k
           ·intro K rest fr hv htk k
            show AWops _ x _ _ K ⟨91, (upd 91 fr 82 (sc (.bool (r21 == r22)))), _⟩
            refine AWops.guard_no rfl (nl rfl) rfl c23 k
           ·intro K rest fr hv htk k
            show AWops _ x _ _ K ⟨91, (upd 91 fr 82 (sc (.bool (r21 == r22)))), _⟩
            refine AWops.guard_no rfl (nl rfl) rfl c23 k
           ·intro K rest fr hv htk k
            show AWops _ x _ _ K ⟨91, (upd 91 fr 82 (sc (.bool (r21 == r22)))), _⟩
            refine AWops.guard_no rfl (nl rfl) rfl c23 k
           ·intro K rest fr hv htk k
            show AWops _ x _ _ K ⟨91, (upd 91 fr 82 (sc (.bool (r21 == r22)))), _⟩
            refine s_pick_no (d := (sc (.bool false))) rfl c23 rfl k
           ·intro K rest fr hv htk k
            show AWops _ x _ _ K ⟨91, (upd 91 fr 87 (sc (.bool false))), _⟩
            refine s_move (d := (sc (.bool false))) rfl k
           ·intro K rest fr hv htk k
            show AWops _ x _ _ K ⟨91, (upd 91 fr 88 (sc (.bool false))), _⟩
            refine AWops.guard_no rfl (nl rfl) rfl rfl k
           ·intro K rest fr hv htk k
            show AWops _ x _ _ K ⟨91, (upd 91 fr 88 (sc (.bool false))), _⟩
            refine s_pick_no (d := (sc (.bool false))) rfl rfl rfl k
           ·intro K rest fr hv htk k
            show AWops _ x _ _ K ⟨91, (upd 91 fr 90 (sc (.bool false))), _⟩
            refine s_assign (d := (sc (.bool false))) rfl k
          ·refine AWops.weak (st' := ⟨91, (upd 91 topF 8 (sc (.bool false))), []⟩) (Weak.gen (kk := 0) [] [] hx rfl (by decide) (by decide) rfl rfl rfl (le_upd (le_top _) (.t (.one .sc))) an) (AWops.nil (AW.ret ?_))
           obtain rfl := Option.some.inj h
           exact ⟨_, rfl, (Weak.gen (kk := 0) [] [] rfl rfl (by decide) (by decide) rfl rfl rfl (le_upd (le_top _) (.t (.one .sc))) an)⟩
        ·refine AW.draw (n := 91) (L := 12) [(0, ⟨some 51, (sc (.bool r5.2)), [(10, (sc (.bool r5.2)))], [], [], none⟩), (1, ⟨some 52, (sc (.bool r6.2)), [(12, (sc (.bool r6.2)))], [], [], none⟩), (2, ⟨some 53, (sc (.bool (r5.2 == r6.2))), [(51, (sc (.bool r5.2))), (52, (sc (.bool r6.2)))], [], [], none⟩), (3, ⟨some 54, (sc (.bool (r5.2 == r6.2))), [(53, (sc (.bool (r5.2 == r6.2))))], [], [], none⟩), (4, ⟨some 55, (D.agg (c_api_Inst r5.1)), [(9, (D.one (C.ref 2 0))), (54, (sc (.bool (r5.2 == r6.2))))], [(2, (some (AObj.cells true (c_api_Inst r5.1))))], [], none⟩), (5, ⟨some 56, (D.agg (c_api_Inst r6.1)), [(11, (D.one (C.ref 3 0))), (54, (sc (.bool (r5.2 == r6.2))))], [(3, (some (AObj.cells true (c_api_Inst r6.1))))], [], none⟩), (6, ⟨some 57, (sc (.bool r15)), [(54, (sc (.bool (r5.2 == r6.2)))), (55, (D.agg (c_api_Inst r5.1))), (56, (D.agg (c_api_Inst r6.1)))], [], [], none⟩), (7, ⟨some 58, (sc (.bool r15)), [(54, (sc (.bool (r5.2 == r6.2)))), (57, (sc (.bool r15)))], [], [], none⟩), (8, ⟨some 59, (sc (.bool r15)), [(58, (sc (.bool r15)))], [], [], none⟩), (9, ⟨some 60, (sc (.bool r13)), [(13, (sc (.bool r13))), (59, (sc (.bool r15)))], [], [], none⟩), (10, ⟨some 61, (sc (.bool r13)), [(59, (sc (.bool r15))), (60, (sc (.bool r13)))], [], [], none⟩), (11, ⟨some 62, (sc (.bool r13)), [(61, (sc (.bool r13)))], [], [], none⟩), (12, ⟨some 63, (D.agg (c_api_Case a0)), [(4, (D.one (C.ref 0 0))), (62, (sc (.bool r13)))], [(0, (some (AObj.cells true (c_api_Case a0))))], [], none⟩), (13, ⟨some 64, (sc (.string a2)), [(2, (sc (.string a2))), (62, (sc (.bool r13)))], [], [], none⟩), (14, ⟨some 65, (sc (.string a3)), [(3, (sc (.string a3))), (62, (sc (.bool r13)))], [], [], none⟩), (15, ⟨some 66, (sc (.int .i64 r18)), [(62, (sc (.bool r13))), (63, (D.agg (c_api_Case a0))), (64, (sc (.string a2))), (65, (sc (.string a3)))], [], [], none⟩), (16, ⟨some 67, (D.agg (c_api_Case a0)), [(4, (D.one (C.ref 0 0))), (62, (sc (.bool r13)))], [(0, (some (AObj.cells true (c_api_Case a0))))], [], none⟩), (17, ⟨some 68, (sc (.string a2)), [(2, (sc (.string a2))), (62, (sc (.bool r13)))], [], [], none⟩), (18, ⟨some 69, (sc (.string a3)), [(3, (sc (.string a3))), (62, (sc (.bool r13)))], [], [], none⟩), (19, ⟨some 70, (sc (.int .i64 r19)), [(62, (sc (.bool r13))), (67, (D.agg (c_api_Case a0))), (68, (sc (.string a2))), (69, (sc (.string a3)))], [], [], none⟩), (20, ⟨some 71, (sc (.bool (r18 == r19))), [(62, (sc (.bool r13))), (66, (sc (.int .i64 r18))), (70, (sc (.int .i64 r19)))], [], [], none⟩), (21, ⟨some 72, (sc (.bool (r18 == r19))), [(62, (sc (.bool r13))), (71, (sc (.bool (r18 == r19))))], [], [], none⟩), (22, ⟨some 73, (sc (.bool (r18 == r19))), [(72, (sc (.bool (r18 == r19))))], [], [], none⟩), (23, ⟨some 74, (D.tup []), [(4, (D.one (C.ref 0 0))), (73, (sc (.bool (r18 == r19))))], [(0, (some (AObj.cells true (c_api_Case a0))))], [], none⟩), (24, ⟨some 75, (D.tup []), [(73, (sc (.bool (r18 == r19))))], [], [], none⟩), (25, ⟨some 76, (D.tup []), [(73, (sc (.bool (r18 == r19))))], [], [], none⟩), (26, ⟨some 77, (D.tup []), [(73, (sc (.bool (r18 == r19))))], [], [], none⟩), (27, ⟨some 78, (D.tup []), [(73, (sc (.bool (r18 == r19))))], [], [], none⟩), (28, ⟨some 79, (D.tup []), [(73, (sc (.bool (r18 == r19))))], [], [], none⟩), (29, ⟨some 80, (D.tup []), [(73, (sc (.bool (r18 == r19))))], [], [], none⟩), (30, ⟨some 81, (sc (.bool false)), [(73, (sc (.bool (r18 == r19))))], [], [], none⟩), (31, ⟨some 82, (sc (.bool false)), [(81, (sc (.bool false)))], [], [], none⟩), (32, ⟨some 83, (D.tup []), [(82, (sc (.bool false)))], [], [], none⟩), (33, ⟨some 84, (D.tup []), [(82, (sc (.bool false)))], [], [], none⟩), (34, ⟨some 85, (D.tup []), [(82, (sc (.bool false)))], [], [], none⟩), (35, ⟨some 86, (D.tup []), [(82, (sc (.bool false)))], [], [], none⟩), (36, ⟨some 87, (sc (.bool false)), [(82, (sc (.bool false)))], [], [], none⟩), (37, ⟨some 88, (sc (.bool false)), [(87, (sc (.bool false)))], [], [], none⟩), (38, ⟨some 89, (D.tup []), [(88, (sc (.bool false)))], [], [], none⟩), (39, ⟨some 90, (sc (.bool false)), [(88, (sc (.bool false)))], [], [], none⟩), (40, ⟨some 8, (sc (.bool false)), [(90, (sc (.bool false)))], [], [], none⟩)] [[], [], [0, 1], [0, 1, 2], [0, 1, 2, 3], [0, 1, 2, 3], [0, 1, 2, 3, 4, 5], [0, 1, 2, 3, 4, 5, 6], [0, 1, 2, 3, 4, 5, 6, 7], [0, 1, 2, 3, 4, 5, 6, 7, 8], [0, 1, 2, 3, 4, 5, 6, 7, 8, 9], [0, 1, 2, 3, 4, 5, 6, 7, 8, 9, 10], [0, 1, 2, 3, 4, 5, 6, 7, 8, 9, 10, 11], [0, 1, 2, 3, 4, 5, 6, 7, 8, 9, 10, 11], [0, 1, 2, 3, 4, 5, 6, 7, 8, 9, 10, 11], [0, 1, 2, 3, 4, 5, 6, 7, 8, 9, 10, 11, 12, 13, 14], [0, 1, 2, 3, 4, 5, 6, 7, 8, 9, 10, 11], [0, 1, 2, 3, 4, 5, 6, 7, 8, 9, 10, 11], [0, 1, 2, 3, 4, 5, 6, 7, 8, 9, 10, 11], [0, 1, 2, 3, 4, 5, 6, 7, 8, 9, 10, 11, 12, 13, 14, 15, 16, 17, 18], [0, 1, 2, 3, 4, 5, 6, 7, 8, 9, 10, 11, 12, 13, 14, 15, 16, 17, 18, 19], [0, 1, 2, 3, 4, 5, 6, 7, 8, 9, 10, 11, 12, 13, 14, 15, 16, 17, 18, 19, 20], [0, 1, 2, 3, 4, 5, 6, 7, 8, 9, 10, 11, 12, 13, 14, 15, 16, 17, 18, 19, 20, 21], [0, 1, 2, 3, 4, 5, 6, 7, 8, 9, 10, 11, 12, 13, 14, 15, 16, 17, 18, 19, 20, 21, 22], [0, 1, 2, 3, 4, 5, 6, 7, 8, 9, 10, 11, 12, 13, 14, 15, 16, 17, 18, 19, 20, 21, 22], [0, 1, 2, 3, 4, 5, 6, 7, 8, 9, 10, 11, 12, 13, 14, 15, 16, 17, 18, 19, 20, 21, 22, 23, 24], [0, 1, 2, 3, 4, 5, 6, 7, 8, 9, 10, 11, 12, 13, 14, 15, 16, 17, 18, 19, 20, 21, 22], [0, 1, 2, 3, 4, 5, 6, 7, 8, 9, 10, 11, 12, 13, 14, 15, 16, 17, 18, 19, 20, 21, 22], [0, 1, 2, 3, 4, 5, 6, 7, 8, 9, 10, 11, 12, 13, 14, 15, 16, 17, 18, 19, 20, 21, 22, 23, 24, 25, 26, 27], [0, 1, 2, 3, 4, 5, 6, 7, 8, 9, 10, 11, 12, 13, 14, 15, 16, 17, 18, 19, 20, 21, 22, 23, 24, 25, 26, 27, 28], [0, 1, 2, 3, 4, 5, 6, 7, 8, 9, 10, 11, 12, 13, 14, 15, 16, 17, 18, 19, 20, 21, 22, 23, 24, 25, 26, 27, 28, 29], [0, 1, 2, 3, 4, 5, 6, 7, 8, 9, 10, 11, 12, 13, 14, 15, 16, 17, 18, 19, 20, 21, 22, 23, 24, 25, 26, 27, 28, 29, 30], [0, 1, 2, 3, 4, 5, 6, 7, 8, 9, 10, 11, 12, 13, 14, 15, 16, 17, 18, 19, 20, 21, 22, 23, 24, 25, 26, 27, 28, 29, 30, 31], [0, 1, 2, 3, 4, 5, 6, 7, 8, 9, 10, 11, 12, 13, 14, 15, 16, 17, 18, 19, 20, 21, 22, 23, 24, 25, 26, 27, 28, 29, 30, 31, 32], [0, 1, 2, 3, 4, 5, 6, 7, 8, 9, 10, 11, 12, 13, 14, 15, 16, 17, 18, 19, 20, 21, 22, 23, 24, 25, 26, 27, 28, 29, 30, 31], [0, 1, 2, 3, 4, 5, 6, 7, 8, 9, 10, 11, 12, 13, 14, 15, 16, 17, 18, 19, 20, 21, 22, 23, 24, 25, 26, 27, 28, 29, 30, 31, 32, 33, 34], [0, 1, 2, 3, 4, 5, 6, 7, 8, 9, 10, 11, 12, 13, 14, 15, 16, 17, 18, 19, 20, 21, 22, 23, 24, 25, 26, 27, 28, 29, 30, 31, 32, 33, 34, 35], [0, 1, 2, 3, 4, 5, 6, 7, 8, 9, 10, 11, 12, 13, 14, 15, 16, 17, 18, 19, 20, 21, 22, 23, 24, 25, 26, 27, 28, 29, 30, 31, 32, 33, 34, 35, 36], [0, 1, 2, 3, 4, 5, 6, 7, 8, 9, 10, 11, 12, 13, 14, 15, 16, 17, 18, 19, 20, 21, 22, 23, 24, 25, 26, 27, 28, 29, 30, 31, 32, 33, 34, 35, 36, 37], [0, 1, 2, 3, 4, 5, 6, 7, 8, 9, 10, 11, 12, 13, 14, 15, 16, 17, 18, 19, 20, 21, 22, 23, 24, 25, 26, 27, 28, 29, 30, 31, 32, 33, 34, 35, 36, 37, 38], [0, 1, 2, 3, 4, 5, 6, 7, 8, 9, 10, 11, 12, 13, 14, 15, 16, 17, 18, 19, 20, 21, 22, 23, 24, 25, 26, 27, 28, 29, 30, 31, 32, 33, 34, 35, 36, 37, 38, 39]] (nl rfl) [0, 0, 1, 2, 3, 3, 4, 5, 6, 7, 8, 9, 10, 10, 10, 11, 10, 10, 10, 12, 13, 14, 15, 16, 16, 17, 16, 16, 18, 19, 20, 21, 22, 23, 22, 24, 25, 26, 27, 28, 29] rfl (TK := []) rfl AllK.nil' (fC ⟨(sC rfl AllS.nil'), AllH.nil'⟩ (fC ⟨(sC rfl AllS.nil'), AllH.nil'⟩ (fC ⟨(sC rfl (sC rfl AllS.nil')), AllH.nil'⟩ (fC ⟨(sC rfl AllS.nil'), AllH.nil'⟩ (fC ⟨(sC rfl (sC rfl AllS.nil')), (hC rfl AllH.nil')⟩ (fC ⟨(sC rfl (sC rfl AllS.nil')), (hC rfl AllH.nil')⟩ (fC ⟨(sC rfl (sC rfl (sC rfl AllS.nil'))), AllH.nil'⟩ (fC ⟨(sC rfl (sC rfl AllS.nil')), AllH.nil'⟩ (fC ⟨(sC rfl AllS.nil'), AllH.nil'⟩ (fC ⟨(sC rfl (sC rfl AllS.nil')), AllH.nil'⟩ (fC ⟨(sC rfl (sC rfl AllS.nil')), AllH.nil'⟩ (fC ⟨(sC rfl AllS.nil'), AllH.nil'⟩ (fC ⟨(sC rfl (sC rfl AllS.nil')), (hC rfl AllH.nil')⟩ (fC ⟨(sC rfl (sC rfl AllS.nil')), AllH.nil'⟩ (fC ⟨(sC rfl (sC rfl AllS.nil')), AllH.nil'⟩ (fC ⟨(sC rfl (sC rfl (sC rfl (sC rfl AllS.nil')))), AllH.nil'⟩ (fC ⟨(sC rfl (sC rfl AllS.nil')), (hC rfl AllH.nil')⟩ (fC ⟨(sC rfl (sC rfl AllS.nil')), AllH.nil'⟩ (fC ⟨(sC rfl (sC rfl AllS.nil')), AllH.nil'⟩ (fC ⟨(sC rfl (sC rfl (sC rfl (sC rfl AllS.nil')))), AllH.nil'⟩ (fC ⟨(sC rfl (sC rfl (sC rfl AllS.nil'))), AllH.nil'⟩ (fC ⟨(sC rfl (sC rfl AllS.nil')), AllH.nil'⟩ (fC ⟨(sC rfl AllS.nil'), AllH.nil'⟩ (fC ⟨(sC rfl (sC rfl AllS.nil')), (hC rfl AllH.nil')⟩ (fC ⟨(sC rfl AllS.nil'), AllH.nil'⟩ (fC ⟨(sC rfl AllS.nil'), AllH.nil'⟩ (fC ⟨(sC rfl AllS.nil'), AllH.nil'⟩ (fC ⟨(sC rfl AllS.nil'), AllH.nil'⟩ (fC ⟨(sC rfl AllS.nil'), AllH.nil'⟩ (fC ⟨(sC rfl AllS.nil'), AllH.nil'⟩ (fC ⟨(sC rfl AllS.nil'), AllH.nil'⟩ (fC ⟨(sC rfl AllS.nil'), AllH.nil'⟩ (fC ⟨(sC rfl AllS.nil'), AllH.nil'⟩ (fC ⟨(sC rfl AllS.nil'), AllH.nil'⟩ (fC ⟨(sC rfl AllS.nil'), AllH.nil'⟩ (fC ⟨(sC rfl AllS.nil'), AllH.nil'⟩ (fC ⟨(sC rfl AllS.nil'), AllH.nil'⟩ (fC ⟨(sC rfl AllS.nil'), AllH.nil'⟩ (fC ⟨(sC rfl AllS.nil'), AllH.nil'⟩ (fC ⟨(sC rfl AllS.nil'), AllH.nil'⟩ (fC ⟨(sC rfl AllS.nil'), AllH.nil'⟩ AllF.nil'))))))))))))))))))))))))))))))))))))))))) ?_ ?_
         ·refine (pC ?_ (pC ?_ (pC ?_ (pC ?_ (pC ?_ (pC ?_ (pC ?_ (pC ?_ (pC ?_ (pC ?_ (pC ?_ (pC ?_ (pC ?_ (pC ?_ (pC ?_ (pC ?_ (pC ?_ (pC ?_ (pC ?_ (pC ?_ (pC ?_ (pC ?_ (pC ?_ (pC ?_ (pC ?_ (pC ?_ (pC ?_ (pC ?_ (pC ?_ (pC ?_ (pC ?_ (pC ?_ (pC ?_ (pC ?_ (pC ?_ (pC ?_ (pC ?_ (pC ?_ (pC ?_ (pC ?_ (pC ?_ AllStep.nil')))))))))))))))))))))))))))))))))))))))))
          ·intro K rest fr hv htk k
           show AWops _ x _ _ K ⟨91, (upd 91 fr 10 (sc (.bool r5.2))), _⟩
           refine s_move (d := (sc (.bool r5.2))) rfl k
          ·intro K rest fr hv htk k
           show AWops _ x _ _ K ⟨91, (upd 91 fr 12 (sc (.bool r6.2))), _⟩
           refine s_move (d := (sc (.bool r6.2))) rfl k
          ·intro K rest fr hv htk k
           show AWops _ x _ _ K ⟨91, (upd 91 (upd 91 fr 52 (sc (.bool r6.2))) 51 (sc (.bool r5.2))), _⟩
           refine s_binB (b := (r5.2 == r6.2)) F.u_4 rfl rfl (.inl ⟨rfl, rfl⟩) k
          ·intro K rest fr hv htk k
           show AWops _ x _ _ K ⟨91, (upd 91 fr 53 (sc (.bool (r5.2 == r6.2)))), _⟩
           refine s_move (d := (sc (.bool (r5.2 == r6.2)))) rfl k
          ·intro K rest fr hv htk k
           show AWops _ x _ _ K ⟨91, (upd 91 (upd 91 fr 54 (sc (.bool (r5.2 == r6.2)))) 9 (D.one (C.ref 2 0))), [(hv 0), (hv 1), (some (AObj.cells true (c_api_Inst r5.1))), (hv 3), (hv 4), (hv 5), (hv 6), (hv 7), (hv 8), (hv 9), (hv 10), (hv 11)]⟩
           refine AWops.guard_yes rfl (nl rfl) rfl c14 ?_
           refine s_loadN (ds := (c_api_Inst r5.1)) F.ag_30 F.sz_30 rfl rfl rfl k
          ·intro K rest fr hv htk k
           show AWops _ x _ _ K ⟨91, (upd 91 (upd 91 fr 54 (sc (.bool (r5.2 == r6.2)))) 11 (D.one (C.ref 3 0))), [(hv 0), (hv 1), (hv 2), (some (AObj.cells true (c_api_Inst r6.1))), (hv 4), (hv 5), (hv 6), (hv 7), (hv 8), (hv 9), (hv 10), (hv 11)]⟩
           refine AWops.guard_yes rfl (nl rfl) rfl c14 ?_
           refine s_loadN (ds := (c_api_Inst r6.1)) F.ag_30 F.sz_30 rfl rfl rfl k
          ·intro K rest fr hv htk k
           show AWops _ x _ _ K ⟨91, (upd 91 (upd 91 (upd 91 fr 56 (D.agg (c_api_Inst r6.1))) 55 (D.agg (c_api_Inst r5.1))) 54 (sc (.bool (r5.2 == r6.2)))), [(hv 0), (hv 1), (hv 2), (hv 3), (hv 4), (hv 5), (hv 6), (hv 7), (hv 8), (hv 9), (hv 10), (hv 11)]⟩
           refine AWops.guard_yes rfl (nl rfl) rfl c14 ?_
           refine s_call2 (ρ := []) (br := false) (H2 := [(hv 0), (hv 1), (hv 2), (hv 3), (hv 4), (hv 5), (hv 6), (hv 7), (hv 8), (hv 9), (hv 10), (hv 11)]) (d := (sc (.bool r15))) F.ca_13 rfl rfl (ac (LendT.aggL (ac .sc (ac .sc (ac .sc (ac .sc (ac .imm (ac .sc an))))))) (ac (LendT.aggL (ac .sc (ac .sc (ac .sc (ac .sc (ac .imm (ac .sc an))))))) an)) an (by decide) rfl (dossierref18_SameInst.meets _ r5.1 r6.1 r15 er15) (.inl rfl) rfl rfl k
          ·intro K rest fr hv htk k
           show AWops _ x _ _ K ⟨91, (upd 91 (upd 91 fr 57 (sc (.bool r15))) 54 (sc (.bool (r5.2 == r6.2)))), _⟩
           refine s_pick_yes (d := (sc (.bool r15))) rfl c14 rfl k
          ·intro K rest fr hv htk k
           show AWops _ x _ _ K ⟨91, (upd 91 fr 58 (sc (.bool r15))), _⟩
           refine s_move (d := (sc (.bool r15))) rfl k
          ·intro K rest fr hv htk k
           show AWops _ x _ _ K ⟨91, (upd 91 (upd 91 fr 59 (sc (.bool r15))) 13 (sc (.bool r13))), _⟩
           refine AWops.guard_yes rfl (nl rfl) rfl c16 ?_
           refine s_move (d := (sc (.bool r13))) rfl k
          ·intro K rest fr hv htk k
           show AWops _ x _ _ K ⟨91, (upd 91 (upd 91 fr 60 (sc (.bool r13))) 59 (sc (.bool r15))), _⟩
           refine s_pick_yes (d := (sc (.bool r13))) rfl c16 rfl k
          ·intro K rest fr hv htk k
           show AWops _ x _ _ K ⟨91, (upd 91 fr 61 (sc (.bool r13))), _⟩
           refine s_move (d := (sc (.bool r13))) rfl k
          ·intro K rest fr hv htk k
           show AWops _ x _ _ K ⟨91, (upd 91 (upd 91 fr 62 (sc (.bool r13))) 4 (D.one (C.ref 0 0))), [(some (AObj.cells true (c_api_Case a0))), (hv 1), (hv 2), (hv 3), (hv 4), (hv 5), (hv 6), (hv 7), (hv 8), (hv 9), (hv 10), (hv 11)]⟩
           refine AWops.guard_yes rfl (nl rfl) rfl c17 ?_
           refine s_loadN (ds := (c_api_Case a0)) F.ag_25 F.sz_25 rfl rfl rfl k
          ·intro K rest fr hv htk k
           show AWops _ x _ _ K ⟨91, (upd 91 (upd 91 fr 62 (sc (.bool r13))) 2 (sc (.string a2))), _⟩
           refine AWops.guard_yes rfl (nl rfl) rfl c17 ?_
           refine s_move (d := (sc (.string a2))) rfl k
          ·intro K rest fr hv htk k
           show AWops _ x _ _ K ⟨91, (upd 91 (upd 91 fr 62 (sc (.bool r13))) 3 (sc (.string a3))), _⟩
           refine AWops.guard_yes rfl (nl rfl) rfl c17 ?_
           refine s_move (d := (sc (.string a3))) rfl k
          ·intro K rest fr hv htk k
           show AWops _ x _ _ K ⟨91, (upd 91 (upd 91 (upd 91 (upd 91 fr 65 (sc (.string a3))) 64 (sc (.string a2))) 63 (D.agg (c_api_Case a0))) 62 (sc (.bool r13))), [(hv 0), (hv 1), (hv 2), (hv 3), (hv 4), (hv 5), (hv 6), (hv 7), (hv 8), (hv 9), (hv 10), (hv 11)]⟩
           refine AWops.guard_yes rfl (nl rfl) rfl c17 ?_
           refine s_call2 (ρ := []) (br := false) (H2 := [(hv 0), (hv 1), (hv 2), (hv 3), (hv 4), (hv 5), (hv 6), (hv 7), (hv 8), (hv 9), (hv 10), (hv 11)]) (d := (sc (.int .i64 r18))) F.ca_14 rfl rfl (ac (LendT.aggL (ac .sc (ac .sc (ac .imm (ac .imm (ac .sc an)))))) (ac (.one .sc) (ac (.one .sc) an))) an (by decide) rfl (tree_Next.meets _ a0 a2 a3 r18 er18) (.inl rfl) rfl rfl k
          ·intro K rest fr hv htk k
           show AWops _ x _ _ K ⟨91, (upd 91 (upd 91 fr 62 (sc (.bool r13))) 4 (D.one (C.ref 0 0))), [(some (AObj.cells true (c_api_Case a0))), (hv 1), (hv 2), (hv 3), (hv 4), (hv 5), (hv 6), (hv 7), (hv 8), (hv 9), (hv 10), (hv 11)]⟩
           refine AWops.guard_yes rfl (nl rfl) rfl c17 ?_
           refine s_loadN (ds := (c_api_Case a0)) F.ag_25 F.sz_25 rfl rfl rfl k
          ·intro K rest fr hv htk k
           show AWops _ x _ _ K ⟨91, (upd 91 (upd 91 fr 62 (sc (.bool r13))) 2 (sc (.string a2))), _⟩
           refine AWops.guard_yes rfl (nl rfl) rfl c17 ?_
           refine s_move (d := (sc (.string a2))) rfl k
          ·intro K rest fr hv htk k
           show AWops _ x _ _ K ⟨91, (upd 91 (upd 91 fr 62 (sc (.bool r13))) 3 (sc (.string a3))), _⟩
           refine AWops.guard_yes rfl (nl rfl) rfl c17 ?_
           refine s_move (d := (sc (.string a3))) rfl k
          ·intro K rest fr hv htk k
           show AWops _ x _ _ K ⟨91, (upd 91 (upd 91 (upd 91 (upd 91 fr 69 (sc (.string a3))) 68 (sc (.string a2))) 67 (D.agg (c_api_Case a0))) 62 (sc (.bool r13))), [(hv 0), (hv 1), (hv 2), (hv 3), (hv 4), (hv 5), (hv 6), (hv 7), (hv 8), (hv 9), (hv 10), (hv 11)]⟩
           refine AWops.guard_yes rfl (nl rfl) rfl c17 ?_
           refine s_call2 (ρ := []) (br := false) (H2 := [(hv 0), (hv 1), (hv 2), (hv 3), (hv 4), (hv 5), (hv 6), (hv 7), (hv 8), (hv 9), (hv 10), (hv 11)]) (d := (sc (.int .i64 r19))) F.ca_15 rfl rfl (ac (LendT.aggL (ac .sc (ac .sc (ac .imm (ac .imm (ac .sc an)))))) (ac (.one .sc) (ac (.one .sc) an))) an (by decide) rfl (dossierref18_Next.meets _ a0 a2 a3 r19 er19) (.inl rfl) rfl rfl k
          ·intro K rest fr hv htk k
           show AWops _ x _ _ K ⟨91, (upd 91 (upd 91 (upd 91 fr 70 (sc (.int .i64 r19))) 66 (sc (.int .i64 r18))) 62 (sc (.bool r13))), _⟩
           refine AWops.guard_yes rfl (nl rfl) rfl c17 ?_
           refine s_binI (v := (.bool (r18 == r19))) rfl rfl rfl k
          ·intro K rest fr hv htk k
           show AWops _ x _ _ K ⟨91, (upd 91 (upd 91 fr 71 (sc (.bool (r18 == r19)))) 62 (sc (.bool r13))), _⟩
           refine s_pick_yes (d := (sc (.bool (r18 == r19)))) rfl c17 rfl k
          ·intro K rest fr hv htk k
           show AWops _ x _ _ K ⟨91, (upd 91 fr 72 (sc (.bool (r18 == r19)))), _⟩
           refine s_move (d := (sc (.bool (r18 == r19)))) rfl k
          ·intro K rest fr hv htk k
           show AWops _ x _ _ K ⟨91, (upd 91 (upd 91 fr 73 (sc (.bool (r18 == r19)))) 4 (D.one (C.ref 0 0))), [(some (AObj.cells true (c_api_Case a0))), (hv 1), (hv 2), (hv 3), (hv 4), (hv 5), (hv 6), (hv 7), (hv 8), (hv 9), (hv 10), (hv 11)]⟩
           refine AWops.guard_no rfl (nl rfl) rfl c20 k
          ·intro K rest fr hv htk k
           show AWops _ x _ _ K ⟨91, (upd 91 fr 73 (sc (.bool (r18 == r19)))), _⟩
           refine AWops.guard_no rfl (nl rfl) rfl c20 k
          ·intro K rest fr hv htk k
           show AWops _ x _ _ K ⟨91, (upd 91 fr 73 (sc (.bool (r18 == r19)))), _⟩
           refine AWops.guard_no rfl (nl rfl) rfl c20 k
          ·intro K rest fr hv htk k
           show AWops _ x _ _ K ⟨91, (upd 91 fr 73 (sc (.bool (r18 == r19)))), _⟩
           refine AWops.guard_no rfl (nl rfl) rfl c20 k
          ·intro K rest fr hv htk k
           show AWops _ x _ _ K ⟨91, (upd 91 fr 73 (sc (.bool (r18 == r19)))), _⟩
           refine AWops.guard_no rfl (nl rfl) rfl c20 k
          ·intro K rest fr hv htk k
           show AWops _ x _ _ K ⟨91, (upd 91 fr 73 (sc (.bool (r18 == r19)))), _⟩
           refine AWops.guard_no rfl (nl rfl) rfl c20 k
          ·intro K rest fr hv htk k
           show AWops _ x _ _ K ⟨91, (upd 91 fr 73 (sc (.bool (r18 == r19)))), _⟩
           refine AWops.guard_no rfl (nl rfl) rfl c20 k
          ·intro K rest fr hv htk k
           show AWops _ x _ _ K ⟨91, (upd 91 fr 73 (sc (.bool (r18 == r19)))), _⟩
           refine s_pick_no (d := (sc (.bool false))) rfl c20 rfl k
          ·intro K rest fr hv htk k
           show AWops _ x _ _ K ⟨91, (upd 91 fr 81 (sc (.bool false))), _⟩
           refine s_move (d := (sc (.bool false))) rfl k
          ·intro K rest fr hv htk k
           show AWops _ x _ _ K ⟨91, (upd 91 fr 82 (sc (.bool false))), _⟩
           refine AWops.guard_no rfl (nl rfl) rfl rfl k
          ·intro K rest fr hv htk k
           show AWops _ x _ _ K ⟨91, (upd 91 fr 82 (sc (.bool false))), _⟩
           refine AWops.guard_no rfl (nl rfl) rfl rfl k
          ·intro K rest fr hv htk k
           show AWops _ x _ _ K ⟨91, (upd 91 fr 82 (sc (.bool false))), _⟩
           refine AWops.guard_no rfl (nl rfl) rfl rfl k
          ·intro K rest fr hv htk k
           show AWops _ x _ _ K ⟨91, (upd 91 fr 82 (sc (.bool false))), _⟩
           refine AWops.guard_no rfl (nl rfl) rfl rfl k
          ·intro K rest fr hv htk k
           show AWops _ x _ _ K ⟨91, (upd 91 fr 82 (sc (.bool false))), _⟩
           refine s_pick_no (d := (sc (.bool false))) rfl rfl rfl k
          ·intro K rest fr hv htk k
           show AWops _ x _ _ K ⟨91, (upd 91 fr 87 (sc (.bool false))), _⟩
           refine s_move (d := (sc (.bool false))) rfl k
          ·intro K rest fr hv htk k
           show AWops _ x _ _ K ⟨91, (upd 91 fr 88 (sc (.bool false))), _⟩
           refine AWops.guard_no rfl (nl rfl) rfl rfl k
          ·intro K rest fr hv htk k
           show AWops _ x _ _ K ⟨91, (upd 91 fr 88 (sc (.bool false))), _⟩
           refine s_pick_no (d := (sc (.bool false))) rfl rfl rfl k
          ·intro K rest fr hv htk k
           show AWops _ x _ _ K ⟨91, (upd 91 fr 90 (sc (.bool false))), _⟩
           refine s_assign (d := (sc (.bool false))) rfl k
         ·refine AWops.weak (st' := ⟨91, (upd 91 topF 8 (sc (.bool false))), []⟩) (Weak.gen (kk := 0) [] [] hx rfl (by decide) (by decide) rfl rfl rfl (le_upd (le_top _) (.t (.one .sc))) an) (AWops.nil (AW.ret ?_))
          obtain rfl := Option.some.inj h
          exact ⟨_, rfl, (Weak.gen (kk := 0) [] [] rfl rfl (by decide) (by decide) rfl rfl rfl (le_upd (le_top _) (.t (.one .sc))) an)⟩
       ·refine AW.draw (n := 91) (L := 12) [(0, ⟨some 51, (sc (.bool r5.2)), [(10, (sc (.bool r5.2)))], [], [], none⟩), (1, ⟨some 52, (sc (.bool r6.2)), [(12, (sc (.bool r6.2)))], [], [], none⟩), (2, ⟨some 53, (sc (.bool (r5.2 == r6.2))), [(51, (sc (.bool r5.2))), (52, (sc (.bool r6.2)))], [], [], none⟩), (3, ⟨some 54, (sc (.bool (r5.2 == r6.2))), [(53, (sc (.bool (r5.2 == r6.2))))], [], [], none⟩), (4, ⟨some 55, (D.agg (c_api_Inst r5.1)), [(9, (D.one (C.ref 2 0))), (54, (sc (.bool (r5.2 == r6.2))))], [(2, (some (AObj.cells true (c_api_Inst r5.1))))], [], none⟩), (5, ⟨some 56, (D.agg (c_api_Inst r6.1)), [(11, (D.one (C.ref 3 0))), (54, (sc (.bool (r5.2 == r6.2))))], [(3, (some (AObj.cells true (c_api_Inst r6.1))))], [], none⟩), (6, ⟨some 57, (sc (.bool r15)), [(54, (sc (.bool (r5.2 == r6.2)))), (55, (D.agg (c_api_Inst r5.1))), (56, (D.agg (c_api_Inst r6.1)))], [], [], none⟩), (7, ⟨some 58, (sc (.bool r15)), [(54, (sc (.bool (r5.2 == r6.2)))), (57, (sc (.bool r15)))], [], [], none⟩), (8, ⟨some 59, (sc (.bool r15)), [(58, (sc (.bool r15)))], [], [], none⟩), (9, ⟨some 60, (sc (.bool r13)), [(13, (sc (.bool r13))), (59, (sc (.bool r15)))], [], [], none⟩), (10, ⟨some 61, (sc (.bool r13)), [(59, (sc (.bool r15))), (60, (sc (.bool r13)))], [], [], none⟩), (11, ⟨some 62, (sc (.bool r13)), [(61, (sc (.bool r13)))], [], [], none⟩), (12, ⟨some 63, (D.tup []), [(4, (D.one (C.ref 0 0))), (62, (sc (.bool r13)))], [(0, (some (AObj.cells true (c_api_Case a0))))], [], none⟩), (13, ⟨some 64, (D.tup []), [(62, (sc (.bool r13)))], [], [], none⟩), (14, ⟨some 65, (D.tup []), [(62, (sc (.bool r13)))], [], [], none⟩), (15, ⟨some 66, (D.tup []), [(62, (sc (.bool r13)))], [], [], none⟩), (16, ⟨some 67, (D.tup []), [(62, (sc (.bool r13)))], [], [], none⟩), (17, ⟨some 68, (D.tup []), [(62, (sc (.bool r13)))], [], [], none⟩), (18, ⟨some 69, (D.tup []), [(62, (sc (.bool r13)))], [], [], none⟩), (19, ⟨some 70, (D.tup []), [(62, (sc (.bool r13)))], [], [], none⟩), (20, ⟨some 71, (D.tup []), [(62, (sc (.bool r13)))], [], [], none⟩), (21, ⟨some 72, (sc (.bool false)), [(62, (sc (.bool r13)))], [], [], none⟩), (22, ⟨some 73, (sc (.bool false)), [(72, (sc (.bool false)))], [], [], none⟩), (23, ⟨some 74, (D.tup []), [(73, (sc (.bool false)))], [], [], none⟩), (24, ⟨some 75, (D.tup []), [(73, (sc (.bool false)))], [], [], none⟩), (25, ⟨some 76, (D.tup []), [(73, (sc (.bool false)))], [], [], none⟩), (26, ⟨some 77, (D.tup []), [(73, (sc (.bool false)))], [], [], none⟩), (27, ⟨some 78, (D.tup []), [(73, (sc (.bool false)))], [], [], none⟩), (28, ⟨some 79, (D.tup []), [(73, (sc (.bool false)))], [], [], none⟩), (29, ⟨some 80, (D.tup []), [(73, (sc (.bool false)))], [], [], none⟩), (30, ⟨some 81, (sc (.bool false)), [(73, (sc (.bool false)))], [], [], none⟩), (31, ⟨some 82, (sc (.bool false)), [(81, (sc (.bool false)))], [], [], none⟩), (32, ⟨some 83, (D.tup []), [(82, (sc (.bool false)))], [], [], none⟩), (33, ⟨some 84, (D.tup []), [(82, (sc (.bool false)))], [], [], none⟩), (34, ⟨some 85, (D.tup []), [(82, (sc (.bool false)))], [], [], none⟩), (35, ⟨some 86, (D.tup []), [(82, (sc (.bool false)))], [], [], none⟩), (36, ⟨some 87, (sc (.bool false)), [(82, (sc (.bool false)))], [], [], none⟩), (37, ⟨some 88, (sc (.bool false)), [(87, (sc (.bool false)))], [], [], none⟩), (38, ⟨some 89, (D.tup []), [(88, (sc (.bool false)))], [], [], none⟩), (39, ⟨some 90, (sc (.bool false)), [(88, (sc (.bool false)))], [], [], none⟩), (40, ⟨some 8, (sc (.bool false)), [(90, (sc (.bool false)))], [], [], none⟩)] [[], [], [0, 1], [0, 1, 2], [0, 1, 2, 3], [0, 1, 2, 3], [0, 1, 2, 3, 4, 5], [0, 1, 2, 3, 4, 5, 6], [0, 1, 2, 3, 4, 5, 6, 7], [0, 1, 2, 3, 4, 5, 6, 7, 8], [0, 1, 2, 3, 4, 5, 6, 7, 8, 9], [0, 1, 2, 3, 4, 5, 6, 7, 8, 9, 10], [0, 1, 2, 3, 4, 5, 6, 7, 8, 9, 10, 11], [0, 1, 2, 3, 4, 5, 6, 7, 8, 9, 10, 11], [0, 1, 2, 3, 4, 5, 6, 7, 8, 9, 10, 11], [0, 1, 2, 3, 4, 5, 6, 7, 8, 9, 10, 11, 12, 13, 14], [0, 1, 2, 3, 4, 5, 6, 7, 8, 9, 10, 11], [0, 1, 2, 3, 4, 5, 6, 7, 8, 9, 10, 11], [0, 1, 2, 3, 4, 5, 6, 7, 8, 9, 10, 11], [0, 1, 2, 3, 4, 5, 6, 7, 8, 9, 10, 11, 12, 13, 14, 15, 16, 17, 18], [0, 1, 2, 3, 4, 5, 6, 7, 8, 9, 10, 11, 12, 13, 14, 15, 16, 17, 18, 19], [0, 1, 2, 3, 4, 5, 6, 7, 8, 9, 10, 11, 12, 13, 14, 15, 16, 17, 18, 19, 20], [0, 1, 2, 3, 4, 5, 6, 7, 8, 9, 10, 11, 12, 13, 14, 15, 16, 17, 18, 19, 20, 21], [0, 1, 2, 3, 4, 5, 6, 7, 8, 9, 10, 11, 12, 13, 14, 15, 16, 17, 18, 19, 20, 21, 22], [0, 1, 2, 3, 4, 5, 6, 7, 8, 9, 10, 11, 12, 13, 14, 15, 16, 17, 18, 19, 20, 21, 22], [0, 1, 2, 3, 4, 5, 6, 7, 8, 9, 10, 11, 12, 13, 14, 15, 16, 17, 18, 19, 20, 21, 22, 23, 24], [0, 1, 2, 3, 4, 5, 6, 7, 8, 9, 10, 11, 12, 13, 14, 15, 16, 17, 18, 19, 20, 21, 22], [0, 1, 2, 3, 4, 5, 6, 7, 8, 9, 10, 11, 12, 13, 14, 15, 16, 17, 18, 19, 20, 21, 22], [0, 1, 2, 3, 4, 5, 6, 7, 8, 9, 10, 11, 12, 13, 14, 15, 16, 17, 18, 19, 20, 21, 22, 23, 24, 25, 26, 27], [0, 1, 2, 3, 4, 5, 6, 7, 8, 9, 10, 11, 12, 13, 14, 15, 16, 17, 18, 19, 20, 21, 22, 23, 24, 25, 26, 27, 28], [0, 1, 2, 3, 4, 5, 6, 7, 8, 9, 10, 11, 12, 13, 14, 15, 16, 17, 18, 19, 20, 21, 22, 23, 24, 25, 26, 27, 28, 29], [0, 1, 2, 3, 4, 5, 6, 7, 8, 9, 10, 11, 12, 13, 14, 15, 16, 17, 18, 19, 20, 21, 22, 23, 24, 25, 26, 27, 28, 29, 30], [0, 1, 2, 3, 4, 5, 6, 7, 8, 9, 10, 11, 12, 13, 14, 15, 16, 17, 18, 19, 20, 21, 22, 23, 24, 25, 26, 27, 28, 29, 30, 31], [0, 1, 2, 3, 4, 5, 6, 7, 8, 9, 10, 11, 12, 13, 14, 15, 16, 17, 18, 19, 20, 21, 22, 23, 24, 25, 26, 27, 28, 29, 30, 31, 32], [0, 1, 2, 3, 4, 5, 6, 7, 8, 9, 10, 11, 12, 13, 14, 15, 16, 17, 18, 19, 20, 21, 22, 23, 24, 25, 26, 27, 28, 29, 30, 31], [0, 1, 2, 3, 4, 5, 6, 7, 8, 9, 10, 11, 12, 13, 14, 15, 16, 17, 18, 19, 20, 21, 22, 23, 24, 25, 26, 27, 28, 29, 30, 31, 32, 33, 34], [0, 1, 2, 3, 4, 5, 6, 7, 8, 9, 10, 11, 12, 13, 14, 15, 16, 17, 18, 19, 20, 21, 22, 23, 24, 25, 26, 27, 28, 29, 30, 31, 32, 33, 34, 35], [0, 1, 2, 3, 4, 5, 6, 7, 8, 9, 10, 11, 12, 13, 14, 15, 16, 17, 18, 19, 20, 21, 22, 23, 24, 25, 26, 27, 28, 29, 30, 31, 32, 33, 34, 35, 36], [0, 1, 2, 3, 4, 5, 6, 7, 8, 9, 10, 11, 12, 13, 14, 15, 16, 17, 18, 19, 20, 21, 22, 23, 24, 25, 26, 27, 28, 29, 30, 31, 32, 33, 34, 35, 36, 37], [0, 1, 2, 3, 4, 5, 6, 7, 8, 9, 10, 11, 12, 13, 14, 15, 16, 17, 18, 19, 20, 21, 22, 23, 24, 25, 26, 27, 28, 29, 30, 31, 32, 33, 34, 35, 36, 37, 38], [0, 1, 2, 3, 4, 5, 6, 7, 8, 9, 10, 11, 12, 13, 14, 15, 16, 17, 18, 19, 20, 21, 22, 23, 24, 25, 26, 27, 28, 29, 30, 31, 32, 33, 34, 35, 36, 37, 38, 39]] (nl rfl) [0, 0, 1, 2, 3, 3, 4, 5, 6, 7, 8, 9, 10, 10, 10, 11, 10, 10, 10, 12, 13, 14, 15, 16, 16, 17, 16, 16, 18, 19, 20, 21, 22, 23, 22, 24, 25, 26, 27, 28, 29] rfl (TK := []) rfl AllK.nil' (fC ⟨(sC rfl AllS.nil'), AllH.nil'⟩ (fC ⟨(sC rfl AllS.nil'), AllH.nil'⟩ (fC ⟨(sC rfl (sC rfl AllS.nil')), AllH.nil'⟩ (fC ⟨(sC rfl AllS.nil'), AllH.nil'⟩ (fC ⟨(sC rfl (sC rfl AllS.nil')), (hC rfl AllH.nil')⟩ (fC ⟨(sC rfl (sC rfl AllS.nil')), (hC rfl AllH.nil')⟩ (fC ⟨(sC rfl (sC rfl (sC rfl AllS.nil'))), AllH.nil'⟩ (fC ⟨(sC rfl (sC rfl AllS.nil')), AllH.nil'⟩ (fC ⟨(sC rfl AllS.nil'), AllH.nil'⟩ (fC ⟨(sC rfl (sC rfl AllS.nil')), AllH.nil'⟩ (fC ⟨(sC rfl (sC rfl AllS.nil')), AllH.nil'⟩ (fC ⟨(sC rfl AllS.nil'), AllH.nil'⟩ (fC ⟨(sC rfl (sC rfl AllS.nil')), (hC rfl AllH.nil')⟩ (fC ⟨(sC rfl AllS.nil'), AllH.nil'⟩ (fC ⟨(sC rfl AllS.nil'), AllH.nil'⟩ (fC ⟨(sC rfl AllS.nil'), AllH.nil'⟩ (fC ⟨(sC rfl AllS.nil'), AllH.nil'⟩ (fC ⟨(sC rfl AllS.nil'), AllH.nil'⟩ (fC ⟨(sC rfl AllS.nil'), AllH.nil'⟩ (fC ⟨(sC rfl AllS.nil'), AllH.nil'⟩ (fC ⟨(sC rfl AllS.nil'), AllH.nil'⟩ (fC ⟨(sC rfl AllS.nil'), AllH.nil'⟩ (fC ⟨(sC rfl AllS.nil'), AllH.nil'⟩ (fC ⟨(sC rfl AllS.nil'), AllH.nil'⟩ (fC ⟨(sC rfl AllS.nil'), AllH.nil'⟩ (fC ⟨(sC rfl AllS.nil'), AllH.nil'⟩ (fC ⟨(sC rfl AllS.nil'), AllH.nil'⟩ (fC ⟨(sC rfl AllS.nil'), AllH.nil'⟩ (fC ⟨(sC rfl AllS.nil'), AllH.nil'⟩ (fC ⟨(sC rfl AllS.nil'), AllH.nil'⟩ (fC ⟨(sC rfl AllS.nil'), AllH.nil'⟩ (fC ⟨(sC rfl AllS.nil'), AllH.nil'⟩ (fC ⟨(sC rfl AllS.nil'), AllH.nil'⟩ (fC ⟨(sC rfl AllS.nil'), AllH.nil'⟩ (fC ⟨(sC rfl AllS.nil'), AllH.nil'⟩ (fC ⟨(sC rfl AllS.nil'), AllH.nil'⟩ (fC ⟨(sC rfl AllS.nil'), AllH.nil'⟩ (fC ⟨(sC rfl AllS.nil'), AllH.nil'⟩ (fC ⟨(sC rfl AllS.nil'), AllH.nil'⟩ (fC ⟨(sC rfl AllS.nil'), AllH.nil'⟩ (fC ⟨(sC rfl AllS.nil'), AllH.nil'⟩ AllF.nil'))))))))))))))))))))))))))))))))))))))))) ?_ ?_
        ·refine (pC ?_ (pC ?_ (pC ?_ (pC ?_ (pC ?_ (pC ?_ (pC ?_ (pC ?_ (pC ?_ (pC ?_ (pC ?_ (pC ?_ (pC ?_ (pC ?_ (pC ?_ (pC ?_ (pC ?_ (pC ?_ (pC ?_ (pC ?_ (pC ?_ (pC ?_ (pC ?_ (pC ?_ (pC ?_ (pC ?_ (pC ?_ (pC ?_ (pC ?_ (pC ?_ (pC ?_ (pC ?_ (pC ?_ (pC ?_ (pC ?_ (pC ?_ (pC ?_ (pC ?_ (pC ?_ (pC ?_ (pC ?_ AllStep.nil')))))))))))))))))))))))))))))))))))))))))
         ·intro K rest fr hv htk k
          show AWops _ x _ _ K ⟨91, (upd 91 fr 10 (sc (.bool r5.2))), _⟩
          refine s_move (d := (sc (.bool r5.2))) rfl k
         ·intro K rest fr hv htk k
          show AWops _ x _ _ K ⟨91, (upd 91 fr 12 (sc (.bool r6.2))), _⟩
          refine s_move (d := (sc (.bool r6.2))) rfl k
         ·intro K rest fr hv htk k
          show AWops _ x _ _ K ⟨91, (upd 91 (upd 91 fr 52 (sc (.bool r6.2))) 51 (sc (.bool r5.2))), _⟩
          refine s_binB (b := (r5.2 == r6.2)) F.u_4 rfl rfl (.inl ⟨rfl, rfl⟩) k
         ·intro K rest fr hv htk k
          show AWops _ x _ _ K ⟨91, (upd 91 fr 53 (sc (.bool (r5.2 == r6.2)))), _⟩
          refine s_move (d := (sc (.bool (r5.2 == r6.2)))) rfl k
         ·intro K rest fr hv htk k
          show AWops _ x _ _ K ⟨91, (upd 91 (upd 91 fr 54 (sc (.bool (r5.2 == r6.2)))) 9 (D.one (C.ref 2 0))), [(hv 0), (hv 1), (some (AObj.cells true (c_api_Inst r5.1))), (hv 3), (hv 4), (hv 5), (hv 6), (hv 7), (hv 8), (hv 9), (hv 10), (hv 11)]⟩
          refine AWops.guard_yes rfl (nl rfl) rfl c14 ?_
          refine s_loadN (ds := (c_api_Inst r5.1)) F.ag_30 F.sz_30 rfl rfl rfl k
         ·intro K rest fr hv htk k
          show AWops _ x _ _ K ⟨91, (upd 91 (upd 91 fr 54 (sc (.bool (r5.2 == r6.2)))) 11 (D.one (C.ref 3 0))), [(hv 0), (hv 1), (hv 2), (some (AObj.cells true (c_api_Inst r6.1))), (hv 4), (hv 5), (hv 6), (hv 7), (hv 8), (hv 9), (hv 10), (hv 11)]⟩
          refine AWops.guard_yes rfl (nl rfl) rfl c14 ?_
          refine s_loadN (ds := (c_api_Inst r6.1)) F.ag_30 F.sz_30 rfl rfl rfl k
         ·intro K rest fr hv htk k
          show AWops _ x _ _ K ⟨91, (upd 91 (upd 91 (upd 91 fr 56 (D.agg (c_api_Inst r6.1))) 55 (D.agg (c_api_Inst r5.1))) 54 (sc (.bool (r5.2 == r6.2)))), [(hv 0), (hv 1), (hv 2), (hv 3), (hv 4), (hv 5), (hv 6), (hv 7), (hv 8), (hv 9), (hv 10), (hv 11)]⟩
          refine AWops.guard_yes rfl (nl rfl) rfl c14 ?_
          refine s_call2 (ρ := []) (br := false) (H2 := [(hv 0), (hv 1), (hv 2), (hv 3), (hv 4), (hv 5), (hv 6), (hv 7), (hv 8), (hv 9), (hv 10), (hv 11)]) (d := (sc (.bool r15))) F.ca_13 rfl rfl (ac (LendT.aggL (ac .sc (ac .sc (ac .sc (ac .sc (ac .imm (ac .sc an))))))) (ac (LendT.aggL (ac .sc (ac .sc (ac .sc (ac .sc (ac .imm (ac .sc an))))))) an)) an (by decide) rfl (dossierref18_SameInst.meets _ r5.1 r6.1 r15 er15) (.inl rfl) rfl rfl k
         ·intro K rest fr hv htk k
          show AWops _ x _ _ K ⟨91, (upd 91 (upd 91 fr 57 (sc (.bool r15))) 54 (sc (.bool (r5.2 == r6.2)))), _⟩
          refine s_pick_yes (d := (sc (.bool r15))) rfl c14 rfl k
         ·intro K rest fr hv htk k
          show AWops _ x _ _ K ⟨91, (upd 91 fr 58 (sc (.bool r15))), _⟩
          refine s_move (d := (sc (.bool r15))) rfl k
         ·intro K rest fr hv htk k
          show AWops _ x _ _ K ⟨91, (upd 91 (upd 91 fr 59 (sc (.bool r15))) 13 (sc (.bool r13))), _⟩
          refine AWops.guard_yes rfl (nl rfl) rfl c16 ?_
          refine s_move (d := (sc (.bool r13))) rfl k
         ·intro K rest fr hv htk k
          show AWops _ x _ _ K ⟨91, (upd 91 (upd 91 fr 60 (sc (.bool r13))) 59 (sc (.bool r15))), _⟩
          refine s_pick_yes (d := (sc (.bool r13))) rfl c16 rfl k
         ·intro K rest fr hv htk k
          show AWops _ x _ _ K ⟨91, (upd 91 fr 61 (sc (.bool r13))), _⟩
          refine s_move (d := (sc (.bool r13))) rfl k
         ·intro K rest fr hv htk k
          show AWops _ x _ _ K ⟨91, (upd 91 (upd 91 fr 62 (sc (.bool r13))) 4 (D.one (C.ref 0 0))), [(some (AObj.cells true (c_api_Case a0))), (hv 1), (hv 2), (hv 3), (hv 4), (hv 5), (hv 6), (hv 7), (hv 8), (hv 9), (hv 10), (hv 11)]⟩
          refine AWops.guard_no rfl (nl rfl) rfl c17 k
         ·intro K rest fr hv htk k
          show AWops _ x _ _ K ⟨91, (upd 91 fr 62 (sc (.bool r13))), _⟩
          refine AWops.guard_no rfl (nl rfl) rfl c17 k
         ·intro K rest fr hv htk k
          show AWops _ x _ _ K ⟨91, (upd 91 fr 62 (sc (.bool r13))), _⟩
          refine AWops.guard_no rfl (nl rfl) rfl c17 k
         ·intro K rest fr hv htk k
          show AWops _ x _ _ K ⟨91, (upd 91 fr 62 (sc (.bool r13))), _⟩
          refine AWops.guard_no rfl (nl rfl) rfl c17 k
         ·intro K rest fr hv htk k
          show AWops _ x _ _ K ⟨91, (upd 91 fr 62 (sc (.bool r13))), _⟩
          refine AWops.guard_no rfl (nl rfl) rfl c17 k
         ·intro K rest fr hv htk k
          show AWops _ x _ _ K ⟨91, (upd 91 fr 62 (sc (.bool r13))), _⟩
          refine AWops.guard_no rfl (nl rfl) rfl c17 k
         ·intro K rest fr hv htk k
          show AWops _ x _ _ K ⟨91, (upd 91 fr 62 (sc (.bool r13))), _⟩
          refine AWops.guard_no rfl (nl rfl) rfl c17 k
         ·intro K rest fr hv htk k
          show AWops _ x _ _ K ⟨91, (upd 91 fr 62 (sc (.bool r13))), _⟩
          refine AWops.guard_no rfl (nl rfl) rfl c17 k
         ·intro K rest fr hv htk k
          show AWops _ x _ _ K ⟨91, (upd 91 fr 62 (sc (.bool r13))), _⟩
          refine AWops.guard_no rfl (nl rfl) rfl c17 k
         ·intro K rest fr hv htk k
          show AWops _ x _ _ K ⟨91, (upd 91 fr 62 (sc (.bool r13))), _⟩
          refine s_pick_no (d := (sc (.bool false))) rfl c17 rfl k
         ·intro K rest fr hv htk k
          show AWops _ x _ _ K ⟨91, (upd 91 fr 72 (sc (.bool false))), _⟩
          refine s_move (d := (sc (.bool false))) rfl k
         ·intro K rest fr hv htk k
          show AWops _ x _ _ K ⟨91, (upd 91 fr 73 (sc (.bool false))), _⟩
          refine AWops.guard_no rfl (nl rfl) rfl rfl k
         ·intro K rest fr hv htk k
          show AWops _ x _ _ K ⟨91, (upd 91 fr 73 (sc (.bool false))), _⟩
          refine AWops.guard_no rfl (nl rfl) rfl rfl k
         ·intro K rest fr hv htk k
          show AWops _ x _ _ K ⟨91, (upd 91 fr 73 (sc (.bool false))), _⟩
          refine AWops.guard_no rfl (nl rfl) rfl rfl k
         ·intro K rest fr hv htk k
          show AWops _ x _ _ K ⟨91, (upd 91 fr 73 (sc (.bool false))), _⟩
          refine AWops.guard_no rfl (nl rfl) rfl rfl k
         ·intro K rest fr hv htk k
          show AWops _ x _ _ K ⟨91, (upd 91 fr 73 (sc (.bool false))), _⟩
          refine AWops.guard_no rfl (nl rfl) rfl rfl k
         ·intro K rest fr hv htk k
          show AWops _ x _ _ K ⟨91, (upd 91 fr 73 (sc (.bool false))), _⟩
          refine AWops.guard_no rfl (nl rfl) rfl rfl k
         ·intro K rest fr hv htk k
          show AWops _ x _ _ K ⟨91, (upd 91 fr 73 (sc (.bool false))), _⟩
          refine AWops.guard_no rfl (nl rfl) rfl rfl k
         ·intro K rest fr hv htk k
          show AWops _ x _ _ K ⟨91, (upd 91 fr 73 (sc (.bool false))), _⟩
          refine s_pick_no (d := (sc (.bool false))) rfl rfl rfl k
         ·intro K rest fr hv htk k
          show AWops _ x _ _ K ⟨91, (upd 91 fr 81 (sc (.bool false))), _⟩
          refine s_move (d := (sc (.bool false))) rfl k
         ·intro K rest fr hv htk k
          show AWops _ x _ _ K ⟨91, (upd 91 fr 82 (sc (.bool false))), _⟩
          refine AWops.guard_no rfl (nl rfl) rfl rfl k
         ·intro K rest fr hv htk k
          show AWops _ x _ _ K ⟨91, (upd 91 fr 82 (sc (.bool false))), _⟩
          refine AWops.guard_no rfl (nl rfl) rfl rfl k
         ·intro K rest fr hv htk k
          show AWops _ x _ _ K ⟨91, (upd 91 fr 82 (sc (.bool false))), _⟩
          refine AWops.guard_no rfl (nl rfl) rfl rfl k
         ·intro K rest fr hv htk k
          show AWops _ x _ _ K ⟨91, (upd 91 fr 82 (sc (.bool false))), _⟩
          refine AWops.guard_no rfl (nl rfl) rfl rfl k
         ·intro K rest fr hv htk k
          show AWops _ x _ _ K ⟨91, (upd 91 fr 82 (sc (.bool false))), _⟩
          refine s_pick_no (d := (sc (.bool false))) rfl rfl rfl k
         ·intro K rest fr hv htk k
          show AWops _ x _ _ K ⟨91, (upd 91 fr 87 (sc (.bool false))), _⟩
          refine s_move (d := (sc (.bool false))) rfl k
         ·intro K rest fr hv htk k
          show AWops _ x _ _ K ⟨91, (upd 91 fr 88 (sc (.bool false))), _⟩
          refine AWops.guard_no rfl (nl rfl) rfl rfl k
         ·intro K rest fr hv htk k
          show AWops _ x _ _ K ⟨91, (upd 91 fr 88 (sc (.bool false))), _⟩
          refine s_pick_no (d := (sc (.bool false))) rfl rfl rfl k
         ·intro K rest fr hv htk k
          show AWops _ x _ _ K ⟨91, (upd 91 fr 90 (sc (.bool false))), _⟩
          refine s_assign (d := (sc (.bool false))) rfl k
        ·refine AWops.weak (st' := ⟨91, (upd 91 topF 8 (sc (.bool false))), []⟩) (Weak.gen (kk := 0) [] [] hx rfl (by decide) (by decide) rfl rfl rfl (le_upd (le_top _) (.t (.one .sc))) an) (AWops.nil (AW.ret ?_))
         obtain rfl := Option.some.inj h
         exact ⟨_, rfl, (Weak.gen (kk := 0) [] [] rfl rfl (by decide) (by decide) rfl rfl rfl (le_upd (le_top _) (.t (.one .sc))) an)⟩
      ·refine AW.draw (n := 91) (L := 12) [(0, ⟨some 51, (sc (.bool r5.2)), [(10, (sc (.bool r5.2)))], [], [], none⟩), (1, ⟨some 52, (sc (.bool r6.2)), [(12, (sc (.bool r6.2)))], [], [], none⟩), (2, ⟨some 53, (sc (.bool (r5.2 == r6.2))), [(51, (sc (.bool r5.2))), (52, (sc (.bool r6.2)))], [], [], none⟩), (3, ⟨some 54, (sc (.bool (r5.2 == r6.2))), [(53, (sc (.bool (r5.2 == r6.2))))], [], [], none⟩), (4, ⟨some 55, (D.agg (c_api_Inst r5.1)), [(9, (D.one (C.ref 2 0))), (54, (sc (.bool (r5.2 == r6.2))))], [(2, (some (AObj.cells true (c_api_Inst r5.1))))], [], none⟩), (5, ⟨some 56, (D.agg (c_api_Inst r6.1)), [(11, (D.one (C.ref 3 0))), (54, (sc (.bool (r5.2 == r6.2))))], [(3, (some (AObj.cells true (c_api_Inst r6.1))))], [], none⟩), (6, ⟨some 57, (sc (.bool r15)), [(54, (sc (.bool (r5.2 == r6.2)))), (55, (D.agg (c_api_Inst r5.1))), (56, (D.agg (c_api_Inst r6.1)))], [], [], none⟩), (7, ⟨some 58, (sc (.bool r15)), [(54, (sc (.bool (r5.2 == r6.2)))), (57, (sc (.bool r15)))], [], [], none⟩), (8, ⟨some 59, (sc (.bool r15)), [(58, (sc (.bool r15)))], [], [], none⟩), (9, ⟨some 60, (D.tup []), [(13, (sc (.bool r13))), (59, (sc (.bool r15)))], [], [], none⟩), (10, ⟨some 61, (sc (.bool false)), [(59, (sc (.bool r15)))], [], [], none⟩), (11, ⟨some 62, (sc (.bool false)), [(61, (sc (.bool false)))], [], [], none⟩), (12, ⟨some 63, (D.tup []), [(62, (sc (.bool false)))], [], [], none⟩), (13, ⟨some 64, (D.tup []), [(62, (sc (.bool false)))], [], [], none⟩), (14, ⟨some 65, (D.tup []), [(62, (sc (.bool false)))], [], [], none⟩), (15, ⟨some 66, (D.tup []), [(62, (sc (.bool false)))], [], [], none⟩), (16, ⟨some 67, (D.tup []), [(62, (sc (.bool false)))], [], [], none⟩), (17, ⟨some 68, (D.tup []), [(62, (sc (.bool false)))], [], [], none⟩), (18, ⟨some 69, (D.tup []), [(62, (sc (.bool false)))], [], [], none⟩), (19, ⟨some 70, (D.tup []), [(62, (sc (.bool false)))], [], [], none⟩), (20, ⟨some 71, (D.tup []), [(62, (sc (.bool false)))], [], [], none⟩), (21, ⟨some 72, (sc (.bool false)), [(62, (sc (.bool false)))], [], [], none⟩), (22, ⟨some 73, (sc (.bool false)), [(72, (sc (.bool false)))], [], [], none⟩), (23, ⟨some 74, (D.tup []), [(73, (sc (.bool false)))], [], [], none⟩), (24, ⟨some 75, (D.tup []), [(73, (sc (.bool false)))], [], [], none⟩), (25, ⟨some 76, (D.tup []), [(73, (sc (.bool false)))], [], [], none⟩), (26, ⟨some 77, (D.tup []), [(73, (sc (.bool false)))], [], [], none⟩), (27, ⟨some 78, (D.tup []), [(73, (sc (.bool false)))], [], [], none⟩), (28, ⟨some 79, (D.tup []), [(73, (sc (.bool false)))], [], [], none⟩), (29, ⟨some 80, (D.tup []), [(73, (sc (.bool false)))], [], [], none⟩), (30, ⟨some 81, (sc (.bool false)), [(73, (sc (.bool false)))], [], [], none⟩), (31, ⟨some 82, (sc (.bool false)), [(81, (sc (.bool false)))], [], [], none⟩), (32, ⟨some 83, (D.tup []), [(82, (sc (.bool false)))], [], [], none⟩), (33, ⟨some 84, (D.tup []), [(82, (sc (.bool false)))], [], [], none⟩), (34, ⟨some 85, (D.tup []), [(82, (sc (.bool false)))], [], [], none⟩), (35, ⟨some 86, (D.tup []), [(82, (sc (.bool false)))], [], [], none⟩), (36, ⟨some 87, (sc (.bool false)), [(82, (sc (.bool false)))], [], [], none⟩), (37, ⟨some 88, (sc (.bool false)), [(87, (sc (.bool false)))], [], [], none⟩), (38, ⟨some 89, (D.tup []), [(88, (sc (.bool false)))], [], [], none⟩), (39, ⟨some 90, (sc (.bool false)), [(88, (sc (.bool false)))], [], [], none⟩), (40, ⟨some 8, (sc (.bool false)), [(90, (sc (.bool false)))], [], [], none⟩)] [[], [], [0, 1], [0, 1, 2], [0, 1, 2, 3], [0, 1, 2, 3], [0, 1, 2, 3, 4, 5], [0, 1, 2, 3, 4, 5, 6], [0, 1, 2, 3, 4, 5, 6, 7], [0, 1, 2, 3, 4, 5, 6, 7, 8], [0, 1, 2, 3, 4, 5, 6, 7, 8, 9], [0, 1, 2, 3, 4, 5, 6, 7, 8, 9, 10], [0, 1, 2, 3, 4, 5, 6, 7, 8, 9, 10, 11], [0, 1, 2, 3, 4, 5, 6, 7, 8, 9, 10, 11], [0, 1, 2, 3, 4, 5, 6, 7, 8, 9, 10, 11], [0, 1, 2, 3, 4, 5, 6, 7, 8, 9, 10, 11, 12, 13, 14], [0, 1, 2, 3, 4, 5, 6, 7, 8, 9, 10, 11], [0, 1, 2, 3, 4, 5, 6, 7, 8, 9, 10, 11], [0, 1, 2, 3, 4, 5, 6, 7, 8, 9, 10, 11], [0, 1, 2, 3, 4, 5, 6, 7, 8, 9, 10, 11, 12, 13, 14, 15, 16, 17, 18], [0, 1, 2, 3, 4, 5, 6, 7, 8, 9, 10, 11, 12, 13, 14, 15, 16, 17, 18, 19], [0, 1, 2, 3, 4, 5, 6, 7, 8, 9, 10, 11, 12, 13, 14, 15, 16, 17, 18, 19, 20], [0, 1, 2, 3, 4, 5, 6, 7, 8, 9, 10, 11, 12, 13, 14, 15, 16, 17, 18, 19, 20, 21], [0, 1, 2, 3, 4, 5, 6, 7, 8, 9, 10, 11, 12, 13, 14, 15, 16, 17, 18, 19, 20, 21, 22], [0, 1, 2, 3, 4, 5, 6, 7, 8, 9, 10, 11, 12, 13, 14, 15, 16, 17, 18, 19, 20, 21, 22], [0, 1, 2, 3, 4, 5, 6, 7, 8, 9, 10, 11, 12, 13, 14, 15, 16, 17, 18, 19, 20, 21, 22, 23, 24], [0, 1, 2, 3, 4, 5, 6, 7, 8, 9, 10, 11, 12, 13, 14, 15, 16, 17, 18, 19, 20, 21, 22], [0, 1, 2, 3, 4, 5, 6, 7, 8, 9, 10, 11, 12, 13, 14, 15, 16, 17, 18, 19, 20, 21, 22], [0, 1, 2, 3, 4, 5, 6, 7, 8, 9, 10, 11, 12, 13, 14, 15, 16, 17, 18, 19, 20, 21, 22, 23, 24, 25, 26, 27], [0, 1, 2, 3, 4, 5, 6, 7, 8, 9, 10, 11, 12, 13, 14, 15, 16, 17, 18, 19, 20, 21, 22, 23, 24, 25, 26, 27, 28], [0, 1, 2, 3, 4, 5, 6, 7, 8, 9, 10, 11, 12, 13, 14, 15, 16, 17, 18, 19, 20, 21, 22, 23, 24, 25, 26, 27, 28, 29], [0, 1, 2, 3, 4, 5, 6, 7, 8, 9, 10, 11, 12, 13, 14, 15, 16, 17, 18, 19, 20, 21, 22, 23, 24, 25, 26, 27, 28, 29, 30], [0, 1, 2, 3, 4, 5, 6, 7, 8, 9, 10, 11, 12, 13, 14, 15, 16, 17, 18, 19, 20, 21, 22, 23, 24, 25, 26, 27, 28, 29, 30, 31], [0, 1, 2, 3, 4, 5, 6, 7, 8, 9, 10, 11, 12, 13, 14, 15, 16, 17, 18, 19, 20, 21, 22, 23, 24, 25, 26, 27, 28, 29, 30, 31, 32], [0, 1, 2, 3, 4, 5, 6, 7, 8, 9, 10, 11, 12, 13, 14, 15, 16, 17, 18, 19, 20, 21, 22, 23, 24, 25, 26, 27, 28, 29, 30, 31], [0, 1, 2, 3, 4, 5, 6, 7, 8, 9, 10, 11, 12, 13, 14, 15, 16, 17, 18, 19, 20, 21, 22, 23, 24, 25, 26, 27, 28, 29, 30, 31, 32, 33, 34], [0, 1, 2, 3, 4, 5, 6, 7, 8, 9, 10, 11, 12, 13, 14, 15, 16, 17, 18, 19, 20, 21, 22, 23, 24, 25, 26, 27, 28, 29, 30, 31, 32, 33, 34, 35], [0, 1, 2, 3, 4, 5, 6, 7, 8, 9, 10, 11, 12, 13, 14, 15, 16, 17, 18, 19, 20, 21, 22, 23, 24, 25, 26, 27, 28, 29, 30, 31, 32, 33, 34, 35, 36], [0, 1, 2, 3, 4, 5, 6, 7, 8, 9, 10, 11, 12, 13, 14, 15, 16, 17, 18, 19, 20, 21, 22, 23, 24, 25, 26, 27, 28, 29, 30, 31, 32, 33, 34, 35, 36, 37], [0, 1, 2, 3, 4, 5, 6, 7, 8, 9, 10, 11, 12, 13, 14, 15, 16, 17, 18, 19, 20, 21, 22, 23, 24, 25, 26, 27, 28, 29, 30, 31, 32, 33, 34, 35, 36, 37, 38], [0, 1, 2, 3, 4, 5, 6, 7, 8, 9, 10, 11, 12, 13, 14, 15, 16, 17, 18, 19, 20, 21, 22, 23, 24, 25, 26, 27, 28, 29, 30, 31, 32, 33, 34, 35, 36, 37, 38, 39]] (nl rfl) [0, 0, 1, 2, 3, 3, 4, 5, 6, 7, 8, 9, 10, 10, 10, 11, 10, 10, 10, 12, 13, 14, 15, 16, 16, 17, 16, 16, 18, 19, 20, 21, 22, 23, 22, 24, 25, 26, 27, 28, 29] rfl (TK := []) rfl AllK.nil' (fC ⟨(sC rfl AllS.nil'), AllH.nil'⟩ (fC ⟨(sC rfl AllS.nil'), AllH.nil'⟩ (fC ⟨(sC rfl (sC rfl AllS.nil')), AllH.nil'⟩ (fC ⟨(sC rfl AllS.nil'), AllH.nil'⟩ (fC ⟨(sC rfl (sC rfl AllS.nil')), (hC rfl AllH.nil')⟩ (fC ⟨(sC rfl (sC rfl AllS.nil')), (hC rfl AllH.nil')⟩ (fC ⟨(sC rfl (sC rfl (sC rfl AllS.nil'))), AllH.nil'⟩ (fC ⟨(sC rfl (sC rfl AllS.nil')), AllH.nil'⟩ (fC ⟨(sC rfl AllS.nil'), AllH.nil'⟩ (fC ⟨(sC rfl (sC rfl AllS.nil')), AllH.nil'⟩ (fC ⟨(sC rfl AllS.nil'), AllH.nil'⟩ (fC ⟨(sC rfl AllS.nil'), AllH.nil'⟩ (fC ⟨(sC rfl AllS.nil'), AllH.nil'⟩ (fC ⟨(sC rfl AllS.nil'), AllH.nil'⟩ (fC ⟨(sC rfl AllS.nil'), AllH.nil'⟩ (fC ⟨(sC rfl AllS.nil'), AllH.nil'⟩ (fC ⟨(sC rfl AllS.nil'), AllH.nil'⟩ (fC ⟨(sC rfl AllS.nil'), AllH.nil'⟩ (fC ⟨(sC rfl AllS.nil'), AllH.nil'⟩ (fC ⟨(sC rfl AllS.nil'), AllH.nil'⟩ (fC ⟨(sC rfl AllS.nil'), AllH.nil'⟩ (fC ⟨(sC rfl AllS.nil'), AllH.nil'⟩ (fC ⟨(sC rfl AllS.nil'), AllH.nil'⟩ (fC ⟨(sC rfl AllS.nil'), AllH.nil'⟩ (fC ⟨(sC rfl AllS.nil'), AllH.nil'⟩ (fC ⟨(sC rfl AllS.nil'), AllH.nil'⟩ (fC ⟨(sC rfl AllS.nil'), AllH.nil'⟩ (fC ⟨(sC rfl AllS.nil'), AllH.nil'⟩ (fC ⟨(sC rfl AllS.nil'), AllH.nil'⟩ (fC ⟨(sC rfl AllS.nil'), AllH.nil'⟩ (fC ⟨(sC rfl AllS.nil'), AllH.nil'⟩ (fC ⟨(sC rfl AllS.nil'), AllH.nil'⟩ (fC ⟨(sC rfl AllS.nil'), AllH.nil'⟩ (fC ⟨(sC rfl AllS.nil'), AllH.nil'⟩ (fC ⟨(sC rfl AllS.nil'), AllH.nil'⟩ (fC ⟨(sC rfl AllS.nil'), AllH.nil'⟩ (fC ⟨(sC rfl AllS.nil'), AllH.nil'⟩ (fC ⟨(sC rfl AllS.nil'), AllH.nil'⟩ (fC ⟨(sC rfl AllS.nil'), AllH.nil'⟩ (fC ⟨(sC rfl AllS.nil'), AllH.nil'⟩ (fC ⟨(sC rfl AllS.nil'), AllH.nil'⟩ AllF.nil'))))))))))))))))))))))))))))))))))))))))) ?_ ?_
       ·refine (pC ?_ (pC ?_ (pC ?_ (pC ?_ (pC ?_ (pC ?_ (pC ?_ (pC ?_ (pC ?_ (pC ?_ (pC ?_ (pC ?_ (pC ?_ (pC ?_ (pC ?_ (pC ?_ (pC ?_ (pC ?_ (pC ?_ (pC ?_ (pC ?_ (pC ?_ (pC ?_ (pC ?_ (pC ?_ (pC ?_ (pC ?_ (pC ?_ (pC ?_ (pC ?_ (pC ?_ (pC ?_ (pC ?_ (pC ?_ (pC ?_ (pC ?_ (pC ?_ (pC ?_ (pC ?_ (pC ?_ (pC ?_ AllStep.nil')))))))))))))))))))))))))))))))))))))))))
        ·intro K rest fr hv htk k
         show AWops _ x _ _ K ⟨91, (upd 91 fr 10 (sc (.bool r5.2))), _⟩
         refine s_move (d := (sc (.bool r5.2))) rfl k
        ·intro K rest fr hv htk k
         show AWops _ x _ _ K ⟨91, (upd 91 fr 12 (sc (.bool r6.2))), _⟩
         refine s_move (d := (sc (.bool r6.2))) rfl k
        ·intro K rest fr hv htk k
         show AWops _ x _ _ K ⟨91, (upd 91 (upd 91 fr 52 (sc (.bool r6.2))) 51 (sc (.bool r5.2))), _⟩
         refine s_binB (b := (r5.2 == r6.2)) F.u_4 rfl rfl (.inl ⟨rfl, rfl⟩) k
        ·intro K rest fr hv htk k
         show AWops _ x _ _ K ⟨91, (upd 91 fr 53 (sc (.bool (r5.2 == r6.2)))), _⟩
         refine s_move (d := (sc (.bool (r5.2 == r6.2)))) rfl k
        ·intro K rest fr hv htk k
         show AWops _ x _ _ K ⟨91, (upd 91 (upd 91 fr 54 (sc (.bool (r5.2 == r6.2)))) 9 (D.one (C.ref 2 0))), [(hv 0), (hv 1), (some (AObj.cells true (c_api_Inst r5.1))), (hv 3), (hv 4), (hv 5), (hv 6), (hv 7), (hv 8), (hv 9), (hv 10), (hv 11)]⟩
         refine AWops.guard_yes rfl (nl rfl) rfl c14 ?_
         refine s_loadN (ds := (c_api_Inst r5.1)) F.ag_30 F.sz_30 rfl rfl rfl k
        ·intro K rest fr hv htk k
         show AWops _ x _ _ K ⟨91, (upd 91 (upd 91 fr 54 (sc (.bool (r5.2 == r6.2)))) 11 (D.one (C.ref 3 0))), [(hv 0), (hv 1), (hv 2), (some (AObj.cells true (c_api_Inst r6.1))), (hv 4), (hv 5), (hv 6), (hv 7), (hv 8), (hv 9), (hv 10), (hv 11)]⟩
         refine AWops.guard_yes rfl (nl rfl) rfl c14 ?_
         refine s_loadN (ds := (c_api_Inst r6.1)) F.ag_30 F.sz_30 rfl rfl rfl k
        ·intro K rest fr hv htk k
         show AWops _ x _ _ K ⟨91, (upd 91 (upd 91 (upd 91 fr 56 (D.agg (c_api_Inst r6.1))) 55 (D.agg (c_api_Inst r5.1))) 54 (sc (.bool (r5.2 == r6.2)))), [(hv 0), (hv 1), (hv 2), (hv 3), (hv 4), (hv 5), (hv 6), (hv 7), (hv 8), (hv 9), (hv 10), (hv 11)]⟩
         refine AWops.guard_yes rfl (nl rfl) rfl c14 ?_
         refine s_call2 (ρ := []) (br := false) (H2 := [(hv 0), (hv 1), (hv 2), (hv 3), (hv 4), (hv 5), (hv 6), (hv 7), (hv 8), (hv 9), (hv 10), (hv 11)]) (d := (sc (.bool r15))) F.ca_13 rfl rfl (ac (LendT.aggL (ac .sc (ac .sc (ac .sc (ac .sc (ac .imm (ac .sc an))))))) (ac (LendT.aggL (ac .sc (ac .sc (ac .sc (ac .sc (ac .imm (ac .sc an))))))) an)) an (by decide) rfl (dossierref18_SameInst.meets _ r5.1 r6.1 r15 er15) (.inl rfl) rfl rfl k
        ·intro K rest fr hv htk k
         show AWops _ x _ _ K ⟨91, (upd 91 (upd 91 fr 57 (sc (.bool r15))) 54 (sc (.bool (r5.2 == r6.2)))), _⟩
         refine s_pick_yes (d := (sc (.bool r15))) rfl c14 rfl k
        ·intro K rest fr hv htk k
         show AWops _ x _ _ K ⟨91, (upd 91 fr 58 (sc (.bool r15))), _⟩
         refine s_move (d := (sc (.bool r15))) rfl k
        ·intro K rest fr hv htk k
         show AWops _ x _ _ K ⟨91, (upd 91 (upd 91 fr 59 (sc (.bool r15))) 13 (sc (.bool r13))), _⟩
         refine AWops.guard_no rfl (nl rfl) rfl c16 k
        ·intro K rest fr hv htk k
         show AWops _ x _ _ K ⟨91, (upd 91 fr 59 (sc (.bool r15))), _⟩
         refine s_pick_no (d := (sc (.bool false))) rfl c16 rfl k
        ·intro K rest fr hv htk k
         show AWops _ x _ _ K ⟨91, (upd 91 fr 61 (sc (.bool false))), _⟩
         refine s_move (d := (sc (.bool false))) rfl k
        ·intro K rest fr hv htk k
         show AWops _ x _ _ K ⟨91, (upd 91 fr 62 (sc (.bool false))), _⟩
         refine AWops.guard_no rfl (nl rfl) rfl rfl k
        ·intro K rest fr hv htk k
         show AWops _ x _ _ K ⟨91, (upd 91 fr 62 (sc (.bool false))), _⟩
         refine AWops.guard_no rfl (nl rfl) rfl rfl k
        ·intro K rest fr hv htk k
         show AWops _ x _ _ K ⟨91, (upd 91 fr 62 (sc (.bool false))), _⟩
         refine AWops.guard_no rfl (nl rfl) rfl rfl k
        ·intro K rest fr hv htk k
         show AWops _ x _ _ K ⟨91, (upd 91 fr 62 (sc (.bool false))), _⟩
         refine AWops.guard_no rfl (nl rfl) rfl rfl k
        ·intro K rest fr hv htk k
         show AWops _ x _ _ K ⟨91, (upd 91 fr 62 (sc (.bool false))), _⟩
         refine AWops.guard_no rfl (nl rfl) rfl rfl k
        ·intro K rest fr hv htk k
         show AWops _ x _ _ K ⟨91, (upd 91 fr 62 (sc (.bool false))), _⟩
         refine AWops.guard_no rfl (nl rfl) rfl rfl k
        ·intro K rest fr hv htk k
         show AWops _ x _ _ K ⟨91, (upd 91 fr 62 (sc (.bool false))), _⟩
         refine AWops.guard_no rfl (nl rfl) rfl rfl k
        ·intro K rest fr hv htk k
         show AWops _ x _ _ K ⟨91, (upd 91 fr 62 (sc (.bool false))), _⟩
         refine AWops.guard_no rfl (nl rfl) rfl rfl k
        ·intro K rest fr hv htk k
         show AWops _ x _ _ K ⟨91, (upd 91 fr 62 (sc (.bool false))), _⟩
         refine AWops.guard_no rfl (nl rfl) rfl rfl k
        ·intro K rest fr hv htk k
         show AWops _ x _ _ K ⟨91, (upd 91 fr 62 (sc (.bool false))), _⟩
         refine s_pick_no (d := (sc (.bool false))) rfl rfl rfl k
        ·intro K rest fr hv htk k
         show AWops _ x _ _ K ⟨91, (upd 91 fr 72 (sc (.bool false))), _⟩
         refine s_move (d := (sc (.bool false))) rfl k
        ·intro K rest fr hv htk k
         show AWops _ x _ _ K ⟨91, (upd 91 fr 73 (sc (.bool false))), _⟩
         refine AWops.guard_no rfl (nl rfl) rfl rfl k
        ·intro K rest fr hv htk k
         show AWops _ x _ _ K ⟨91, (upd 91 fr 73 (sc (.bool false))), _⟩
         refine AWops.guard_no rfl (nl rfl) rfl rfl k
        ·intro K rest fr hv htk k
         show AWops _ x _ _ K ⟨91, (upd 91 fr 73 (sc (.bool false))), _⟩
         refine AWops.guard_no rfl (nl rfl) rfl rfl k
        ·intro K rest fr hv htk k
         show AWops _ x _ _ K ⟨91, (upd 91 fr 73 (sc (.bool false))), _⟩
         refine AWops.guard_no rfl (nl rfl) rfl rfl k
        ·intro K rest fr hv htk k
         show AWops _ x _ _ K ⟨91, (upd 91 fr 73 (sc (.bool false))), _⟩
         refine AWops.guard_no rfl (nl rfl) rfl rfl k
        ·intro K rest fr hv htk k
         show AWops _ x _ _ K ⟨91, (upd 91 fr 73 (sc (.bool false))), _⟩
         refine AWops.guard_no rfl (nl rfl) rfl rfl k
        ·intro K rest fr hv htk k
         show AWops _ x _ _ K ⟨91, (upd 91 fr 73 (sc (.bool false))), _⟩
         refine AWops.guard_no rfl (nl rfl) rfl rfl k
        ·intro K rest fr hv htk k
         show AWops _ x _ _ K ⟨91, (upd 91 fr 73 (sc (.bool false))), _⟩
         refine s_pick_no (d := (sc (.bool false))) rfl rfl rfl k
        ·intro K rest fr hv htk k
         show AWops _ x _ _ K ⟨91, (upd 91 fr 81 (sc (.bool false))), _⟩
         refine s_move (d := (sc (.bool false))) rfl k
        ·intro K rest fr hv htk k
         show AWops _ x _ _ K ⟨91, (upd 91 fr 82 (sc (.bool false))), _⟩
         refine AWops.guard_no rfl (nl rfl) rfl rfl k
        ·intro K rest fr hv htk k
         show AWops _ x _ _ K ⟨91, (upd 91 fr 82 (sc (.bool false))), _⟩
         refine AWops.guard_no rfl (nl rfl) rfl rfl k
        ·intro K rest fr hv htk k
         show AWops _ x _ _ K ⟨91, (upd 91 fr 82 (sc (.bool false))), _⟩
         refine AWops.guard_no rfl (nl rfl) rfl rfl k
        ·intro K rest fr hv htk k
         show AWops _ x _ _ K ⟨91, (upd 91 fr 82 (sc (.bool false))), _⟩
         refine AWops.guard_no rfl (nl rfl) rfl rfl k
        ·intro K rest fr hv htk k
         show AWops _ x _ _ K ⟨91, (upd 91 fr 82 (sc (.bool false))), _⟩
         refine s_pick_no (d := (sc (.bool false))) rfl rfl rfl k
        ·intro K rest fr hv htk k
         show AWops _ x _ _ K ⟨91, (upd 91 fr 87 (sc (.bool false))), _⟩
         refine s_move (d := (sc (.bool false))) rfl k
        ·intro K rest fr hv htk k
         show AWops _ x _ _ K ⟨91, (upd 91 fr 88 (sc (.bool false))), _⟩
         refine AWops.guard_no rfl (nl rfl) rfl rfl k
        ·intro K rest fr hv htk k
         show AWops _ x _ _ K ⟨91, (upd 91 fr 88 (sc (.bool false))), _⟩
         refine s_pick_no (d := (sc (.bool false))) rfl rfl rfl k
        ·intro K rest fr hv htk k
         show AWops _ x _ _ K ⟨91, (upd 91 fr 90 (sc (.bool false))), _⟩
         refine s_assign (d := (sc (.bool false))) rfl k
       ·refine AWops.weak (st' := ⟨91, (upd 91 topF 8 (sc (.bool false))), []⟩) (Weak.gen (kk := 0) [] [] hx rfl (by decide) (by decide) rfl rfl rfl (le_upd (le_top _) (.t (.one .sc))) an) (AWops.nil (AW.ret ?_))
        obtain rfl := Option.some.inj h
        exact ⟨_, rfl, (Weak.gen (kk := 0) [] [] rfl rfl (by decide) (by decide) rfl rfl rfl (le_upd (le_top _) (.t (.one .sc))) an)⟩
     ·refine AW.draw (n := 91) (L := 12) [(0, ⟨some 51, (sc (.bool r5.2)), [(10, (sc (.bool r5.2)))], [], [], none⟩), (1, ⟨some 52, (sc (.bool r6.2)), [(12, (sc (.bool r6.2)))], [], [], none⟩), (2, ⟨some 53, (sc (.bool (r5.2 == r6.2))), [(51, (sc (.bool r5.2))), (52, (sc (.bool r6.2)))], [], [], none⟩), (3, ⟨some 54, (sc (.bool (r5.2 == r6.2))), [(53, (sc (.bool (r5.2 == r6.2))))], [], [], none⟩), (4, ⟨some 55, (D.tup []), [(9, (D.one (C.ref 2 0))), (54, (sc (.bool (r5.2 == r6.2))))], [(2, (some (AObj.cells true (c_api_Inst r5.1))))], [], none⟩), (5, ⟨some 56, (D.tup []), [(54, (sc (.bool (r5.2 == r6.2))))], [], [], none⟩), (6, ⟨some 57, (D.tup []), [(54, (sc (.bool (r5.2 == r6.2))))], [], [], none⟩), (7, ⟨some 58, (sc (.bool false)), [(54, (sc (.bool (r5.2 == r6.2))))], [], [], none⟩), (8, ⟨some 59, (sc (.bool false)), [(58, (sc (.bool false)))], [], [], none⟩), (9, ⟨some 60, (D.tup []), [(59, (sc (.bool false)))], [], [], none⟩), (10, ⟨some 61, (sc (.bool false)), [(59, (sc (.bool false)))], [], [], none⟩), (11, ⟨some 62, (sc (.bool false)), [(61, (sc (.bool false)))], [], [], none⟩), (12, ⟨some 63, (D.tup []), [(62, (sc (.bool false)))], [], [], none⟩), (13, ⟨some 64, (D.tup []), [(62, (sc (.bool false)))], [], [], none⟩), (14, ⟨some 65, (D.tup []), [(62, (sc (.bool false)))], [], [], none⟩), (15, ⟨some 66, (D.tup []), [(62, (sc (.bool false)))], [], [], none⟩), (16, ⟨some 67, (D.tup []), [(62, (sc (.bool false)))], [], [], none⟩), (17, ⟨some 68, (D.tup []), [(62, (sc (.bool false)))], [], [], none⟩), (18, ⟨some 69, (D.tup []), [(62, (sc (.bool false)))], [], [], none⟩), (19, ⟨some 70, (D.tup []), [(62, (sc (.bool false)))], [], [], none⟩), (20, ⟨some 71, (D.tup []), [(62, (sc (.bool false)))], [], [], none⟩), (21, ⟨some 72, (sc (.bool false)), [(62, (sc (.bool false)))], [], [], none⟩), (22, ⟨some 73, (sc (.bool false)), [(72, (sc (.bool false)))], [], [], none⟩), (23, ⟨some 74, (D.tup []), [(73, (sc (.bool false)))], [], [], none⟩), (24, ⟨some 75, (D.tup []), [(73, (sc (.bool false)))], [], [], none⟩), (25, ⟨some 76, (D.tup []), [(73, (sc (.bool false)))], [], [], none⟩), (26, ⟨some 77, (D.tup []), [(73, (sc (.bool false)))], [], [], none⟩), (27, ⟨some 78, (D.tup []), [(73, (sc (.bool false)))], [], [], none⟩), (28, ⟨some 79, (D.tup []), [(73, (sc (.bool false)))], [], [], none⟩), (29, ⟨some 80, (D.tup []), [(73, (sc (.bool false)))], [], [], none⟩), (30, ⟨some 81, (sc (.bool false)), [(73, (sc (.bool false)))], [], [], none⟩), (31, ⟨some 82, (sc (.bool false)), [(81, (sc (.bool false)))], [], [], none⟩), (32, ⟨some 83, (D.tup []), [(82, (sc (.bool false)))], [], [], none⟩), (33, ⟨some 84, (D.tup []), [(82, (sc (.bool false)))], [], [], none⟩), (34, ⟨some 85, (D.tup []), [(82, (sc (.bool false)))], [], [], none⟩), (35, ⟨some 86, (D.tup []), [(82, (sc (.bool false)))], [], [], none⟩), (36, ⟨some 87, (sc (.bool false)), [(82, (sc (.bool false)))], [], [], none⟩), (37, ⟨some 88, (sc (.bool false)), [(87, (sc (.bool false)))], [], [], none⟩), (38, ⟨some 89, (D.tup []), [(88, (sc (.bool false)))], [], [], none⟩), (39, ⟨some 90, (sc (.bool false)), [(88, (sc (.bool false)))], [], [], none⟩), (40, ⟨some 8, (sc (.bool false)), [(90, (sc (.bool false)))], [], [], none⟩)] [[], [], [0, 1], [0, 1, 2], [0, 1, 2, 3], [0, 1, 2, 3], [0, 1, 2, 3, 4, 5], [0, 1, 2, 3, 4, 5, 6], [0, 1, 2, 3, 4, 5, 6, 7], [0, 1, 2, 3, 4, 5, 6, 7, 8], [0, 1, 2, 3, 4, 5, 6, 7, 8, 9], [0, 1, 2, 3, 4, 5, 6, 7, 8, 9, 10], [0, 1, 2, 3, 4, 5, 6, 7, 8, 9, 10, 11], [0, 1, 2, 3, 4, 5, 6, 7, 8, 9, 10, 11], [0, 1, 2, 3, 4, 5, 6, 7, 8, 9, 10, 11], [0, 1, 2, 3, 4, 5, 6, 7, 8, 9, 10, 11, 12, 13, 14], [0, 1, 2, 3, 4, 5, 6, 7, 8, 9, 10, 11], [0, 1, 2, 3, 4, 5, 6, 7, 8, 9, 10, 11], [0, 1, 2, 3, 4, 5, 6, 7, 8, 9, 10, 11], [0, 1, 2, 3, 4, 5, 6, 7, 8, 9, 10, 11, 12, 13, 14, 15, 16, 17, 18], [0, 1, 2, 3, 4, 5, 6, 7, 8, 9, 10, 11, 12, 13, 14, 15, 16, 17, 18, 19], [0, 1, 2, 3, 4, 5, 6, 7, 8, 9, 10, 11, 12, 13, 14, 15, 16, 17, 18, 19, 20], [0, 1, 2, 3, 4, 5, 6, 7, 8, 9, 10, 11, 12, 13, 14, 15, 16, 17, 18, 19, 20, 21], [0, 1, 2, 3, 4, 5, 6, 7, 8, 9, 10, 11, 12, 13, 14, 15, 16, 17, 18, 19, 20, 21, 22], [0, 1, 2, 3, 4, 5, 6, 7, 8, 9, 10, 11, 12, 13, 14, 15, 16, 17, 18, 19, 20, 21, 22], [0, 1, 2, 3, 4, 5, 6, 7, 8, 9, 10, 11, 12, 13, 14, 15, 16, 17, 18, 19, 20, 21, 22, 23, 24], [0, 1, 2, 3, 4, 5, 6, 7, 8, 9, 10, 11, 12, 13, 14, 15, 16, 17, 18, 19, 20, 21, 22], [0, 1, 2, 3, 4, 5, 6, 7, 8, 9, 10, 11, 12, 13, 14, 15, 16, 17, 18, 19, 20, 21, 22], [0, 1, 2, 3, 4, 5, 6, 7, 8, 9, 10, 11, 12, 13, 14, 15, 16, 17, 18, 19, 20, 21, 22, 23, 24, 25, 26, 27], [0, 1, 2, 3, 4, 5, 6, 7, 8, 9, 10, 11, 12, 13, 14, 15, 16, 17, 18, 19, 20, 21, 22, 23, 24, 25, 26, 27, 28], [0, 1, 2, 3, 4, 5, 6, 7, 8, 9, 10, 11, 12, 13, 14, 15, 16, 17, 18, 19, 20, 21, 22, 23, 24, 25, 26, 27, 28, 29], [0, 1, 2, 3, 4, 5, 6, 7, 8, 9, 10, 11, 12, 13, 14, 15, 16, 17, 18, 19, 20, 21, 22, 23, 24, 25, 26, 27, 28, 29, 30], [0, 1, 2, 3, 4, 5, 6, 7, 8, 9, 10, 11, 12, 13, 14, 15, 16, 17, 18, 19, 20, 21, 22, 23, 24, 25, 26, 27, 28, 29, 30, 31], [0, 1, 2, 3, 4, 5, 6, 7, 8, 9, 10, 11, 12, 13, 14, 15, 16, 17, 18, 19, 20, 21, 22, 23, 24, 25, 26, 27, 28, 29, 30, 31, 32], [0, 1, 2, 3, 4, 5, 6, 7, 8, 9, 10, 11, 12, 13, 14, 15, 16, 17, 18, 19, 20, 21, 22, 23, 24, 25, 26, 27, 28, 29, 30, 31], [0, 1, 2, 3, 4, 5, 6, 7, 8, 9, 10, 11, 12, 13, 14, 15, 16, 17, 18, 19, 20, 21, 22, 23, 24, 25, 26, 27, 28, 29, 30, 31, 32, 33, 34], [0, 1, 2, 3, 4, 5, 6, 7, 8, 9, 10, 11, 12, 13, 14, 15, 16, 17, 18, 19, 20, 21, 22, 23, 24, 25, 26, 27, 28, 29, 30, 31, 32, 33, 34, 35], [0, 1, 2, 3, 4, 5, 6, 7, 8, 9, 10, 11, 12, 13, 14, 15, 16, 17, 18, 19, 20, 21, 22, 23, 24, 25, 26, 27, 28, 29, 30, 31, 32, 33, 34, 35, 36], [0, 1, 2, 3, 4, 5, 6, 7, 8, 9, 10, 11, 12, 13, 14, 15, 16, 17, 18, 19, 20, 21, 22, 23, 24, 25, 26, 27, 28, 29, 30, 31, 32, 33, 34, 35, 36, 37], [0, 1, 2, 3, 4, 5, 6, 7, 8, 9, 10, 11, 12, 13, 14, 15, 16, 17, 18, 19, 20, 21, 22, 23, 24, 25, 26, 27, 28, 29, 30, 31, 32, 33, 34, 35, 36, 37, 38], [0, 1, 2, 3, 4, 5, 6, 7, 8, 9, 10, 11, 12, 13, 14, 15, 16, 17, 18, 19, 20, 21, 22, 23, 24, 25, 26, 27, 28, 29, 30, 31, 32, 33, 34, 35, 36, 37, 38, 39]] (nl rfl) [0, 0, 1, 2, 3, 3, 4, 5, 6, 7, 8, 9, 10, 10, 10, 11, 10, 10, 10, 12, 13, 14, 15, 16, 16, 17, 16, 16, 18, 19, 20, 21, 22, 23, 22, 24, 25, 26, 27, 28, 29] rfl (TK := []) rfl AllK.nil' (fC ⟨(sC rfl AllS.nil'), AllH.nil'⟩ (fC ⟨(sC rfl AllS.nil'), AllH.nil'⟩ (fC ⟨(sC rfl (sC rfl AllS.nil')), AllH.nil'⟩ (fC ⟨(sC rfl AllS.nil'), AllH.nil'⟩ (fC ⟨(sC rfl (sC rfl AllS.nil')), (hC rfl AllH.nil')⟩ (fC ⟨(sC rfl AllS.nil'), AllH.nil'⟩ (fC ⟨(sC rfl AllS.nil'), AllH.nil'⟩ (fC ⟨(sC rfl AllS.nil'), AllH.nil'⟩ (fC ⟨(sC rfl AllS.nil'), AllH.nil'⟩ (fC ⟨(sC rfl AllS.nil'), AllH.nil'⟩ (fC ⟨(sC rfl AllS.nil'), AllH.nil'⟩ (fC ⟨(sC rfl AllS.nil'), AllH.nil'⟩ (fC ⟨(sC rfl AllS.nil'), AllH.nil'⟩ (fC ⟨(sC rfl AllS.nil'), AllH.nil'⟩ (fC ⟨(sC rfl AllS.nil'), AllH.nil'⟩ (fC ⟨(sC rfl AllS.nil'), AllH.nil'⟩ (fC ⟨(sC rfl AllS.nil'), AllH.nil'⟩ (fC ⟨(sC rfl AllS.nil'), AllH.nil'⟩ (fC ⟨(sC rfl AllS.nil'), AllH.nil'⟩ (fC ⟨(sC rfl AllS.nil'), AllH.nil'⟩ (fC ⟨(sC rfl AllS.nil'), AllH.nil'⟩ (fC ⟨(sC rfl AllS.nil'), AllH.nil'⟩ (fC ⟨(sC rfl AllS.nil'), AllH.nil'⟩ (fC ⟨(sC rfl AllS.nil'), AllH.nil'⟩ (fC ⟨(sC rfl AllS.nil'), AllH.nil'⟩ (fC ⟨(sC rfl AllS.nil'), AllH.nil'⟩ (fC ⟨(sC rfl AllS.nil'), AllH.nil'⟩ (fC ⟨(sC rfl AllS.nil'), AllH.nil'⟩ (fC ⟨(sC rfl AllS.nil'), AllH.nil'⟩ (fC ⟨(sC rfl AllS.nil'), AllH.nil'⟩ (fC ⟨(sC rfl AllS.nil'), AllH.nil'⟩ (fC ⟨(sC rfl AllS.nil'), AllH.nil'⟩ (fC ⟨(sC rfl AllS.nil'), AllH.nil'⟩ (fC ⟨(sC rfl AllS.nil'), AllH.nil'⟩ (fC ⟨(sC rfl AllS.nil'), AllH.nil'⟩ (fC ⟨(sC rfl AllS.nil'), AllH.nil'⟩ (fC ⟨(sC rfl AllS.nil'), AllH.nil'⟩ (fC ⟨(sC rfl AllS.nil'), AllH.nil'⟩ (fC ⟨(sC rfl AllS.nil'), AllH.nil'⟩ (fC ⟨(sC rfl AllS.nil'), AllH.nil'⟩ (fC ⟨(sC rfl AllS.nil'), AllH.nil'⟩ AllF.nil'))))))))))))))))))))))))))))))))))))))))) ?_ ?_
      ·refine (pC ?_ (pC ?_ (pC ?_ (pC ?_ (pC ?_ (pC ?_ (pC ?_ (pC ?_ (pC ?_ (pC ?_ (pC ?_ (pC ?_ (pC ?_ (pC ?_ (pC ?_ (pC ?_ (pC ?_ (pC ?_ (pC ?_ (pC ?_ (pC ?_ (pC ?_ (pC ?_ (pC ?_ (pC ?_ (pC ?_ (pC ?_ (pC ?_ (pC ?_ (pC ?_ (pC ?_ (pC ?_ (pC ?_ (pC ?_ (pC ?_ (pC ?_ (pC ?_ (pC ?_ (pC ?_ (pC ?_ (pC ?_ AllStep.nil')))))))))))))))))))))))))))))))))))))))))
       ·intro K rest fr hv htk k
        show AWops _ x _ _ K ⟨91, (upd 91 fr 10 (sc (.bool r5.2))), _⟩
        refine s_move (d := (sc (.bool r5.2))) rfl k
       ·intro K rest fr hv htk k
        show AWops _ x _ _ K ⟨91, (upd 91 fr 12 (sc (.bool r6.2))), _⟩
        refine s_move (d := (sc (.bool r6.2))) rfl k
       ·intro K rest fr hv htk k
        show AWops _ x _ _ K ⟨91, (upd 91 (upd 91 fr 52 (sc (.bool r6.2))) 51 (sc (.bool r5.2))), _⟩
        refine s_binB (b := (r5.2 == r6.2)) F.u_4 rfl rfl (.inl ⟨rfl, rfl⟩) k
       ·intro K rest fr hv htk k
        show AWops _ x _ _ K ⟨91, (upd 91 fr 53 (sc (.bool (r5.2 == r6.2)))), _⟩
        refine s_move (d := (sc (.bool (r5.2 == r6.2)))) rfl k
       ·intro K rest fr hv htk k
        show AWops _ x _ _ K ⟨91, (upd 91 (upd 91 fr 54 (sc (.bool (r5.2 == r6.2)))) 9 (D.one (C.ref 2 0))), [(hv 0), (hv 1), (some (AObj.cells true (c_api_Inst r5.1))), (hv 3), (hv 4), (hv 5), (hv 6), (hv 7), (hv 8), (hv 9), (hv 10), (hv 11)]⟩
        refine AWops.guard_no rfl (nl rfl) rfl c14 k
       ·intro K rest fr hv htk k
        show AWops _ x _ _ K ⟨91, (upd 91 fr 54 (sc (.bool (r5.2 == r6.2)))), _⟩
        refine AWops.guard_no rfl (nl rfl) rfl c14 k
       ·intro K rest fr hv htk k
        show AWops _ x _ _ K ⟨91, (upd 91 fr 54 (sc (.bool (r5.2 == r6.2)))), _⟩
        refine AWops.guard_no rfl (nl rfl) rfl c14 k
       ·intro K rest fr hv htk k
        show AWops _ x _ _ K ⟨91, (upd 91 fr 54 (sc (.bool (r5.2 == r6.2)))), _⟩
        refine s_pick_no (d := (sc (.bool false))) rfl c14 rfl k
       ·intro K rest fr hv htk k
        show AWops _ x _ _ K ⟨91, (upd 91 fr 58 (sc (.bool false))), _⟩
        refine s_move (d := (sc (.bool false))) rfl k
       ·intro K rest fr hv htk k
        show AWops _ x _ _ K ⟨91, (upd 91 fr 59 (sc (.bool false))), _⟩
        refine AWops.guard_no rfl (nl rfl) rfl rfl k
       ·intro K rest fr hv htk k
        show AWops _ x _ _ K ⟨91, (upd 91 fr 59 (sc (.bool false))), _⟩
        refine s_pick_no (d := (sc (.bool false))) rfl rfl rfl k
       ·intro K rest fr hv htk k
        show AWops _ x _ _ K ⟨91, (upd 91 fr 61 (sc (.bool false))), _⟩
        refine s_move (d := (sc (.bool false))) rfl k
       ·intro K rest fr hv htk k
        show AWops _ x _ _ K ⟨91, (upd 91 fr 62 (sc (.bool false))), _⟩
        refine AWops.guard_no rfl (nl rfl) rfl rfl k
       ·intro K rest fr hv htk k
        show AWops _ x _ _ K ⟨91, (upd 91 fr 62 (sc (.bool false))), _⟩
        refine AWops.guard_no rfl (nl rfl) rfl rfl k
       ·intro K rest fr hv htk k
        show AWops _ x _ _ K ⟨91, (upd 91 fr 62 (sc (.bool false))), _⟩
        refine AWops.guard_no rfl (nl rfl) rfl rfl k
       ·intro K rest fr hv htk k
        show AWops _ x _ _ K ⟨91, (upd 91 fr 62 (sc (.bool false))), _⟩
        refine AWops.guard_no rfl (nl rfl) rfl rfl k
       ·intro K rest fr hv htk k
        show AWops _ x _ _ K ⟨91, (upd 91 fr 62 (sc (.bool false))), _⟩
        refine AWops.guard_no rfl (nl rfl) rfl rfl k
       ·intro K rest fr hv htk k
        show AWops _ x _ _ K ⟨91, (upd 91 fr 62 (sc (.bool false))), _⟩
        refine AWops.guard_no rfl (nl rfl) rfl rfl k
       ·intro K rest fr hv htk k
        show AWops _ x _ _ K ⟨91, (upd 91 fr 62 (sc (.bool false))), _⟩
        refine AWops.guard_no rfl (nl rfl) rfl rfl k
       ·intro K rest fr hv htk k
        show AWops _ x _ _ K ⟨91, (upd 91 fr 62 (sc (.bool false))), _⟩
        refine AWops.guard_no rfl (nl rfl) rfl rfl k
       ·intro K rest fr hv htk k
        show AWops _ x _ _ K ⟨91, (upd 91 fr 62 (sc (.bool false))), _⟩
        refine AWops.guard_no rfl (nl rfl) rfl rfl k
       ·intro K rest fr hv htk k
        show AWops _ x _ _ K ⟨91, (upd 91 fr 62 (sc (.bool false))), _⟩
        refine s_pick_no (d := (sc (.bool false))) rfl rfl rfl k
       ·intro K rest fr hv htk k
        show AWops _ x _ _ K ⟨91, (upd 91 fr 72 (sc (.bool false))), _⟩
        refine s_move (d := (sc (.bool false))) rfl k
       ·intro K rest fr hv htk k
        show AWops _ x _ _ K ⟨91, (upd 91 fr 73 (sc (.bool false))), _⟩
        refine AWops.guard_no rfl (nl rfl) rfl rfl k
       ·intro K rest fr hv htk k
        show AWops _ x _ _ K ⟨91, (upd 91 fr 73 (sc (.bool false))), _⟩
        refine AWops.guard_no rfl (nl rfl) rfl rfl k
       ·intro K rest fr hv htk k
        show AWops _ x _ _ K ⟨91, (upd 91 fr 73 (sc (.bool false))), _⟩
        refine AWops.guard_no rfl (nl rfl) rfl rfl k
       ·intro K rest fr hv htk k
        show AWops _ x _ _ K ⟨91, (upd 91 fr 73 (sc (.bool false))), _⟩
        refine AWops.guard_no rfl (nl rfl) rfl rfl k
       ·intro K rest fr hv htk k
        show AWops _ x _ _ K ⟨91, (upd 91 fr 73 (sc (.bool false))), _⟩
        refine AWops.guard_no rfl (nl rfl) rfl rfl k
       ·intro K rest fr hv htk k
        show AWops _ x _ _ K ⟨91, (upd 91 fr 73 (sc (.bool false))), _⟩
        refine AWops.guard_no rfl (nl rfl) rfl rfl k
       ·intro K rest fr hv htk k
        show AWops _ x _ _ K ⟨91, (upd 91 fr 73 (sc (.bool false))), _⟩
        refine AWops.guard_no rfl (nl rfl) rfl rfl k
       ·intro K rest fr hv htk k
        show AWops _ x _ _ K ⟨91, (upd 91 fr 73 (sc (.bool false))), _⟩
        refine s_pick_no (d := (sc (.bool false))) rfl rfl rfl k
       ·intro K rest fr hv htk k
        show AWops _ x _ _ K ⟨91, (upd 91 fr 81 (sc (.bool false))), _⟩
        refine s_move (d := (sc (.bool false))) rfl k
       ·intro K rest fr hv htk k
        show AWops _ x _ _ K ⟨91, (upd 91 fr 82 (sc (.bool false))), _⟩
        refine AWops.guard_no rfl (nl rfl) rfl rfl k
       ·intro K rest fr hv htk k
        show AWops _ x _ _ K ⟨91, (upd 91 fr 82 (sc (.bool false))), _⟩
        refine AWops.guard_no rfl (nl rfl) rfl rfl k
       ·intro K rest fr hv htk k
        show AWops _ x _ _ K ⟨91, (upd 91 fr 82 (sc (.bool false))), _⟩
        refine AWops.guard_no rfl (nl rfl) rfl rfl k
       ·intro K rest fr hv htk k
        show AWops _ x _ _ K ⟨91, (upd 91 fr 82 (sc (.bool false))), _⟩
        refine AWops.guard_no rfl (nl rfl) rfl rfl k
       ·intro K rest fr hv htk k
        show AWops _ x _ _ K ⟨91, (upd 91 fr 82 (sc (.bool false))), _⟩
        refine s_pick_no (d := (sc (.bool false))) rfl rfl rfl k
       ·intro K rest fr hv htk k
        show AWops _ x _ _ K ⟨91, (upd 91 fr 87 (sc (.bool false))), _⟩
        refine s_move (d := (sc (.bool false))) rfl k
       ·intro K rest fr hv htk k
        show AWops _ x _ _ K ⟨91, (upd 91 fr 88 (sc (.bool false))), _⟩
        refine AWops.guard_no rfl (nl rfl) rfl rfl k
       ·intro K rest fr hv htk k
        show AWops _ x _ _ K ⟨91, (upd 91 fr 88 (sc (.bool false))), _⟩
        refine s_pick_no (d := (sc (.bool false))) rfl rfl rfl k
       ·intro K rest fr hv htk k
        show AWops _ x _ _ K ⟨91, (upd 91 fr 90 (sc (.bool false))), _⟩
        refine s_assign (d := (sc (.bool false))) rfl k
      ·refine AWops.weak (st' := ⟨91, (upd 91 topF 8 (sc (.bool false))), []⟩) (Weak.gen (kk := 0) [] [] hx rfl (by decide) (by decide) rfl rfl rfl (le_upd (le_top _) (.t (.one .sc))) an) (AWops.nil (AW.ret ?_))
       obtain rfl := Option.some.inj h
       exact ⟨_, rfl, (Weak.gen (kk := 0) [] [] rfl rfl (by decide) (by decide) rfl rfl rfl (le_upd (le_top _) (.t (.one .sc))) an)⟩
   ·refine AW.draw (n := 91) (L := 10) [(0, ⟨some 35, (D.agg (c_api_Case a0)), [(4, (D.one (C.ref 0 0)))], [(0, (some (AObj.cells true (c_api_Case a0))))], [], none⟩), (1, ⟨some 36, (sc (.string a2)), [(2, (sc (.string a2)))], [], [], none⟩), (2, ⟨some 37, (D.one (C.own 4 0 r7.length 6)), [(35, (D.agg (c_api_Case a0))), (36, (sc (.string a2)))], [], [(4, (some (AObj.cells true (rowC e_api_Inst r7))))], some 4⟩), (3, ⟨some 38, (D.agg (c_api_Case a0)), [(4, (D.one (C.ref 0 0)))], [(0, (some (AObj.cells true (c_api_Case a0))))], [], none⟩), (4, ⟨some 39, (sc (.string a2)), [(2, (sc (.string a2)))], [], [], none⟩), (5, ⟨some 40, (D.one (C.own 5 0 r8.length 6)), [(38, (D.agg (c_api_Case a0))), (39, (sc (.string a2)))], [], [(5, (some (AObj.cells true (rowC e_api_Inst r8))))], some 5⟩), (6, ⟨some 41, (sc (.bool r9)), [(37, (D.one (C.own 4 0 r7.length 6))), (40, (D.one (C.own 5 0 r8.length 6)))], [(4, (some (AObj.cells true (rowC e_api_Inst r7)))), (5, (some (AObj.cells true (rowC e_api_Inst r8))))], [], none⟩), (7, ⟨some 42, (sc (.bool r9)), [(41, (sc (.bool r9)))], [], [], none⟩), (8, ⟨some 43, (D.tup []), [(4, (D.one (C.ref 0 0))), (42, (sc (.bool r9)))], [(0, (some (AObj.cells true (c_api_Case a0))))], [], none⟩), (9, ⟨some 44, (D.tup []), [(42, (sc (.bool r9)))], [], [], none⟩), (10, ⟨some 45, (D.tup []), [(42, (sc (.bool r9)))], [], [], none⟩), (11, ⟨some 46, (D.tup []), [(42, (sc (.bool r9)))], [], [], none⟩), (12, ⟨some 47, (D.tup []), [(42, (sc (.bool r9)))], [], [], none⟩), (13, ⟨some 48, (D.tup []), [(42, (sc (.bool r9)))], [], [], none⟩), (14, ⟨some 49, (D.tup []), [(42, (sc (.bool r9)))], [], [], none⟩), (15, ⟨some 50, (sc (.bool false)), [(42, (sc (.bool r9)))], [], [], none⟩), (16, ⟨some 13, (sc (.bool false)), [(50, (sc (.bool false)))], [], [], none⟩)] [[], [], [0, 1], [], [], [0, 1, 2, 3, 4], [0, 1, 2, 3, 4, 5], [0, 1, 2, 3, 4, 5, 6], [0, 1, 2, 3, 4, 5, 6, 7], [0, 1, 2, 3, 4, 5, 6, 7], [0, 1, 2, 3, 4, 5, 6, 7, 8, 9], [0, 1, 2, 3, 4, 5, 6, 7], [0, 1, 2, 3, 4, 5, 6, 7], [0, 1, 2, 3, 4, 5, 6, 7, 8, 9, 10, 11, 12], [0, 1, 2, 3, 4, 5, 6, 7, 8, 9, 10, 11, 12, 13], [0, 1, 2, 3, 4, 5, 6, 7, 8, 9, 10, 11, 12, 13, 14], [0, 1, 2, 3, 4, 5, 6, 7, 8, 9, 10, 11, 12, 13, 14, 15]] (nl rfl) [0, 0, 1, 0, 0, 2, 3, 4, 5, 5, 6, 5, 5, 7, 8, 9, 10] rfl (TK := [(2, 4), (5, 5)]) rfl (AllK.cons' ⟨(tk_upd (tk_upd (tk_upd (tk_upd (tk_upd (tk_upd (tk_upd (tk_upd tk_top rfl) rfl) rfl) rfl) rfl) rfl) rfl) rfl), (tC rfl (tC rfl (tC rfl (tC rfl AllT.nil')))), (fC (.inr rfl) (fC (.inr rfl) (fC (.inl rfl) (fC (.inr rfl) (fC (.inr rfl) (fC (.inl rfl) (fC (.inl rfl) (fC (.inl rfl) (fC (.inl rfl) (fC (.inl rfl) (fC (.inl rfl) (fC (.inl rfl) (fC (.inl rfl) (fC (.inl rfl) (fC (.inl rfl) (fC (.inl rfl) (fC (.inl rfl) AllF.nil')))))))))))))))))⟩ (AllK.cons' ⟨(tk_upd (tk_upd (tk_upd (tk_upd (tk_upd (tk_upd (tk_upd (tk_upd tk_top rfl) rfl) rfl) rfl) rfl) rfl) rfl) rfl), (tC rfl (tC rfl (tC rfl (tC rfl AllT.nil')))), (fC (.inr rfl) (fC (.inr rfl) (fC (.inr (by unfold tkFoot; simp only [List.all_cons, List.all_nil, tkO_row, Bool.and_true, Bool.true_and]; rfl)) (fC (.inr rfl) (fC (.inr rfl) (fC (.inl rfl) (fC (.inl rfl) (fC (.inl rfl) (fC (.inl rfl) (fC (.inl rfl) (fC (.inl rfl) (fC (.inl rfl) (fC (.inl rfl) (fC (.inl rfl) (fC (.inl rfl) (fC (.inl rfl) (fC (.inl rfl) AllF.nil')))))))))))))))))⟩ AllK.nil')) (fC ⟨(sC rfl AllS.nil'), (hC rfl AllH.nil')⟩ (fC ⟨(sC rfl AllS.nil'), AllH.nil'⟩ (fC ⟨(sC rfl (sC rfl AllS.nil')), AllH.nil'⟩ (fC ⟨(sC rfl AllS.nil'), (hC rfl AllH.nil')⟩ (fC ⟨(sC rfl AllS.nil'), AllH.nil'⟩ (fC ⟨(sC rfl (sC rfl AllS.nil')), AllH.nil'⟩ (fC ⟨(sC rfl (sC rfl AllS.nil')), (hC rfl (hC rfl AllH.nil'))⟩ (fC ⟨(sC rfl AllS.nil'), AllH.nil'⟩ (fC ⟨(sC rfl (sC rfl AllS.nil')), (hC rfl AllH.nil')⟩ (fC ⟨(sC rfl AllS.nil'), AllH.nil'⟩ (fC ⟨(sC rfl AllS.nil'), AllH.nil'⟩ (fC ⟨(sC rfl AllS.nil'), AllH.nil'⟩ (fC ⟨(sC rfl AllS.nil'), AllH.nil'⟩ (fC ⟨(sC rfl AllS.nil'), AllH.nil'⟩ (fC ⟨(sC rfl AllS.nil'), AllH.nil'⟩ (fC ⟨(sC rfl AllS.nil'), AllH.nil'⟩ (fC ⟨(sC rfl AllS.nil'), AllH.nil'⟩ AllF.nil'))))))))))))))))) ?_ ?_
    ·refine (pC ?_ (pC ?_ (pC ?_ (pC ?_ (pC ?_ (pC ?_ (pC ?_ (pC ?_ (pC ?_ (pC ?_ (pC ?_ (pC ?_ (pC ?_ (pC ?_ (pC ?_ (pC ?_ (pC ?_ AllStep.nil')))))))))))))))))
     ·intro K rest fr hv htk k
      show AWops _ x _ _ K ⟨91, (upd 91 fr 4 (D.one (C.ref 0 0))), [(some (AObj.cells true (c_api_Case a0))), (hv 1), (hv 2), (hv 3), (hv 4), (hv 5), (hv 6), (hv 7), (hv 8), (hv 9)]⟩
      refine s_loadN (ds := (c_api_Case a0)) F.ag_25 F.sz_25 rfl rfl rfl k
     ·intro K rest fr hv htk k
      show AWops _ x _ _ K ⟨91, (upd 91 fr 2 (sc (.string a2))), _⟩
      refine s_move (d := (sc (.string a2))) rfl k
     ·intro K rest fr hv htk k
      show AWops _ x _ _ K ⟨91, (upd 91 (upd 91 fr 36 (sc (.string a2))) 35 (D.agg (c_api_Case a0))), [(hv 0), (hv 1), (hv 2), (hv 3), (hv 4), (hv 5), (hv 6), (hv 7), (hv 8), (hv 9)]⟩
      refine s_call2 (ρ := []) (br := false) (H2 := [(hv 0), (hv 1), (hv 2), (hv 3), (hv 4), (hv 5), (hv 6), (hv 7), (hv 8), (hv 9), (some (AObj.cells true (rowC e_api_Inst r7)))]) (d := (D.one (C.own 10 0 r7.length 6))) F.ca_9 rfl rfl (ac (LendT.aggL (ac .sc (ac .sc (ac .imm (ac .imm (ac .sc an)))))) (ac (.one .sc) an)) an (by decide) rfl (tree_Kids.meets _ a0 a2 r7 er7) (.inl rfl) (by first | rfl | (simp only [mergeH2, orF, Bool.false_or, Bool.or_false, Bool.true_or, Bool.or_true, mergeAt, mergeObj, renO, ren_row, List.drop_succ_cons, List.drop_zero, List.map_cons, List.map_nil, Option.map_some, Option.map_none, List.length_cons, List.length_nil, Nat.zero_add, List.append_assoc, List.cons_append, List.nil_append]; done) | (simp only [mergeH2, orF, Bool.false_or, Bool.or_false, Bool.true_or, Bool.or_true, mergeAt, mergeObj, renO, ren_row, List.drop_succ_cons, List.drop_zero, List.map_cons, List.map_nil, Option.map_some, Option.map_none, List.length_cons, List.length_nil, Nat.zero_add, List.append_assoc, List.cons_append, List.nil_append]; rfl)) rfl ?_
      refine AWops.weak (st' := ⟨91, (upd 91 (upd 91 (upd 91 fr 36 (sc (.string a2))) 35 (D.agg (c_api_Case a0))) 37 (D.one (C.own 4 0 r7.length 6))), [(hv 0), (hv 1), (hv 2), (hv 3), (some (AObj.cells true (rowC e_api_Inst r7))), (hv 5), (hv 6), (hv 7), (hv 8), (hv 9)]⟩) (Weak.gen (kk := 0) [0, 1, 2, 3, 10, 5, 6, 7, 8, 9] [] hx rfl (by decide) (by decide) rfl rfl rfl (le_upd2 (le_ok (p := 4) (L := 10) rfl (htk 4 rfl).1) (.t (.one (.own rfl)))) (ac (ole_ok (p := 4) (L := 10) rfl ((htk 4 rfl).2 0)) (ac (ole_ok (p := 4) (L := 10) rfl ((htk 4 rfl).2 1)) (ac (ole_ok (p := 4) (L := 10) rfl ((htk 4 rfl).2 2)) (ac (ole_ok (p := 4) (L := 10) rfl ((htk 4 rfl).2 3)) (ac (.cells (fun h => h) (all2_row _)) (ac (ole_ok (p := 4) (L := 10) rfl ((htk 4 rfl).2 5)) (ac (ole_ok (p := 4) (L := 10) rfl ((htk 4 rfl).2 6)) (ac (ole_ok (p := 4) (L := 10) rfl ((htk 4 rfl).2 7)) (ac (ole_ok (p := 4) (L := 10) rfl ((htk 4 rfl).2 8)) (ac (ole_ok (p := 4) (L := 10) rfl ((htk 4 rfl).2 9)) an))))))))))) k
     ·intro K rest fr hv htk k
      show AWops _ x _ _ K ⟨91, (upd 91 fr 4 (D.one (C.ref 0 0))), [(some (AObj.cells true (c_api_Case a0))), (hv 1), (hv 2), (hv 3), (hv 4), (hv 5), (hv 6), (hv 7), (hv 8), (hv 9)]⟩
      refine s_loadN (ds := (c_api_Case a0)) F.ag_25 F.sz_25 rfl rfl rfl k
     ·intro K rest fr hv htk k
      show AWops _ x _ _ K ⟨91, (upd 91 fr 2 (sc (.string a2))), _⟩
      refine s_move (d := (sc (.string a2))) rfl k
     ·intro K rest fr hv htk k
      show AWops _ x _ _ K ⟨91, (upd 91 (upd 91 fr 39 (sc (.string a2))) 38 (D.agg (c_api_Case a0))), [(hv 0), (hv 1), (hv 2), (hv 3), (hv 4), (hv 5), (hv 6), (hv 7), (hv 8), (hv 9)]⟩
      refine s_call2 (ρ := []) (br := false) (H2 := [(hv 0), (hv 1), (hv 2), (hv 3), (hv 4), (hv 5), (hv 6), (hv 7), (hv 8), (hv 9), (some (AObj.cells true (rowC e_api_Inst r8)))]) (d := (D.one (C.own 10 0 r8.length 6))) F.ca_10 rfl rfl (ac (LendT.aggL (ac .sc (ac .sc (ac .imm (ac .imm (ac .sc an)))))) (ac (.one .sc) an)) an (by decide) rfl (dossierref18_Kids.meets _ a0 a2 r8 er8) (.inl rfl) (by first | rfl | (simp only [mergeH2, orF, Bool.false_or, Bool.or_false, Bool.true_or, Bool.or_true, mergeAt, mergeObj, renO, ren_row, List.drop_succ_cons, List.drop_zero, List.map_cons, List.map_nil, Option.map_some, Option.map_none, List.length_cons, List.length_nil, Nat.zero_add, List.append_assoc, List.cons_append, List.nil_append]; done) | (simp only [mergeH2, orF, Bool.false_or, Bool.or_false, Bool.true_or, Bool.or_true, mergeAt, mergeObj, renO, ren_row, List.drop_succ_cons, List.drop_zero, List.map_cons, List.map_nil, Option.map_some, Option.map_none, List.length_cons, List.length_nil, Nat.zero_add, List.append_assoc, List.cons_append, List.nil_append]; rfl)) rfl ?_
      refine AWops.weak (st' := ⟨91, (upd 91 (upd 91 (upd 91 fr 39 (sc (.string a2))) 38 (D.agg (c_api_Case a0))) 40 (D.one (C.own 5 0 r8.length 6))), [(hv 0), (hv 1), (hv 2), (hv 3), (hv 4), (some (AObj.cells true (rowC e_api_Inst r8))), (hv 6), (hv 7), (hv 8), (hv 9)]⟩) (Weak.gen (kk := 0) [0, 1, 2, 3, 4, 10, 6, 7, 8, 9] [] hx rfl (by decide) (by decide) rfl rfl rfl (le_upd2 (le_ok (p := 5) (L := 10) rfl (htk 5 rfl).1) (.t (.one (.own rfl)))) (ac (ole_ok (p := 5) (L := 10) rfl ((htk 5 rfl).2 0)) (ac (ole_ok (p := 5) (L := 10) rfl ((htk 5 rfl).2 1)) (ac (ole_ok (p := 5) (L := 10) rfl ((htk 5 rfl).2 2)) (ac (ole_ok (p := 5) (L := 10) rfl ((htk 5 rfl).2 3)) (ac (ole_ok (p := 5) (L := 10) rfl ((htk 5 rfl).2 4)) (ac (.cells (fun h => h) (all2_row _)) (ac (ole_ok (p := 5) (L := 10) rfl ((htk 5 rfl).2 6)) (ac (ole_ok (p := 5) (L := 10) rfl ((htk 5 rfl).2 7)) (ac (ole_ok (p := 5) (L := 10) rfl ((htk 5 rfl).2 8)) (ac (ole_ok (p := 5) (L := 10) rfl ((htk 5 rfl).2 9)) an))))))))))) k
     ·intro K rest fr hv htk k
      show AWops _ x _ _ K ⟨91, (upd 91 (upd 91 fr 40 (D.one (C.own 5 0 r8.length 6))) 37 (D.one (C.own 4 0 r7.length 6))), [(hv 0), (hv 1), (hv 2), (hv 3), (some (AObj.cells true (rowC e_api_Inst r7))), (some (AObj.cells true (rowC e_api_Inst r8))), (hv 6), (hv 7), (hv 8), (hv 9)]⟩
      refine s_call2 (ρ := []) (br := true) (H2 := [(hv 0), (hv 1), (hv 2), (hv 3), (some (AObj.cells true (rowC e_api_Inst r7))), (some (AObj.cells true (rowC e_api_Inst r8))), (hv 6), (hv 7), (hv 8), (hv 9)]) (d := (sc (.bool r9))) F.ca_8 rfl rfl (ac (.one (LendC.bor e_api_Inst_len rfl rfl rfl)) (ac (.one (LendC.bor e_api_Inst_len rfl rfl rfl)) an)) an (by decide) rfl (dossierplain_SameInsts.meets _ r7 r8 r9 er9) (.inr ⟨rfl, rfl⟩) rfl rfl k
     ·intro K rest fr hv htk k
      show AWops _ x _ _ K ⟨91, (upd 91 fr 41 (sc (.bool r9))), _⟩
      refine s_move (d := (sc (.bool r9))) rfl k
     ·intro K rest fr hv htk k
      show AWops _ x _ _ K ⟨91, (upd 91 (upd 91 fr 42 (sc (.bool r9))) 4 (D.one (C.ref 0 0))), [(some (AObj.cells true (c_api_Case a0))), (hv 1), (hv 2), (hv 3), (hv 4), (hv 5), (hv 6), (hv 7), (hv 8), (hv 9)]⟩
      refine AWops.guard_no rfl (nl rfl) rfl c10 k
     ·intro K rest fr hv htk k
      show AWops _ x _ _ K ⟨91, (upd 91 fr 42 (sc (.bool r9))), _⟩
      refine AWops.guard_no rfl (nl rfl) rfl c10 k
     ·intro K rest fr hv htk k
      show AWops _ x _ _ K ⟨91, (upd 91 fr 42 (sc (.bool r9))), _⟩
      refine AWops.guard_no rfl (nl rfl) rfl c10 k
     ·intro K rest fr hv htk k
      show AWops _ x _ _ K ⟨91, (upd 91 fr 42 (sc (.bool r9))), _⟩
      refine AWops.guard_no rfl (nl rfl) rfl c10 k
     ·intro K rest fr hv htk k
      show AWops _ x _ _ K ⟨91, (upd 91 fr 42 (sc (.bool r9))), _⟩
      refine AWops.guard_no rfl (nl rfl) rfl c10 k
     ·intro K rest fr hv htk k
      show AWops _ x _ _ K ⟨91, (upd 91 fr 42 (sc (.bool r9))), _⟩
      refine AWops.guard_no rfl (nl rfl) rfl c10 k
     ·intro K rest fr hv htk k
      show AWops _ x _ _ K ⟨91, (upd 91 fr 42 (sc (.bool r9))), _⟩
      refine AWops.guard_no rfl (nl rfl) rfl c10 k
     ·intro K rest fr hv htk k
      show AWops _ x _ _ K ⟨91, (upd 91 fr 42 (sc (.bool r9))), _⟩
      refine s_pick_no (d := (sc (.bool false))) rfl c10 rfl k
     ·intro K rest fr hv htk k
      show AWops _ x _ _ K ⟨91, (upd 91 fr 50 (sc (.bool false))), _⟩
      refine s_assign (d := (sc (.bool false))) rfl k
    ·refine AWops.weak (st' := ⟨91, (upd 91 (upd 91 (upd 91 (upd 91 (upd 91 (upd 91 (upd 91 (upd 91 (upd 91 topF 2 (sc (.string a2))) 3 (sc (.string a3))) 4 (D.one (C.ref 0 0))) 5 (D.one (C.ref 1 0))) 9 (D.one (C.ref 2 0))) 10 (sc (.bool r5.2))) 11 (D.one (C.ref 3 0))) 12 (sc (.bool r6.2))) 13 (sc (.bool false))), [(some (AObj.cells true (c_api_Case a0))), (some (AObj.cells true (c_api_Case a1))), (some (AObj.cells true (c_api_Inst r5.1))), (some (AObj.cells true (c_api_Inst r6.1)))]⟩) (Weak.gen (kk := 0) [0, 1, 2, 3] [] hx rfl (by decide) (by decide) rfl rfl rfl (le_upd (le_upd (le_upd (le_upd (le_upd (le_upd (le_upd (le_upd (le_upd (le_top _) (.t (.one .sc))) (.t (.one .sc))) (.t (.one (.ref rfl)))) (.t (.one (.ref rfl)))) (.t (.one (.ref rfl)))) (.t (.one .sc))) (.t (.one (.ref rfl)))) (.t (.one .sc))) (.t (.one .sc))) (ac (.cells (fun h => h) (ac .sc (ac .sc (ac .same (ac .same (ac .sc an)))))) (ac (.cells (fun h => h) (ac .sc (ac .sc (ac .same (ac .same (ac .sc an)))))) (ac (.cells (fun h => h) (ac .sc (ac .sc (ac .sc (ac .sc (ac .same (ac .sc an))))))) (ac (.cells (fun h => h) (ac .sc (ac .sc (ac .sc (ac .sc (ac .same (ac .sc an))))))) an))))) (AWops.nil (AW.seq ?_))
     refine AW.weak (st' := ⟨91, (upd 91 (upd 91 (upd 91 (upd 91 (upd 91 (upd 91 (upd 91 (upd 91 (upd 91 topF 2 (sc (.string a2))) 3 (sc (.string a3))) 4 (D.one (C.ref 0 0))) 5 (D.one (C.ref 1 0))) 9 (D.one (C.ref 2 0))) 10 (sc (.bool r5.2))) 11 (D.one (C.ref 3 0))) 12 (sc (.bool r6.2))) 13 (sc (.bool false))), [(some (AObj.cells true (c_api_Case a0))), (some (AObj.cells true (c_api_Case a1))), (some (AObj.cells true (c_api_Inst r5.1))), (some (AObj.cells true (c_api_Inst r6.1)))]⟩) (Weak.gen (kk := 0) [0, 1, 2, 3] [] hx rfl (by decide) (by decide) rfl rfl rfl (le_upd (le_upd (le_upd (le_upd (le_upd (le_upd (le_upd (le_upd (le_upd (le_top _) (.t (.one .sc))) (.t (.one .sc))) (.t (.one (.ref rfl)))) (.t (.one (.ref rfl)))) (.t (.one (.ref rfl)))) (.t (.one .sc))) (.t (.one (.ref rfl)))) (.t (.one .sc))) (.t (.one .sc))) (ac (.cells (fun h => h) (ac .sc (ac .sc (ac .same (ac .same (ac .sc an)))))) (ac (.cells (fun h => h) (ac .sc (ac .sc (ac .same (ac .same (ac .sc an)))))) (ac (.cells (fun h => h) (ac .sc (ac .sc (ac .sc (ac .sc (ac .same (ac .sc an))))))) (ac (.cells (fun h => h) (ac .sc (ac .sc (ac .sc (ac .sc (ac .same (ac .sc an))))))) an))))) ?_
     rcases itH h with ⟨c28, h⟩ | ⟨c28, h⟩
     ·obtain ⟨r29, er29, h⟩ := bnd h
      rcases itH h with ⟨c30, h⟩ | ⟨c30, h⟩
      ·refine AW.draw (n := 91) (L := 12) [(0, ⟨some 51, (sc (.bool r5.2)), [(10, (sc (.bool r5.2)))], [], [], none⟩), (1, ⟨some 52, (sc (.bool r6.2)), [(12, (sc (.bool r6.2)))], [], [], none⟩), (2, ⟨some 53, (sc (.bool (r5.2 == r6.2))), [(51, (sc (.bool r5.2))), (52, (sc (.bool r6.2)))], [], [], none⟩), (3, ⟨some 54, (sc (.bool (r5.2 == r6.2))), [(53, (sc (.bool (r5.2 == r6.2))))], [], [], none⟩), (4, ⟨some 55, (D.agg (c_api_Inst r5.1)), [(9, (D.one (C.ref 2 0))), (54, (sc (.bool (r5.2 == r6.2))))], [(2, (some (AObj.cells true (c_api_Inst r5.1))))], [], none⟩), (5, ⟨some 56, (D.agg (c_api_Inst r6.1)), [(11, (D.one (C.ref 3 0))), (54, (sc (.bool (r5.2 == r6.2))))], [(3, (some (AObj.cells true (c_api_Inst r6.1))))], [], none⟩), (6, ⟨some 57, (sc (.bool r29)), [(54, (sc (.bool (r5.2 == r6.2)))), (55, (D.agg (c_api_Inst r5.1))), (56, (D.agg (c_api_Inst r6.1)))], [], [], none⟩), (7, ⟨some 58, (sc (.bool r29)), [(54, (sc (.bool (r5.2 == r6.2)))), (57, (sc (.bool r29)))], [], [], none⟩), (8, ⟨some 59, (sc (.bool r29)), [(58, (sc (.bool r29)))], [], [], none⟩), (9, ⟨some 60, (sc (.bool false)), [(13, (sc (.bool false))), (59, (sc (.bool r29)))], [], [], none⟩), (10, ⟨some 61, (sc (.bool false)), [(59, (sc (.bool r29))), (60, (sc (.bool false)))], [], [], none⟩), (11, ⟨some 62, (sc (.bool false)), [(61, (sc (.bool false)))], [], [], none⟩), (12, ⟨some 63, (D.tup []), [(62, (sc (.bool false)))], [], [], none⟩), (13, ⟨some 64, (D.tup []), [(62, (sc (.bool false)))], [], [], none⟩), (14, ⟨some 65, (D.tup []), [(62, (sc (.bool false)))], [], [], none⟩), (15, ⟨some 66, (D.tup []), [(62, (sc (.bool false)))], [], [], none⟩), (16, ⟨some 67, (D.tup []), [(62, (sc (.bool false)))], [], [], none⟩), (17, ⟨some 68, (D.tup []), [(62, (sc (.bool false)))], [], [], none⟩), (18, ⟨some 69, (D.tup []), [(62, (sc (.bool false)))], [], [], none⟩), (19, ⟨some 70, (D.tup []), [(62, (sc (.bool false)))], [], [], none⟩), (20, ⟨some 71, (D.tup []), [(62, (sc (.bool false)))], [], [], none⟩), (21, ⟨some 72, (sc (.bool false)), [(62, (sc (.bool false)))], [], [], none⟩), (22, ⟨some 73, (sc (.bool false)), [(72, (sc (.bool false)))], [], [], none⟩), (23, ⟨some 74, (D.tup []), [(73, (sc (.bool false)))], [], [], none⟩), (24, ⟨some 75, (D.tup []), [(73, (sc (.bool false)))], [], [], none⟩), (25, ⟨some 76, (D.tup []), [(73, (sc (.bool false)))], [], [], none⟩), (26, ⟨some 77, (D.tup []), [(73, (sc (.bool false)))], [], [], none⟩), (27, ⟨some 78, (D.tup []), [(73, (sc (.bool false)))], [], [], none⟩), (28, ⟨some 79, (D.tup []), [(73, (sc (.bool false)))], [], [], none⟩), (29, ⟨some 80, (D.tup []), [(73, (sc (.bool false)))], [], [], none⟩), (30, ⟨some 81, (sc (.bool false)), [(73, (sc (.bool false)))], [], [], none⟩), (31, ⟨some 82, (sc (.bool false)), [(81, (sc (.bool false)))], [], [], none⟩), (32, ⟨some 83, (D.tup []), [(82, (sc (.bool false)))], [], [], none⟩), (33, ⟨some 84, (D.tup []), [(82, (sc (.bool false)))], [], [], none⟩), (34, ⟨some 85, (D.tup []), [(82, (sc (.bool false)))], [], [], none⟩), (35, ⟨some 86, (D.tup []), [(82, (sc (.bool false)))], [], [], none⟩), (36, ⟨some 87, (sc (.bool false)), [(82, (sc (.bool false)))], [], [], none⟩), (37, ⟨some 88, (sc (.bool false)), [(87, (sc (.bool false)))], [], [], none⟩), (38, ⟨some 89, (D.tup []), [(88, (sc (.bool false)))], [], [], none⟩), (39, ⟨some 90, (sc (.bool false)), [(88, (sc (.bool false)))], [], [], none⟩), (40, ⟨some 8, (sc (.bool false)), [(90, (sc (.bool false)))], [], [], none⟩)] [[], [], [0, 1], [0, 1, 2], [0, 1, 2, 3], [0, 1, 2, 3], [0, 1, 2, 3, 4, 5], [0, 1, 2, 3, 4, 5, 6], [0, 1, 2, 3, 4, 5, 6, 7], [0, 1, 2, 3, 4, 5, 6, 7, 8], [0, 1, 2, 3, 4, 5, 6, 7, 8, 9], [0, 1, 2, 3, 4, 5, 6, 7, 8, 9, 10], [0, 1, 2, 3, 4, 5, 6, 7, 8, 9, 10, 11], [0, 1, 2, 3, 4, 5, 6, 7, 8, 9, 10, 11], [0, 1, 2, 3, 4, 5, 6, 7, 8, 9, 10, 11], [0, 1, 2, 3, 4, 5, 6, 7, 8, 9, 10, 11, 12, 13, 14], [0, 1, 2, 3, 4, 5, 6, 7, 8, 9, 10, 11], [0, 1, 2, 3, 4, 5, 6, 7, 8, 9, 10, 11], [0, 1, 2, 3, 4, 5, 6, 7, 8, 9, 10, 11], [0, 1, 2, 3, 4, 5, 6, 7, 8, 9, 10, 11, 12, 13, 14, 15, 16, 17, 18], [0, 1, 2, 3, 4, 5, 6, 7, 8, 9, 10, 11, 12, 13, 14, 15, 16, 17, 18, 19], [0, 1, 2, 3, 4, 5, 6, 7, 8, 9, 10, 11, 12, 13, 14, 15, 16, 17, 18, 19, 20], [0, 1, 2, 3, 4, 5, 6, 7, 8, 9, 10, 11, 12, 13, 14, 15, 16, 17, 18, 19, 20, 21], [0, 1, 2, 3, 4, 5, 6, 7, 8, 9, 10, 11, 12, 13, 14, 15, 16, 17, 18, 19, 20, 21, 22], [0, 1, 2, 3, 4, 5, 6, 7, 8, 9, 10, 11, 12, 13, 14, 15, 16, 17, 18, 19, 20, 21, 22], [0, 1, 2, 3, 4, 5, 6, 7, 8, 9, 10, 11, 12, 13, 14, 15, 16, 17, 18, 19, 20, 21, 22, 23, 24], [0, 1, 2, 3, 4, 5, 6, 7, 8, 9, 10, 11, 12, 13, 14, 15, 16, 17, 18, 19, 20, 21, 22], [0, 1, 2, 3, 4, 5, 6, 7, 8, 9, 10, 11, 12, 13, 14, 15, 16, 17, 18, 19, 20, 21, 22], [0, 1, 2, 3, 4, 5, 6, 7, 8, 9, 10, 11, 12, 13, 14, 15, 16, 17, 18, 19, 20, 21, 22, 23, 24, 25, 26, 27], [0, 1, 2, 3, 4, 5, 6, 7, 8, 9, 10, 11, 12, 13, 14, 15, 16, 17, 18, 19, 20, 21, 22, 23, 24, 25, 26, 27, 28], [0, 1, 2, 3, 4, 5, 6, 7, 8, 9, 10, 11, 12, 13, 14, 15, 16, 17, 18, 19, 20, 21, 22, 23, 24, 25, 26, 27, 28, 29], [0, 1, 2, 3, 4, 5, 6, 7, 8, 9, 10, 11, 12, 13, 14, 15, 16, 17, 18, 19, 20, 21, 22, 23, 24, 25, 26, 27, 28, 29, 30], [0, 1, 2, 3, 4, 5, 6, 7, 8, 9, 10, 11, 12, 13, 14, 15, 16, 17, 18, 19, 20, 21, 22, 23, 24, 25, 26, 27, 28, 29, 30, 31], [0, 1, 2, 3, 4, 5, 6, 7, 8, 9, 10, 11, 12, 13, 14, 15, 16, 17, 18, 19, 20, 21, 22, 23, 24, 25, 26, 27, 28, 29, 30, 31, 32], [0, 1, 2, 3, 4, 5, 6, 7, 8, 9, 10, 11, 12, 13, 14, 15, 16, 17, 18, 19, 20, 21, 22, 23, 24, 25, 26, 27, 28, 29, 30, 31], [0, 1, 2, 3, 4, 5, 6, 7, 8, 9, 10, 11, 12, 13, 14, 15, 16, 17, 18, 19, 20, 21, 22, 23, 24, 25, 26, 27, 28, 29, 30, 31, 32, 33, 34], [0, 1, 2, 3, 4, 5, 6, 7, 8, 9, 10, 11, 12, 13, 14, 15, 16, 17, 18, 19, 20, 21, 22, 23, 24, 25, 26, 27, 28, 29, 30, 31, 32, 33, 34, 35], [0, 1, 2, 3, 4, 5, 6, 7, 8, 9, 10, 11, 12, 13, 14, 15, 16, 17, 18, 19, 20, 21, 22, 23, 24, 25, 26, 27, 28, 29, 30, 31, 32, 33, 34, 35, 36], [0, 1, 2, 3, 4, 5, 6, 7, 8, 9, 10, 11, 12, 13, 14, 15, 16, 17, 18, 19, 20, 21, 22, 23, 24, 25, 26, 27, 28, 29, 30, 31, 32, 33, 34, 35, 36, 37], [0, 1, 2, 3, 4, 5, 6, 7, 8, 9, 10, 11, 12, 13, 14, 15, 16, 17, 18, 19, 20, 21, 22, 23, 24, 25, 26, 27, 28, 29, 30, 31, 32, 33, 34, 35, 36, 37, 38], [0, 1, 2, 3, 4, 5, 6, 7, 8, 9, 10, 11, 12, 13, 14, 15, 16, 17, 18, 19, 20, 21, 22, 23, 24, 25, 26, 27, 28, 29, 30, 31, 32, 33, 34, 35, 36, 37, 38, 39]] (nl rfl) [0, 0, 1, 2, 3, 3, 4, 5, 6, 7, 8, 9, 10, 10, 10, 11, 10, 10, 10, 12, 13, 14, 15, 16, 16, 17, 16, 16, 18, 19, 20, 21, 22, 23, 22, 24, 25, 26, 27, 28, 29] rfl (TK := []) rfl AllK.nil' (fC ⟨(sC rfl AllS.nil'), AllH.nil'⟩ (fC ⟨(sC rfl AllS.nil'), AllH.nil'⟩ (fC ⟨(sC rfl (sC rfl AllS.nil')), AllH.nil'⟩ (fC ⟨(sC rfl AllS.nil'), AllH.nil'⟩ (fC ⟨(sC rfl (sC rfl AllS.nil')), (hC rfl AllH.nil')⟩ (fC ⟨(sC rfl (sC rfl AllS.nil')), (hC rfl AllH.nil')⟩ (fC ⟨(sC rfl (sC rfl (sC rfl AllS.nil'))), AllH.nil'⟩ (fC ⟨(sC rfl (sC rfl AllS.nil')), AllH.nil'⟩ (fC ⟨(sC rfl AllS.nil'), AllH.nil'⟩ (fC ⟨(sC rfl (sC rfl AllS.nil')), AllH.nil'⟩ (fC ⟨(sC rfl (sC rfl AllS.nil')), AllH.nil'⟩ (fC ⟨(sC rfl AllS.nil'), AllH.nil'⟩ (fC ⟨(sC rfl AllS.nil'), AllH.nil'⟩ (fC ⟨(sC rfl AllS.nil'), AllH.nil'⟩ (fC ⟨(sC rfl AllS.nil'), AllH.nil'⟩ (fC ⟨(sC rfl AllS.nil'), AllH.nil'⟩ (fC ⟨(sC rfl AllS.nil'), AllH.nil'⟩ (fC ⟨(sC rfl AllS.nil'), AllH.nil'⟩ (fC ⟨(sC rfl AllS.nil'), AllH.nil'⟩ (fC ⟨(sC rfl AllS.nil'), AllH.nil'⟩ (fC ⟨(sC rfl AllS.nil'), AllH.nil'⟩ (fC ⟨(sC rfl AllS.nil'), AllH.nil'⟩ (fC ⟨(sC rfl AllS.nil'), AllH.nil'⟩ (fC ⟨(sC rfl AllS.nil'), AllH.nil'⟩ (fC ⟨(sC rfl AllS.nil'), AllH.nil'⟩ (fC ⟨(sC rfl AllS.nil'), AllH.nil'⟩ (fC ⟨(sC rfl AllS.nil'), AllH.nil'⟩ (fC ⟨(sC rfl AllS.nil'), AllH.nil'⟩ (fC ⟨(sC rfl AllS.nil'), AllH.nil'⟩ (fC ⟨(sC rfl AllS.nil'), AllH.nil'⟩ (fC ⟨(sC rfl AllS.nil'), AllH.nil'⟩ (fC ⟨(sC rfl AllS.nil'), AllH.nil'⟩ (fC ⟨(sC rfl AllS.nil'), AllH.nil'⟩ (fC ⟨(sC rfl AllS.nil'), AllH.nil'⟩ (fC ⟨(sC rfl AllS.nil'), AllH.nil'⟩ (fC ⟨(sC rfl AllS.nil'), AllH.nil'⟩ (fC ⟨(sC rfl AllS.nil'), AllH.nil'⟩ (fC ⟨(sC rfl AllS.nil'), AllH.nil'⟩ (fC ⟨(sC rfl AllS.nil'), AllH.nil'⟩ (fC ⟨(sC rfl AllS.nil'), AllH.nil'⟩ (fC ⟨(sC rfl AllS.nil'), AllH.nil'⟩ AllF.nil'))))))))))))))))))))))))))))))))))))))))) ?_ ?_
       ·refine (pC ?_ (pC ?_ (pC ?_ (pC ?_ (pC ?_ (pC ?_ (pC ?_ (pC ?_ (pC ?_ (pC ?_ (pC ?_ (pC ?_ (pC ?_ (pC ?_ (pC ?_ (pC ?_ (pC ?_ (pC ?_ (pC ?_ (pC ?_ (pC ?_ (pC ?_ (pC ?_ (pC ?_ (pC ?_ (pC ?_ (pC ?_ (pC ?_ (pC ?_ (pC ?_ (pC ?_ (pC ?_ (pC ?_ (pC ?_ (pC ?_ (pC ?_ (pC ?_ (pC ?_ (pC ?_ (pC ?_ (pC ?_ AllStep.nil')))))))))))))))))))))))))))))))))))))))))
        ·intro K rest fr hv htk k
         show AWops _ x _ _ K ⟨91, (upd 91 fr 10 (sc (.bool r5.2))), _⟩
         refine s_move (d := (sc (.bool r5.2))) rfl k
        ·intro K rest fr hv htk k
         show AWops _ x _ _ K ⟨91, (upd 91 fr 12 (sc (.bool r6.2))), _⟩
         refine s_move (d := (sc (.bool r6.2))) rfl k
        ·intro K rest fr hv htk k
         show AWops _ x _ _ K ⟨91, (upd 91 (upd 91 fr 52 (sc (.bool r6.2))) 51 (sc (.bool r5.2))), _⟩
         refine s_binB (b := (r5.2 == r6.2)) F.u_4 rfl rfl (.inl ⟨rfl, rfl⟩) k
        ·intro K rest fr hv htk k
         show AWops _ x _ _ K ⟨91, (upd 91 fr 53 (sc (.bool (r5.2 == r6.2)))), _⟩
         refine s_move (d := (sc (.bool (r5.2 == r6.2)))) rfl k
        ·intro K rest fr hv htk k
         show AWops _ x _ _ K ⟨91, (upd 91 (upd 91 fr 54 (sc (.bool (r5.2 == r6.2)))) 9 (D.one (C.ref 2 0))), [(hv 0), (hv 1), (some (AObj.cells true (c_api_Inst r5.1))), (hv 3), (hv 4), (hv 5), (hv 6), (hv 7), (hv 8), (hv 9), (hv 10), (hv 11)]⟩
         refine AWops.guard_yes rfl (nl rfl) rfl c28 ?_
         refine s_loadN (ds := (c_api_Inst r5.1)) F.ag_30 F.sz_30 rfl rfl rfl k
        ·intro K rest fr hv htk k
         show AWops _ x _ _ K ⟨91, (upd 91 (upd 91 fr 54 (sc (.bool (r5.2 == r6.2)))) 11 (D.one (C.ref 3 0))), [(hv 0), (hv 1), (hv 2), (some (AObj.cells true (c_api_Inst r6.1))), (hv 4), (hv 5), (hv 6), (hv 7), (hv 8), (hv 9), (hv 10), (hv 11)]⟩
         refine AWops.guard_yes rfl (nl rfl) rfl c28 ?_
         refine s_loadN (ds := (c_api_Inst r6.1)) F.ag_30 F.sz_30 rfl rfl rfl k
        ·intro K rest fr hv htk k
         show AWops _ x _ _ K ⟨91, (upd 91 (upd 91 (upd 91 fr 56 (D.agg (c_api_Inst r6.1))) 55 (D.agg (c_api_Inst r5.1))) 54 (sc (.bool (r5.2 == r6.2)))), [(hv 0), (hv 1), (hv 2), (hv 3), (hv 4), (hv 5), (hv 6), (hv 7), (hv 8), (hv 9), (hv 10), (hv 11)]⟩
         refine AWops.guard_yes rfl (nl rfl) rfl c28 ?_
         refine s_call2 (ρ := []) (br := false) (H2 := [(hv 0), (hv 1), (hv 2), (hv 3), (hv 4), (hv 5), (hv 6), (hv 7), (hv 8), (hv 9), (hv 10), (hv 11)]) (d := (sc (.bool r29))) F.ca_13 rfl rfl (ac (LendT.aggL (ac .sc (ac .sc (ac .sc (ac .sc (ac .imm (ac .sc an))))))) (ac (LendT.aggL (ac .sc (ac .sc (ac .sc (ac .sc (ac .imm (ac .sc an))))))) an)) an (by decide) rfl (dossierref18_SameInst.meets _ r5.1 r6.1 r29 er29) (.inl rfl) rfl rfl k
        ·intro K rest fr hv htk k
         show AWops _ x _ _ K ⟨91, (upd 91 (upd 91 fr 57 (sc (.bool r29))) 54 (sc (.bool (r5.2 == r6.2)))), _⟩
         refine s_pick_yes (d := (sc (.bool r29))) rfl c28 rfl k
        ·intro K rest fr hv htk k
         show AWops _ x _ _ K ⟨91, (upd 91 fr 58 (sc (.bool r29))), _⟩
         refine s_move (d := (sc (.bool r29))) rfl k
        ·intro K rest fr hv htk k
         show AWops _ x _ _ K ⟨91, (upd 91 (upd 91 fr 59 (sc (.bool r29))) 13 (sc (.bool false))), _⟩
         refine AWops.guard_yes rfl (nl rfl) rfl c30 ?_
         refine s_move (d := (sc (.bool false))) rfl k
        ·intro K rest fr hv htk k
         show AWops _ x _ _ K ⟨91, (upd 91 (upd 91 fr 60 (sc (.bool false))) 59 (sc (.bool r29))), _⟩
         refine s_pick_yes (d := (sc (.bool false))) rfl c30 rfl k
        ·intro K rest fr hv htk k
         show AWops _ x _ _ K ⟨91, (upd 91 fr 61 (sc (.bool false))), _⟩
         refine s_move (d := (sc (.bool false))) rfl k
        ·intro K rest fr hv htk k
         show AWops _ x _ _ K ⟨91, (upd 91 fr 62 (sc (.bool false))), _⟩
         refine AWops.guard_no rfl (nl rfl) rfl rfl k
        ·intro K rest fr hv htk k
         show AWops _ x _ _ K ⟨91, (upd 91 fr 62 (sc (.bool false))), _⟩
         refine AWops.guard_no rfl (nl rfl) rfl rfl k
        ·intro K rest fr hv htk k
         show AWops _ x _ _ K ⟨91, (upd 91 fr 62 (sc (.bool false))), _⟩
         refine AWops.guard_no rfl (nl rfl) rfl rfl k
        ·intro K rest fr hv htk k
         show AWops _ x _ _ K ⟨91, (upd 91 fr 62 (sc (.bool false))), _⟩
         refine AWops.guard_no rfl (nl rfl) rfl rfl k
        ·intro K rest fr hv htk k
         show AWops _ x _ _ K ⟨91, (upd 91 fr 62 (sc (.bool false))), _⟩
         refine AWops.guard_no rfl (nl rfl) rfl rfl k
        ·intro K rest fr hv htk k
         show AWops _ x _ _ K ⟨91, (upd 91 fr 62 (sc (.bool false))), _⟩
         refine AWops.guard_no rfl (nl rfl) rfl rfl k
        ·intro K rest fr hv htk k
         show AWops _ x _ _ K ⟨91, (upd 91 fr 62 (sc (.bool false))), _⟩
         refine AWops.guard_no rfl (nl rfl) rfl rfl k
        ·intro K rest fr hv htk k
         show AWops _ x _ _ K ⟨91, (upd 91 fr 62 (sc (.bool false))), _⟩
         refine AWops.guard_no rfl (nl rfl) rfl rfl k
        ·intro K rest fr hv htk k
         show AWops _ x _ _ K ⟨91, (upd 91 fr 62 (sc (.bool false))), _⟩
         refine AWops.guard_no rfl (nl rfl) rfl rfl k
        ·intro K rest fr hv htk k
         show AWops _ x _ _ K ⟨91, (upd 91 fr 62 (sc (.bool false))), _⟩
         refine s_pick_no (d := (sc (.bool false))) rfl rfl rfl k
        ·intro K rest fr hv htk k
         show AWops _ x _ _ K ⟨91, (upd 91 fr 72 (sc (.bool false))), _⟩
         refine s_move (d := (sc (.bool false))) rfl k
        ·intro K rest fr hv htk k
         show AWops _ x _ _ K ⟨91, (upd 91 fr 73 (sc (.bool false))), _⟩
         refine AWops.guard_no rfl (nl rfl) rfl rfl k
        ·intro K rest fr hv htk k
         show AWops _ x _ _ K ⟨91, (upd 91 fr 73 (sc (.bool false))), _⟩
         refine AWops.guard_no rfl (nl rfl) rfl rfl k
        ·intro K rest fr hv htk k
         show AWops _ x _ _ K ⟨91, (upd 91 fr 73 (sc (.bool false))), _⟩
         refine AWops.guard_no rfl (nl rfl) rfl rfl k
        ·intro K rest fr hv htk k
         show AWops _ x _ _ K ⟨91, (upd 91 fr 73 (sc (.bool false))), _⟩
         refine AWops.guard_no rfl (nl rfl) rfl rfl k
        ·intro K rest fr hv htk k
         show AWops _ x _ _ K ⟨91, (upd 91 fr 73 (sc (.bool false))), _⟩
         refine AWops.guard_no rfl (nl rfl) rfl rfl k
        ·intro K rest fr hv htk k
         show AWops _ x _ _ K ⟨91, (upd 91 fr 73 (sc (.bool false))), _⟩
         refine AWops.guard_no rfl (nl rfl) rfl rfl k
        ·intro K rest fr hv htk k
         show AWops _ x _ _ K ⟨91, (upd 91 fr 73 (sc (.bool false))), _⟩
         refine AWops.guard_no rfl (nl rfl) rfl rfl k
        ·intro K rest fr hv htk k
         show AWops _ x _ _ K ⟨91, (upd 91 fr 73 (sc (.bool false))), _⟩
         refine s_pick_no (d := (sc (.bool false))) rfl rfl rfl k
        ·intro K rest fr hv htk k
         show AWops _ x _ _ K ⟨91, (upd 91 fr 81 (sc (.bool false))), _⟩
         refine s_move (d := (sc (.bool false))) rfl k
        ·intro K rest fr hv htk k
         show AWops _ x _ _ K ⟨91, (upd 91 fr 82 (sc (.bool false))), _⟩
         refine AWops.guard_no rfl (nl rfl) rfl rfl k
        ·intro K rest fr hv htk k
         show AWops _ x _ _ K ⟨91, (upd 91 fr 82 (sc (.bool false))), _⟩
         refine AWops.guard_no rfl (nl rfl) rfl rfl k
        ·intro K rest fr hv htk k
         show AWops _ x _ _ K ⟨91, (upd 91 fr 82 (sc (.bool false))), _⟩
         refine AWops.guard_no rfl (nl rfl) rfl rfl k
        ·intro K rest fr hv htk k
         show AWops _ x _ _ K ⟨91, (upd 91 fr 82 (sc (.bool false))), _⟩
         refine AWops.guard_no rfl (nl rfl) rfl rfl k
        ·intro K rest fr hv htk k
         show AWops _ x _ _ K ⟨91, (upd 91 fr 82 (sc (.bool false))), _⟩
         refine s_pick_no (d := (sc (.bool false))) rfl rfl rfl k
        ·intro K rest fr hv htk k
         show AWops _ x _ _ K ⟨91, (upd 91 fr 87 (sc (.bool false))), _⟩
         refine s_move (d := (sc (.bool false))) rfl k
        ·intro K rest fr hv htk k
         show AWops _ x _ _ K ⟨91, (upd 91 fr 88 (sc (.bool false))), _⟩
         refine AWops.guard_no rfl (nl rfl) rfl rfl k
        ·intro K rest fr hv htk k
         show AWops _ x _ _ K ⟨91, (upd 91 fr 88 (sc (.bool false))), _⟩
         refine s_pick_no (d := (sc (.bool false))) rfl rfl rfl k
        ·intro K rest fr hv htk k
         show AWops _ x _ _ K ⟨91, (upd 91 fr 90 (sc (.bool false))), _⟩
         refine s_assign (d := (sc (.bool false))) rfl k
       ·refine AWops.weak (st' := ⟨91, (upd 91 topF 8 (sc (.bool false))), []⟩) (Weak.gen (kk := 0) [] [] hx rfl (by decide) (by decide) rfl rfl rfl (le_upd (le_top _) (.t (.one .sc))) an) (AWops.nil (AW.ret ?_))
        obtain rfl := Option.some.inj h
        exact ⟨_, rfl, (Weak.gen (kk := 0) [] [] rfl rfl (by decide) (by decide) rfl rfl rfl (le_upd (le_top _) (.t (.one .sc))) an)⟩
      ·refine AW.draw (n := 91) (L := 12) [(0, ⟨some 51, (sc (.bool r5.2)), [(10, (sc (.bool r5.2)))], [], [], none⟩), (1, ⟨some 52, (sc (.bool r6.2)), [(12, (sc (.bool r6.2)))], [], [], none⟩), (2, ⟨some 53, (sc (.bool (r5.2 == r6.2))), [(51, (sc (.bool r5.2))), (52, (sc (.bool r6.2)))], [], [], none⟩), (3, ⟨some 54, (sc (.bool (r5.2 == r6.2))), [(53, (sc (.bool (r5.2 == r6.2))))], [], [], none⟩), (4, ⟨some 55, (D.agg (c_api_Inst r5.1)), [(9, (D.one (C.ref 2 0))), (54, (sc (.bool (r5.2 == r6.2))))], [(2, (some (AObj.cells true (c_api_Inst r5.1))))], [], none⟩), (5, ⟨some 56, (D.agg (c_api_Inst r6.1)), [(11, (D.one (C.ref 3 0))), (54, (sc (.bool (r5.2 == r6.2))))], [(3, (some (AObj.cells true (c_api_Inst r6.1))))], [], none⟩), (6, ⟨some 57, (sc (.bool r29)), [(54, (sc (.bool (r5.2 == r6.2)))), (55, (D.agg (c_api_Inst r5.1))), (56, (D.agg (c_api_Inst r6.1)))], [], [], none⟩), (7, ⟨some 58, (sc (.bool r29)), [(54, (sc (.bool (r5.2 == r6.2)))), (57, (sc (.bool r29)))], [], [], none⟩), (8, ⟨some 59, (sc (.bool r29)), [(58, (sc (.bool r29)))], [], [], none⟩), (9, ⟨some 60, (D.tup []), [(13, (sc (.bool false))), (59, (sc (.bool r29)))], [], [], none⟩), (10, ⟨some 61, (sc (.bool false)), [(59, (sc (.bool r29)))], [], [], none⟩), (11, ⟨some 62, (sc (.bool false)), [(61, (sc (.bool false)))], [], [], none⟩), (12, ⟨some 63, (D.tup []), [(62, (sc (.bool false)))], [], [], none⟩), (13, ⟨some 64, (D.tup []), [(62, (sc (.bool false)))], [], [], none⟩), (14, ⟨some 65, (D.tup []), [(62, (sc (.bool false)))], [], [], none⟩), (15, ⟨some 66, (D.tup []), [(62, (sc (.bool false)))], [], [], none⟩), (16, ⟨some 67, (D.tup []), [(62, (sc (.bool false)))], [], [], none⟩), (17, ⟨some 68, (D.tup []), [(62, (sc (.bool false)))], [], [], none⟩), (18, ⟨some 69, (D.tup []), [(62, (sc (.bool false)))], [], [], none⟩), (19, ⟨some 70, (D.tup []), [(62, (sc (.bool false)))], [], [], none⟩), (20, ⟨some 71, (D.tup []), [(62, (sc (.bool false)))], [], [], none⟩), (21, ⟨some 72, (sc (.bool false)), [(62, (sc (.bool false)))], [], [], none⟩), (22, ⟨some 73, (sc (.bool false)), [(72, (sc (.bool false)))], [], [], none⟩), (23, ⟨some 74, (D.tup []), [(73, (sc (.bool false)))], [], [], none⟩), (24, ⟨some 75, (D.tup []), [(73, (sc (.bool false)))], [], [], none⟩), (25, ⟨some 76, (D.tup []), [(73, (sc (.bool false)))], [], [], none⟩), (26, ⟨some 77, (D.tup []), [(73, (sc (.bool false)))], [], [], none⟩), (27, ⟨some 78, (D.tup []), [(73, (sc (.bool false)))], [], [], none⟩), (28, ⟨some 79, (D.tup []), [(73, (sc (.bool false)))], [], [], none⟩), (29, ⟨some 80, (D.tup []), [(73, (sc (.bool false)))], [], [], none⟩), (30, ⟨some 81, (sc (.bool false)), [(73, (sc (.bool false)))], [], [], none⟩), (31, ⟨some 82, (sc (.bool false)), [(81, (sc (.bool false)))], [], [], none⟩), (32, ⟨some 83, (D.tup []), [(82, (sc (.bool false)))], [], [], none⟩), (33, ⟨some 84, (D.tup []), [(82, (sc (.bool false)))], [], [], none⟩), (34, ⟨some 85, (D.tup []), [(82, (sc (.bool false)))], [], [], none⟩), (35, ⟨some 86, (D.tup []), [(82, (sc (.bool false)))], [], [], none⟩), (36, ⟨some 87, (sc (.bool false)), [(82, (sc (.bool false)))], [], [], none⟩), (37, ⟨some 88, (sc (.bool false)), [(87, (sc (.bool false)))], [], [], none⟩), (38, ⟨some 89, (D.tup []), [(88, (sc (.bool false)))], [], [], none⟩), (39, ⟨some 90, (sc (.bool false)), [(88, (sc (.bool false)))], [], [], none⟩), (40, ⟨some 8, (sc (.bool false)), [(90, (sc (.bool false)))], [], [], none⟩)] [[], [], [0, 1], [0, 1, 2], [0, 1, 2, 3], [0, 1, 2, 3], [0, 1, 2, 3, 4, 5], [0, 1, 2, 3, 4, 5, 6], [0, 1, 2, 3, 4, 5, 6, 7], [0, 1, 2, 3, 4, 5, 6, 7, 8], [0, 1, 2, 3, 4, 5, 6, 7, 8, 9], [0, 1, 2, 3, 4, 5, 6, 7, 8, 9, 10], [0, 1, 2, 3, 4, 5, 6, 7, 8, 9, 10, 11], [0, 1, 2, 3, 4, 5, 6, 7, 8, 9, 10, 11], [0, 1, 2, 3, 4, 5, 6, 7, 8, 9, 10, 11], [0, 1, 2, 3, 4, 5, 6, 7, 8, 9, 10, 11, 12, 13, 14], [0, 1, 2, 3, 4, 5, 6, 7, 8, 9, 10, 11], [0, 1, 2, 3, 4, 5, 6, 7, 8, 9, 10, 11], [0, 1, 2, 3, 4, 5, 6, 7, 8, 9, 10, 11], [0, 1, 2, 3, 4, 5, 6, 7, 8, 9, 10, 11, 12, 13, 14, 15, 16, 17, 18], [0, 1, 2, 3, 4, 5, 6, 7, 8, 9, 10, 11, 12, 13, 14, 15, 16, 17, 18, 19], [0, 1, 2, 3, 4, 5, 6, 7, 8, 9, 10, 11, 12, 13, 14, 15, 16, 17, 18, 19, 20], [0, 1, 2, 3, 4, 5, 6, 7, 8, 9, 10, 11, 12, 13, 14, 15, 16, 17, 18, 19, 20, 21], [0, 1, 2, 3, 4, 5, 6, 7, 8, 9, 10, 11, 12, 13, 14, 15, 16, 17, 18, 19, 20, 21, 22], [0, 1, 2, 3, 4, 5, 6, 7, 8, 9, 10, 11, 12, 13, 14, 15, 16, 17, 18, 19, 20, 21, 22], [0, 1, 2, 3, 4, 5, 6, 7, 8, 9, 10, 11, 12, 13, 14, 15, 16, 17, 18, 19, 20, 21, 22, 23, 24], [0, 1, 2, 3, 4, 5, 6, 7, 8, 9, 10, 11, 12, 13, 14, 15, 16, 17, 18, 19, 20, 21, 22], [0, 1, 2, 3, 4, 5, 6, 7, 8, 9, 10, 11, 12, 13, 14, 15, 16, 17, 18, 19, 20, 21, 22], [0, 1, 2, 3, 4, 5, 6, 7, 8, 9, 10, 11, 12, 13, 14, 15, 16, 17, 18, 19, 20, 21, 22, 23, 24, 25, 26, 27], [0, 1, 2, 3, 4, 5, 6, 7, 8, 9, 10, 11, 12, 13, 14, 15, 16, 17, 18, 19, 20, 21, 22, 23, 24, 25, 26, 27, 28], [0, 1, 2, 3, 4, 5, 6, 7, 8, 9, 10, 11, 12, 13, 14, 15, 16, 17, 18, 19, 20, 21, 22, 23, 24, 25, 26, 27, 28, 29], [0, 1, 2, 3, 4, 5, 6, 7, 8, 9, 10, 11, 12, 13, 14, 15, 16, 17, 18, 19, 20, 21, 22, 23, 24, 25, 26, 27, 28, 29, 30], [0, 1, 2, 3, 4, 5, 6, 7, 8, 9, 10, 11, 12, 13, 14, 15, 16, 17, 18, 19, 20, 21, 22, 23, 24, 25, 26, 27, 28, 29, 30, 31], [0, 1, 2, 3, 4, 5, 6, 7, 8, 9, 10, 11, 12, 13, 14, 15, 16, 17, 18, 19, 20, 21, 22, 23, 24, 25, 26, 27, 28, 29, 30, 31, 32], [0, 1, 2, 3, 4, 5, 6, 7, 8, 9, 10, 11, 12, 13, 14, 15, 16, 17, 18, 19, 20, 21, 22, 23, 24, 25, 26, 27, 28, 29, 30, 31], [0, 1, 2, 3, 4, 5, 6, 7, 8, 9, 10, 11, 12, 13, 14, 15, 16, 17, 18, 19, 20, 21, 22, 23, 24, 25, 26, 27, 28, 29, 30, 31, 32, 33, 34], [0, 1, 2, 3, 4, 5, 6, 7, 8, 9, 10, 11, 12, 13, 14, 15, 16, 17, 18, 19, 20, 21, 22, 23, 24, 25, 26, 27, 28, 29, 30, 31, 32, 33, 34, 35], [0, 1, 2, 3, 4, 5, 6, 7, 8, 9, 10, 11, 12, 13, 14, 15, 16, 17, 18, 19, 20, 21, 22, 23, 24, 25, 26, 27, 28, 29, 30, 31, 32, 33, 34, 35, 36], [0, 1, 2, 3, 4, 5, 6, 7, 8, 9, 10, 11, 12, 13, 14, 15, 16, 17, 18, 19, 20, 21, 22, 23, 24, 25, 26, 27, 28, 29, 30, 31, 32, 33, 34, 35, 36, 37], [0, 1, 2, 3, 4, 5, 6, 7, 8, 9, 10, 11, 12, 13, 14, 15, 16, 17, 18, 19, 20, 21, 22, 23, 24, 25, 26, 27, 28, 29, 30, 31, 32, 33, 34, 35, 36, 37, 38], [0, 1, 2, 3, 4, 5, 6, 7, 8, 9, 10, 11, 12, 13, 14, 15, 16, 17, 18, 19, 20, 21, 22, 23, 24, 25, 26, 27, 28, 29, 30, 31, 32, 33, 34, 35, 36, 37, 38, 39]] (nl rfl) [0, 0, 1, 2, 3, 3, 4, 5, 6, 7, 8, 9, 10, 10, 10, 11, 10, 10, 10, 12, 13, 14, 15, 16, 16, 17, 16, 16, 18, 19, 20, 21, 22, 23, 22, 24, 25, 26, 27, 28, 29] rfl (TK := []) rfl AllK.nil' (fC ⟨(sC rfl AllS.nil'), AllH.nil'⟩ (fC ⟨(sC rfl AllS.nil'), AllH.nil'⟩ (fC ⟨(sC rfl (sC rfl AllS.nil')), AllH.nil'⟩ (fC ⟨(sC rfl AllS.nil'), AllH.nil'⟩ (fC ⟨(sC rfl (sC rfl AllS.nil')), (hC rfl AllH.nil')⟩ (fC ⟨(sC rfl (sC rfl AllS.nil')), (hC rfl AllH.nil')⟩ (fC ⟨(sC rfl (sC rfl (sC rfl AllS.nil'))), AllH.nil'⟩ (fC ⟨(sC rfl (sC rfl AllS.nil')), AllH.nil'⟩ (fC ⟨(sC rfl AllS.nil'), AllH.nil'⟩ (fC ⟨(sC rfl (sC rfl AllS.nil')), AllH.nil'⟩ (fC ⟨(sC rfl AllS.nil'), AllH.nil'⟩ (fC ⟨(sC rfl AllS.nil'), AllH.nil'⟩ (fC ⟨(sC rfl AllS.nil'), AllH.nil'⟩ (fC ⟨(sC rfl AllS.nil'), AllH.nil'⟩ (fC ⟨(sC rfl AllS.nil'), AllH.nil'⟩ (fC ⟨(sC rfl AllS.nil'), AllH.nil'⟩ (fC ⟨(sC rfl AllS.nil'), AllH.nil'⟩ (fC ⟨(sC rfl AllS.nil'), AllH.nil'⟩ (fC ⟨(sC rfl AllS.nil'), AllH.nil'⟩ (fC ⟨(sC rfl AllS.nil'), AllH.nil'⟩ (fC ⟨(sC rfl AllS.nil'), AllH.nil'⟩ (fC ⟨(sC rfl AllS.nil'), AllH.nil'⟩ (fC ⟨(sC rfl AllS.nil'), AllH.nil'⟩ (fC ⟨(sC rfl AllS.nil'), AllH.nil'⟩ (fC ⟨(sC rfl AllS.nil'), AllH.nil'⟩ (fC ⟨(sC rfl AllS.nil'), AllH.nil'⟩ (fC ⟨(sC rfl AllS.nil'), AllH.nil'⟩ (fC ⟨(sC rfl AllS.nil'), AllH.nil'⟩ (fC ⟨(sC rfl AllS.nil'), AllH.nil'⟩ (fC ⟨(sC rfl AllS.nil'), AllH.nil'⟩ (fC ⟨(sC rfl AllS.nil'), AllH.nil'⟩ (fC ⟨(sC rfl AllS.nil'), AllH.nil'⟩ (fC ⟨(sC rfl AllS.nil'), AllH.nil'⟩ (fC ⟨(sC rfl AllS.nil'), AllH.nil'⟩ (fC ⟨(sC rfl AllS.nil'), AllH.nil'⟩ (fC ⟨(sC rfl AllS.nil'), AllH.nil'⟩ (fC ⟨(sC rfl AllS.nil'), AllH.nil'⟩ (fC ⟨(sC rfl AllS.nil'), AllH.nil'⟩ (fC ⟨(sC rfl AllS.nil'), AllH.nil'⟩ (fC ⟨(sC rfl AllS.nil'), AllH.nil'⟩ (fC ⟨(sC rfl AllS.nil'), AllH.nil'⟩ AllF.nil'))))))))))))))))))))))))))))))))))))))))) ?_ ?_
       ·refine (pC ?_ (pC ?_ (pC ?_ (pC ?_ (pC ?_ (pC ?_ (pC ?_ (pC ?_ (pC ?_ (pC ?_ (pC ?_ (pC ?_ (pC ?_ (pC ?_ (pC ?_ (pC ?_ (pC ?_ (pC ?_ (pC ?_ (pC ?_ (pC ?_ (pC ?_ (pC ?_ (pC ?_ (pC ?_ (pC ?_ (pC ?_ (pC ?_ (pC ?_ (pC ?_ (pC ?_ (pC ?_ (pC ?_ (pC ?_ (pC ?_ (pC ?_ (pC ?_ (pC ?_ (pC ?_ (pC ?_ (pC ?_ AllStep.nil')))))))))))))))))))))))))))))))))))))))))
        ·intro K rest fr hv htk k
         show AWops _ x _ _ K ⟨91, (upd 91 fr 10 (sc (.bool r5.2))), _⟩
         refine s_move (d := (sc (.bool r5.2))) rfl k
        ·intro K rest fr hv htk k
         show AWops _ x _ _ K ⟨91, (upd 91 fr 12 (sc (.bool r6.2))), _⟩
         refine s_move (d := (sc (.bool r6.2))) rfl k
        ·intro K rest fr hv htk k
         show AWops _ x _ _ K ⟨91, (upd 91 (upd 91 fr 52 (sc (.bool r6.2))) 51 (sc (.bool r5.2))), _⟩
         refine s_binB (b := (r5.2 == r6.2)) F.u_4 rfl rfl (.inl ⟨rfl, rfl⟩) k
        ·intro K rest fr hv htk k
         show AWops _ x _ _ K ⟨91, (upd 91 fr 53 (sc (.bool (r5.2 == r6.2)))), _⟩
         refine s_move (d := (sc (.bool (r5.2 == r6.2)))) rfl k
        ·intro K rest fr hv htk k
         show AWops _ x _ _ K ⟨91, (upd 91 (upd 91 fr 54 (sc (.bool (r5.2 == r6.2)))) 9 (D.one (C.ref 2 0))), [(hv 0), (hv 1), (some (AObj.cells true (c_api_Inst r5.1))), (hv 3), (hv 4), (hv 5), (hv 6), (hv 7), (hv 8), (hv 9), (hv 10), (hv 11)]⟩
         refine AWops.guard_yes rfl (nl rfl) rfl c28 ?_
         refine s_loadN (ds := (c_api_Inst r5.1)) F.ag_30 F.sz_30 rfl rfl rfl k
        ·intro K rest fr hv htk k
         show AWops _ x _ _ K ⟨91, (upd 91 (upd 91 fr 54 (sc (.bool (r5.2 == r6.2)))) 11 (D.one (C.ref 3 0))), [(hv 0), (hv 1), (hv 2), (some (AObj.cells true (c_api_Inst r6.1))), (hv 4), (hv 5), (hv 6), (hv 7), (hv 8), (hv 9), (hv 10), (hv 11)]⟩
         refine AWops.guard_yes rfl (nl rfl) rfl c28 ?_
         refine s_loadN (ds := (c_api_Inst r6.1)) F.ag_30 F.sz_30 rfl rfl rfl k
        ·intro K rest fr hv htk k
         show AWops _ x _ _ K ⟨91, (upd 91 (upd 91 (upd 91 fr 56 (D.agg (c_api_Inst r6.1))) 55 (D.agg (c_api_Inst r5.1))) 54 (sc (.bool (r5.2 == r6.2)))), [(hv 0), (hv 1), (hv 2), (hv 3), (hv 4), (hv 5), (hv 6), (hv 7), (hv 8), (hv 9), (hv 10), (hv 11)]⟩
         refine AWops.guard_yes rfl (nl rfl) rfl c28 ?_
         refine s_call2 (ρ := []) (br := false) (H2 := [(hv 0), (hv 1), (hv 2), (hv 3), (hv 4), (hv 5), (hv 6), (hv 7), (hv 8), (hv 9), (hv 10), (hv 11)]) (d := (sc (.bool r29))) F.ca_13 rfl rfl (ac (LendT.aggL (ac .sc (ac .sc (ac .sc (ac .sc (ac .imm (ac .sc an))))))) (ac (LendT.aggL (ac .sc (ac .sc (ac .sc (ac .sc (ac .imm (ac .sc an))))))) an)) an (by decide) rfl (dossierref18_SameInst.meets _ r5.1 r6.1 r29 er29) (.inl rfl) rfl rfl k
        ·intro K rest fr hv htk k
         show AWops _ x _ _ K ⟨91, (upd 91 (upd 91 fr 57 (sc (.bool r29))) 54 (sc (.bool (r5.2 == r6.2)))), _⟩
         refine s_pick_yes (d := (sc (.bool r29))) rfl c28 rfl k
        ·intro K rest fr hv htk k
         show AWops _ x _ _ K ⟨91, (upd 91 fr 58 (sc (.bool r29))), _⟩
         refine s_move (d := (sc (.bool r29))) rfl k
        ·intro K rest fr hv htk k
         show AWops _ x _ _ K ⟨91, (upd 91 (upd 91 fr 59 (sc (.bool r29))) 13 (sc (.bool false))), _⟩
         refine AWops.guard_no rfl (nl rfl) rfl c30 k
        ·intro K rest fr hv htk k
         show AWops _ x _ _ K ⟨91, (upd 91 fr 59 (sc (.bool r29))), _⟩
         refine s_pick_no (d := (sc (.bool false))) rfl c30 rfl k
        ·intro K rest fr hv htk k
         show AWops _ x _ _ K ⟨91, (upd 91 fr 61 (sc (.bool false))), _⟩
         refine s_move (d := (sc (.bool false))) rfl k
        ·intro K rest fr hv htk k
         show AWops _ x _ _ K ⟨91, (upd 91 fr 62 (sc (.bool false))), _⟩
         refine AWops.guard_no rfl (nl rfl) rfl rfl k
        ·intro K rest fr hv htk k
         show AWops _ x _ _ K ⟨91, (upd 91 fr 62 (sc (.bool false))), _⟩
         refine AWops.guard_no rfl (nl rfl) rfl rfl k
        ·intro K rest fr hv htk k
         show AWops _ x _ _ K ⟨91, (upd 91 fr 62 (sc (.bool false))), _⟩
         refine AWops.guard_no rfl (nl rfl) rfl rfl k
        ·intro K rest fr hv htk k
         show AWops _ x _ _ K ⟨91, (upd 91 fr 62 (sc (.bool false))), _⟩
         refine AWops.guard_no rfl (nl rfl) rfl rfl k
        ·intro K rest fr hv htk k
         show AWops _ x _ _ K ⟨91, (upd 91 fr 62 (sc (.bool false))), _⟩
         refine AWops.guard_no rfl (nl rfl) rfl rfl k
        ·intro K rest fr hv htk k
         show AWops _ x _ _ K ⟨91, (upd 91 fr 62 (sc (.bool false))), _⟩
         refine AWops.guard_no rfl (nl rfl) rfl rfl k
        ·intro K rest fr hv htk k
         show AWops _ x _ _ K ⟨91, (upd 91 fr 62 (sc (.bool false))), _⟩
         refine AWops.guard_no rfl (nl rfl) rfl rfl k
        ·intro K rest fr hv htk k
         show AWops _ x _ _ K ⟨91, (upd 91 fr 62 (sc (.bool false))), _⟩
         refine AWops.guard_no rfl (nl rfl) rfl rfl k
        ·intro K rest fr hv htk k
         show AWops _ x _ _ K ⟨91, (upd 91 fr 62 (sc (.bool false))), _⟩
         refine AWops.guard_no rfl (nl rfl) rfl rfl k
        ·intro K rest fr hv htk k
         show AWops _ x _ _ K ⟨91, (upd 91 fr 62 (sc (.bool false))), _⟩
         refine s_pick_no (d := (sc (.bool false))) rfl rfl rfl k
        ·intro K rest fr hv htk k
         show AWops _ x _ _ K ⟨91, (upd 91 fr 72 (sc (.bool false))), _⟩
         refine s_move (d := (sc (.bool false))) rfl k
        ·intro K rest fr hv htk k
         show AWops _ x _ _ K ⟨91, (upd 91 fr 73 (sc (.bool false))), _⟩
         refine AWops.guard_no rfl (nl rfl) rfl rfl k
        ·intro K rest fr hv htk k
         show AWops _ x _ _ K ⟨91, (upd 91 fr 73 (sc (.bool false))), _⟩
         refine AWops.guard_no rfl (nl rfl) rfl rfl k
        ·intro K rest fr hv htk k
         show AWops _ x _ _ K ⟨91, (upd 91 fr 73 (sc (.bool false))), _⟩
         refine AWops.guard_no rfl (nl rfl) rfl rfl k
        ·intro K rest fr hv htk k
         show AWops _ x _ _ K ⟨91, (upd 91 fr 73 (sc (.bool false))), _⟩
         refine AWops.guard_no rfl (nl rfl) rfl rfl k
        ·intro K rest fr hv htk k
         show AWops _ x _ _ K ⟨91, (upd 91 fr 73 (sc (.bool false))), _⟩
         refine AWops.guard_no rfl (nl rfl) rfl rfl k
        ·intro K rest fr hv htk k
         show AWops _ x _ _ K ⟨91, (upd 91 fr 73 (sc (.bool false))), _⟩
         refine AWops.guard_no rfl (nl rfl) rfl rfl k
        ·intro K rest fr hv htk k
         show AWops _ x _ _ K ⟨91, (upd 91 fr 73 (sc (.bool false))), _⟩
         refine AWops.guard_no rfl (nl rfl) rfl rfl k
        ·intro K rest fr hv htk k
         show AWops _ x _ _ K ⟨91, (upd 91 fr 73 (sc (.bool false))), _⟩
         refine s_pick_no (d := (sc (.bool false))) rfl rfl rfl k
        ·intro K rest fr hv htk k
         show AWops _ x _ _ K ⟨91, (upd 91 fr 81 (sc (.bool false))), _⟩
         refine s_move (d := (sc (.bool false))) rfl k
        ·intro K rest fr hv htk k
         show AWops _ x _ _ K ⟨91, (upd 91 fr 82 (sc (.bool false))), _⟩
         refine AWops.guard_no rfl (nl rfl) rfl rfl k
        ·intro K rest fr hv htk k
         show AWops _ x _ _ K ⟨91, (upd 91 fr 82 (sc (.bool false))), _⟩
         refine AWops.guard_no rfl (nl rfl) rfl rfl k
        ·intro K rest fr hv htk k
         show AWops _ x _ _ K ⟨91, (upd 91 fr 82 (sc (.bool false))), _⟩
         refine AWops.guard_no rfl (nl rfl) rfl rfl k
        ·intro K rest fr hv htk k
         show AWops _ x _ _ K ⟨91, (upd 91 fr 82 (sc (.bool false))), _⟩
         refine AWops.guard_no rfl (nl rfl) rfl rfl k
        ·intro K rest fr hv htk k
         show AWops _ x _ _ K ⟨91, (upd 91 fr 82 (sc (.bool false))), _⟩
         refine s_pick_no (d := (sc (.bool false))) rfl rfl rfl k
        ·intro K rest fr hv htk k
         show AWops _ x _ _ K ⟨91, (upd 91 fr 87 (sc (.bool false))), _⟩
         refine s_move (d := (sc (.bool false))) rfl k
        ·intro K rest fr hv htk k
         show AWops _ x _ _ K ⟨91, (upd 91 fr 88 (sc (.bool false))), _⟩
         refine AWops.guard_no rfl (nl rfl) rfl rfl k
        ·intro K rest fr hv htk k
         show AWops _ x _ _ K ⟨91, (upd 91 fr 88 (sc (.bool false))), _⟩
         refine s_pick_no (d := (sc (.bool false))) rfl rfl rfl k
        ·intro K rest fr hv htk k
         show AWops _ x _ _ K ⟨91, (upd 91 fr 90 (sc (.bool false))), _⟩
         refine s_assign (d := (sc (.bool false))) rfl k
       ·refine AWops.weak (st' := ⟨91, (upd 91 topF 8 (sc (.bool false))), []⟩) (Weak.gen (kk := 0) [] [] hx rfl (by decide) (by decide) rfl rfl rfl (le_upd (le_top _) (.t (.one .sc))) an) (AWops.nil (AW.ret ?_))
        obtain rfl := Option.some.inj h
        exact ⟨_, rfl, (Weak.gen (kk := 0) [] [] rfl rfl (by decide) (by decide) rfl rfl rfl (le_upd (le_top _) (.t (.one .sc))) an)⟩
     ·refine AW.draw (n := 91) (L := 12) [(0, ⟨some 51, (sc (.bool r5.2)), [(10, (sc (.bool r5.2)))], [], [], none⟩), (1, ⟨some 52, (sc (.bool r6.2)), [(12, (sc (.bool r6.2)))], [], [], none⟩), (2, ⟨some 53, (sc (.bool (r5.2 == r6.2))), [(51, (sc (.bool r5.2))), (52, (sc (.bool r6.2)))], [], [], none⟩), (3, ⟨some 54, (sc (.bool (r5.2 == r6.2))), [(53, (sc (.bool (r5.2 == r6.2))))], [], [], none⟩), (4, ⟨some 55, (D.tup []), [(9, (D.one (C.ref 2 0))), (54, (sc (.bool (r5.2 == r6.2))))], [(2, (some (AObj.cells true (c_api_Inst r5.1))))], [], none⟩), (5, ⟨some 56, (D.tup []), [(54, (sc (.bool (r5.2 == r6.2))))], [], [], none⟩), (6, ⟨some 57, (D.tup []), [(54, (sc (.bool (r5.2 == r6.2))))], [], [], none⟩), (7, ⟨some 58, (sc (.bool false)), [(54, (sc (.bool (r5.2 == r6.2))))], [], [], none⟩), (8, ⟨some 59, (sc (.bool false)), [(58, (sc (.bool false)))], [], [], none⟩), (9, ⟨some 60, (D.tup []), [(59, (sc (.bool false)))], [], [], none⟩), (10, ⟨some 61, (sc (.bool false)), [(59, (sc (.bool false)))], [], [], none⟩), (11, ⟨some 62, (sc (.bool false)), [(61, (sc (.bool false)))], [], [], none⟩), (12, ⟨some 63, (D.tup []), [(62, (sc (.bool false)))], [], [], none⟩), (13, ⟨some 64, (D.tup []), [(62, (sc (.bool false)))], [], [], none⟩), (14, ⟨some 65, (D.tup []), [(62, (sc (.bool false)))], [], [], none⟩), (15, ⟨some 66, (D.tup []), [(62, (sc (.bool false)))], [], [], none⟩), (16, ⟨some 67, (D.tup []), [(62, (sc (.bool false)))], [], [], none⟩), (17, ⟨some 68, (D.tup []), [(62, (sc (.bool false)))], [], [], none⟩), (18, ⟨some 69, (D.tup []), [(62, (sc (.bool false)))], [], [], none⟩), (19, ⟨some 70, (D.tup []), [(62, (sc (.bool false)))], [], [], none⟩), (20, ⟨some 71, (D.tup []), [(62, (sc (.bool false)))], [], [], none⟩), (21, ⟨some 72, (sc (.bool false)), [(62, (sc (.bool false)))], [], [], none⟩), (22, ⟨some 73, (sc (.bool false)), [(72, (sc (.bool false)))], [], [], none⟩), (23, ⟨some 74, (D.tup []), [(73, (sc (.bool false)))], [], [], none⟩), (24, ⟨some 75, (D.tup []), [(73, (sc (.bool false)))], [], [], none⟩), (25, ⟨some 76, (D.tup []), [(73, (sc (.bool false)))], [], [], none⟩), (26, ⟨some 77, (D.tup []), [(73, (sc (.bool false)))], [], [], none⟩), (27, ⟨some 78, (D.tup []), [(73, (sc (.bool false)))], [], [], none⟩), (28, ⟨some 79, (D.tup []), [(73, (sc (.bool false)))], [], [], none⟩), (29, ⟨some 80, (D.tup []), [(73, (sc (.bool false)))], [], [], none⟩), (30, ⟨some 81, (sc (.bool false)), [(73, (sc (.bool false)))], [], [], none⟩), (31, ⟨some 82, (sc (.bool false)), [(81, (sc (.bool false)))], [], [], none⟩), (32, ⟨some 83, (D.tup []), [(82, (sc (.bool false)))], [], [], none⟩), (33, ⟨some 84, (D.tup []), [(82, (sc (.bool false)))], [], [], none⟩), (34, ⟨some 85, (D.tup []), [(82, (sc (.bool false)))], [], [], none⟩), (35, ⟨some 86, (D.tup []), [(82, (sc (.bool false)))], [], [], none⟩), (36, ⟨some 87, (sc (.bool false)), [(82, (sc (.bool false)))], [], [], none⟩), (37, ⟨some 88, (sc (.bool false)), [(87, (sc (.bool false)))], [], [], none⟩), (38, ⟨some 89, (D.tup []), [(88, (sc (.bool false)))], [], [], none⟩), (39, ⟨some 90, (sc (.bool false)), [(88, (sc (.bool false)))], [], [], none⟩), (40, ⟨some 8, (sc (.bool false)), [(90, (sc (.bool false)))], [], [], none⟩)] [[], [], [0, 1], [0, 1, 2], [0, 1, 2, 3], [0, 1, 2, 3], [0, 1, 2, 3, 4, 5], [0, 1, 2, 3, 4, 5, 6], [0, 1, 2, 3, 4, 5, 6, 7], [0, 1, 2, 3, 4, 5, 6, 7, 8], [0, 1, 2, 3, 4, 5, 6, 7, 8, 9], [0, 1, 2, 3, 4, 5, 6, 7, 8, 9, 10], [0, 1, 2, 3, 4, 5, 6, 7, 8, 9, 10, 11], [0, 1, 2, 3, 4, 5, 6, 7, 8, 9, 10, 11], [0, 1, 2, 3, 4, 5, 6, 7, 8, 9, 10, 11], [0, 1, 2, 3, 4, 5, 6, 7, 8, 9, 10, 11, 12, 13, 14], [0, 1, 2, 3, 4, 5, 6, 7, 8, 9, 10, 11], [0, 1, 2, 3, 4, 5, 6, 7, 8, 9, 10, 11], [0, 1, 2, 3, 4, 5, 6, 7, 8, 9, 10, 11], [0, 1, 2, 3, 4, 5, 6, 7, 8, 9, 10, 11, 12, 13, 14, 15, 16, 17, 18], [0, 1, 2, 3, 4, 5, 6, 7, 8, 9, 10, 11, 12, 13, 14, 15, 16, 17, 18, 19], [0, 1, 2, 3, 4, 5, 6, 7, 8, 9, 10, 11, 12, 13, 14, 15, 16, 17, 18, 19, 20], [0, 1, 2, 3, 4, 5, 6, 7, 8, 9, 10, 11, 12, 13, 14, 15, 16, 17, 18, 19, 20, 21], [0, 1, 2, 3, 4, 5, 6, 7, 8, 9, 10, 11, 12, 13, 14, 15, 16, 17, 18, 19, 20, 21, 22], [0, 1, 2, 3, 4, 5, 6, 7, 8, 9, 10, 11, 12, 13, 14, 15, 16, 17, 18, 19, 20, 21, 22], [0, 1, 2, 3, 4, 5, 6, 7, 8, 9, 10, 11, 12, 13, 14, 15, 16, 17, 18, 19, 20, 21, 22, 23, 24], [0, 1, 2, 3, 4, 5, 6, 7, 8, 9, 10, 11, 12, 13, 14, 15, 16, 17, 18, 19, 20, 21, 22], [0, 1, 2, 3, 4, 5, 6, 7, 8, 9, 10, 11, 12, 13, 14, 15, 16, 17, 18, 19, 20, 21, 22], [0, 1, 2, 3, 4, 5, 6, 7, 8, 9, 10, 11, 12, 13, 14, 15, 16, 17, 18, 19, 20, 21, 22, 23, 24, 25, 26, 27], [0, 1, 2, 3, 4, 5, 6, 7, 8, 9, 10, 11, 12, 13, 14, 15, 16, 17, 18, 19, 20, 21, 22, 23, 24, 25, 26, 27, 28], [0, 1, 2, 3, 4, 5, 6, 7, 8, 9, 10, 11, 12, 13, 14, 15, 16, 17, 18, 19, 20, 21, 22, 23, 24, 25, 26, 27, 28, 29], [0, 1, 2, 3, 4, 5, 6, 7, 8, 9, 10, 11, 12, 13, 14, 15, 16, 17, 18, 19, 20, 21, 22, 23, 24, 25, 26, 27, 28, 29, 30], [0, 1, 2, 3, 4, 5, 6, 7, 8, 9, 10, 11, 12, 13, 14, 15, 16, 17, 18, 19, 20, 21, 22, 23, 24, 25, 26, 27, 28, 29, 30, 31], [0, 1, 2, 3, 4, 5, 6, 7, 8, 9, 10, 11, 12, 13, 14, 15, 16, 17, 18, 19, 20, 21, 22, 23, 24, 25, 26, 27, 28, 29, 30, 31, 32], [0, 1, 2, 3, 4, 5, 6, 7, 8, 9, 10, 11, 12, 13, 14, 15, 16, 17, 18, 19, 20, 21, 22, 23, 24, 25, 26, 27, 28, 29, 30, 31], [0, 1, 2, 3, 4, 5, 6, 7, 8, 9, 10, 11, 12, 13, 14, 15, 16, 17, 18, 19, 20, 21, 22, 23, 24, 25, 26, 27, 28, 29, 30, 31, 32, 33, 34], [0, 1, 2, 3, 4, 5, 6, 7, 8, 9, 10, 11, 12, 13, 14, 15, 16, 17, 18, 19, 20, 21, 22, 23, 24, 25, 26, 27, 28, 29, 30, 31, 32, 33, 34, 35], [0, 1, 2, 3, 4, 5, 6, 7, 8, 9, 10, 11, 12, 13, 14, 15, 16, 17, 18, 19, 20, 21, 22, 23, 24, 25, 26, 27, 28, 29, 30, 31, 32, 33, 34, 35, 36], [0, 1, 2, 3, 4, 5, 6, 7, 8, 9, 10, 11, 12, 13, 14, 15, 16, 17, 18, 19, 20, 21, 22, 23, 24, 25, 26, 27, 28, 29, 30, 31, 32, 33, 34, 35, 36, 37], [0, 1, 2, 3, 4, 5, 6, 7, 8, 9, 10, 11, 12, 13, 14, 15, 16, 17, 18, 19, 20, 21, 22, 23, 24, 25, 26, 27, 28, 29, 30, 31, 32, 33, 34, 35, 36, 37, 38], [0, 1, 2, 3, 4, 5, 6, 7, 8, 9, 10, 11, 12, 13, 14, 15, 16, 17, 18, 19, 20, 21, 22, 23, 24, 25, 26, 27, 28, 29, 30, 31, 32, 33, 34, 35, 36, 37, 38, 39]] (nl rfl) [0, 0, 1, 2, 3, 3, 4, 5, 6, 7, 8, 9, 10, 10, 10, 11, 10, 10, 10, 12, 13, 14, 15, 16, 16, 17, 16, 16, 18, 19, 20, 21, 22, 23, 22, 24, 25, 26, 27, 28, 29] rfl (TK := []) rfl AllK.nil' (fC ⟨(sC rfl AllS.nil'), AllH.nil'⟩ (fC ⟨(sC rfl AllS.nil'), AllH.nil'⟩ (fC ⟨(sC rfl (sC rfl AllS.nil')), AllH.nil'⟩ (fC ⟨(sC rfl AllS.nil'), AllH.nil'⟩ (fC ⟨(sC rfl (sC rfl AllS.nil')), (hC rfl AllH.nil')⟩ (fC ⟨(sC rfl AllS.nil'), AllH.nil'⟩ (fC ⟨(sC rfl AllS.nil'), AllH.nil'⟩ (fC ⟨(sC rfl AllS.nil'), AllH.nil'⟩ (fC ⟨(sC rfl AllS.nil'), AllH.nil'⟩ (fC ⟨(sC rfl AllS.nil'), AllH.nil'⟩ (fC ⟨(sC rfl AllS.nil'), AllH.nil'⟩ (fC ⟨(sC rfl AllS.nil'), AllH.nil'⟩ (fC ⟨(sC rfl AllS.nil'), AllH.nil'⟩ (fC ⟨(sC rfl AllS.nil'), AllH.nil'⟩ (fC ⟨(sC rfl AllS.nil'), AllH.nil'⟩ (fC ⟨(sC rfl AllS.nil'), AllH.nil'⟩ (fC ⟨(sC rfl AllS.nil'), AllH.nil'⟩ (fC ⟨(sC rfl AllS.nil'), AllH.nil'⟩ (fC ⟨(sC rfl AllS.nil'), AllH.nil'⟩ (fC ⟨(sC rfl AllS.nil'), AllH.nil'⟩ (fC ⟨(sC rfl AllS.nil'), AllH.nil'⟩ (fC ⟨(sC rfl AllS.nil'), AllH.nil'⟩ (fC ⟨(sC rfl AllS.nil'), AllH.nil'⟩ (fC ⟨(sC rfl AllS.nil'), AllH.nil'⟩ (fC ⟨(sC rfl AllS.nil'), AllH.nil'⟩ (fC ⟨(sC rfl AllS.nil'), AllH.nil'⟩ (fC ⟨(sC rfl AllS.nil'), AllH.nil'⟩ (fC ⟨(sC rfl AllS.nil'), AllH.nil'⟩ (fC ⟨(sC rfl AllS.nil'), AllH.nil'⟩ (fC ⟨(sC rfl AllS.nil'), AllH.nil'⟩ (fC ⟨(sC rfl AllS.nil'), AllH.nil'⟩ (fC ⟨(sC rfl AllS.nil'), AllH.nil'⟩ (fC ⟨(sC rfl AllS.nil'), AllH.nil'⟩ (fC ⟨(sC rfl AllS.nil'), AllH.nil'⟩ (fC ⟨(sC rfl AllS.nil'), AllH.nil'⟩ (fC ⟨(sC rfl AllS.nil'), AllH.nil'⟩ (fC ⟨(sC rfl AllS.nil'), AllH.nil'⟩ (fC ⟨(sC rfl AllS.nil'), AllH.nil'⟩ (fC ⟨(sC rfl AllS.nil'), AllH.nil'⟩ (fC ⟨(sC rfl AllS.nil'), AllH.nil'⟩ (fC ⟨(sC rfl AllS.nil'), AllH.nil'⟩ AllF.nil'))))))))))))))))))))))))))))))))))))))))) ?_ ?_
      ·refine (pC ?_ (pC ?_ (pC ?_ (pC ?_ (pC ?_ (pC ?_ (pC ?_ (pC ?_ (pC ?_ (pC ?_ (pC ?_ (pC ?_ (pC ?_ (pC ?_ (pC ?_ (pC ?_ (pC ?_ (pC ?_ (pC ?_ (pC ?_ (pC ?_ (pC ?_ (pC ?_ (pC ?_ (pC ?_ (pC ?_ (pC ?_ (pC ?_ (pC ?_ (pC ?_ (pC ?_ (pC ?_ (pC ?_ (pC ?_ (pC ?_ (pC ?_ (pC ?_ (pC ?_ (pC ?_ (pC ?_ (pC ?_ AllStep.nil')))))))))))))))))))))))))))))))))))))))))
       ·intro K rest fr hv htk k
        show AWops _ x _ _ K ⟨91, (upd 91 fr 10 (sc (.bool r5.2))), _⟩
        refine s_move (d := (sc (.bool r5.2))) rfl k
       ·intro K rest fr hv htk k
        show AWops _ x _ _ K ⟨91, (upd 91 fr 12 (sc (.bool r6.2))), _⟩
        refine s_move (d := (sc (.bool r6.2))) rfl k
       ·intro K rest fr hv htk k
        show AWops _ x _ _ K ⟨91, (upd 91 (upd 91 fr 52 (sc (.bool r6.2))) 51 (sc (.bool r5.2))), _⟩
        refine s_binB (b := (r5.2 == r6.2)) F.u_4 rfl rfl (.inl ⟨rfl, rfl⟩) k
       ·intro K rest fr hv htk k
        show AWops _ x _ _ K ⟨91, (upd 91 fr 53 (sc (.bool (r5.2 == r6.2)))), _⟩
        refine s_move (d := (sc (.bool (r5.2 == r6.2)))) rfl k
       ·intro K rest fr hv htk k
        show AWops _ x _ _ K ⟨91, (upd 91 (upd 91 fr 54 (sc (.bool (r5.2 == r6.2)))) 9 (D.one (C.ref 2 0))), [(hv 0), (hv 1), (some (AObj.cells true (c_api_Inst r5.1))), (hv 3), (hv 4), (hv 5), (hv 6), (hv 7), (hv 8), (hv 9), (hv 10), (hv 11)]⟩
        refine AWops.guard_no rfl (nl rfl) rfl c28 k
       ·intro K rest fr hv htk k
        show AWops _ x _ _ K ⟨91, (upd 91 fr 54 (sc (.bool (r5.2 == r6.2)))), _⟩
        refine AWops.guard_no rfl (nl rfl) rfl c28 k
       ·intro K rest fr hv htk k
        show AWops _ x _ _ K ⟨91, (upd 91 fr 54 (sc (.bool (r5.2 == r6.2)))), _⟩
        refine AWops.guard_no rfl (nl rfl) rfl c28 k
       ·intro K rest fr hv htk k
        show AWops _ x _ _ K ⟨91, (upd 91 fr 54 (sc (.bool (r5.2 == r6.2)))), _⟩
        refine s_pick_no (d := (sc (.bool false))) rfl c28 rfl k
       ·intro K rest fr hv htk k
        show AWops _ x _ _ K ⟨91, (upd 91 fr 58 (sc (.bool false))), _⟩
        refine s_move (d := (sc (.bool false))) rfl k
       ·intro K rest fr hv htk k
        show AWops _ x _ _ K ⟨91, (upd 91 fr 59 (sc (.bool false))), _⟩
        refine AWops.guard_no rfl (nl rfl) rfl rfl k
       ·intro K rest fr hv htk k
        show AWops _ x _ _ K ⟨91, (upd 91 fr 59 (sc (.bool false))), _⟩
        refine s_pick_no (d := (sc (.bool false))) rfl rfl rfl k
       ·intro K rest fr hv htk k
        show AWops _ x _ _ K ⟨91, (upd 91 fr 61 (sc (.bool false))), _⟩
        refine s_move (d := (sc (.bool false))) rfl k
       ·intro K rest fr hv htk k
        show AWops _ x _ _ K ⟨91, (upd 91 fr 62 (sc (.bool false))), _⟩
        refine AWops.guard_no rfl (nl rfl) rfl rfl k
       ·intro K rest fr hv htk k
        show AWops _ x _ _ K ⟨91, (upd 91 fr 62 (sc (.bool false))), _⟩
        refine AWops.guard_no rfl (nl rfl) rfl rfl k
       ·intro K rest fr hv htk k
        show AWops _ x _ _ K ⟨91, (upd 91 fr 62 (sc (.bool false))), _⟩
        refine AWops.guard_no rfl (nl rfl) rfl rfl k
       ·intro K rest fr hv htk k
        show AWops _ x _ _ K ⟨91, (upd 91 fr 62 (sc (.bool false))), _⟩
        refine AWops.guard_no rfl (nl rfl) rfl rfl k
       ·intro K rest fr hv htk k
        show AWops _ x _ _ K ⟨91, (upd 91 fr 62 (sc (.bool false))), _⟩
        refine AWops.guard_no rfl (nl rfl) rfl rfl k
       ·intro K rest fr hv htk k
        show AWops _ x _ _ K ⟨91, (upd 91 fr 62 (sc (.bool false))), _⟩
        refine AWops.guard_no rfl (nl rfl) rfl rfl k
       ·intro K rest fr hv htk k
        show AWops _ x _ _ K ⟨91, (upd 91 fr 62 (sc (.bool false))), _⟩
        refine AWops.guard_no rfl (nl rfl) rfl rfl k
       ·intro K rest fr hv htk k
        show AWops _ x _ _ K ⟨91, (upd 91 fr 62 (sc (.bool false))), _⟩
        refine AWops.guard_no rfl (nl rfl) rfl rfl k
       ·intro K rest fr hv htk k
        show AWops _ x _ _ K ⟨91, (upd 91 fr 62 (sc (.bool false))), _⟩
        refine AWops.guard_no rfl (nl rfl) rfl rfl k
       ·intro K rest fr hv htk k
        show AWops _ x _ _ K ⟨91, (upd 91 fr 62 (sc (.bool false))), _⟩
        refine s_pick_no (d := (sc (.bool false))) rfl rfl rfl k
       ·intro K rest fr hv htk k
        show AWops _ x _ _ K ⟨91, (upd 91 fr 72 (sc (.bool false))), _⟩
        refine s_move (d := (sc (.bool false))) rfl k
       ·intro K rest fr hv htk k
        show AWops _ x _ _ K ⟨91, (upd 91 fr 73 (sc (.bool false))), _⟩
        refine AWops.guard_no rfl (nl rfl) rfl rfl k
       ·intro K rest fr hv htk k
        show AWops _ x _ _ K ⟨91, (upd 91 fr 73 (sc (.bool false))), _⟩
        refine AWops.guard_no rfl (nl rfl) rfl rfl k
       ·intro K rest fr hv htk k
        show AWops _ x _ _ K ⟨91, (upd 91 fr 73 (sc (.bool false))), _⟩
        refine AWops.guard_no rfl (nl rfl) rfl rfl k
       ·intro K rest fr hv htk k
        show AWops _ x _ _ K ⟨91, (upd 91 fr 73 (sc (.bool false))), _⟩
        refine AWops.guard_no rfl (nl rfl) rfl rfl k
       ·intro K rest fr hv htk k
        show AWops _ x _ _ K ⟨91, (upd 91 fr 73 (sc (.bool false))), _⟩
        refine AWops.guard_no rfl (nl rfl) rfl rfl k
       ·intro K rest fr hv htk k
        show AWops _ x _ _ K ⟨91, (upd 91 fr 73 (sc (.bool false))), _⟩
        refine AWops.guard_no rfl (nl rfl) rfl rfl k
       ·intro K rest fr hv htk k
        show AWops _ x _ _ K ⟨91, (upd 91 fr 73 (sc (.bool false))), _⟩
        refine AWops.guard_no rfl (nl rfl) rfl rfl k
       ·intro K rest fr hv htk k
        show AWops _ x _ _ K ⟨91, (upd 91 fr 73 (sc (.bool false))), _⟩
        refine s_pick_no (d := (sc (.bool false))) rfl rfl rfl k
       ·intro K rest fr hv htk k
        show AWops _ x _ _ K ⟨91, (upd 91 fr 81 (sc (.bool false))), _⟩
        refine s_move (d := (sc (.bool false))) rfl k
       ·intro K rest fr hv htk k
        show AWops _ x _ _ K ⟨91, (upd 91 fr 82 (sc (.bool false))), _⟩
        refine AWops.guard_no rfl (nl rfl) rfl rfl k
       ·intro K rest fr hv htk k
        show AWops _ x _ _ K ⟨91, (upd 91 fr 82 (sc (.bool false))), _⟩
        refine AWops.guard_no rfl (nl rfl) rfl rfl k
       ·intro K rest fr hv htk k
        show AWops _ x _ _ K ⟨91, (upd 91 fr 82 (sc (.bool false))), _⟩
        refine AWops.guard_no rfl (nl rfl) rfl rfl k
       ·intro K rest fr hv htk k
        show AWops _ x _ _ K ⟨91, (upd 91 fr 82 (sc (.bool false))), _⟩
        refine AWops.guard_no rfl (nl rfl) rfl rfl k
       ·intro K rest fr hv htk k
        show AWops _ x _ _ K ⟨91, (upd 91 fr 82 (sc (.bool false))), _⟩
        refine s_pick_no (d := (sc (.bool false))) rfl rfl rfl k
       ·intro K rest fr hv htk k
        show AWops _ x _ _ K ⟨91, (upd 91 fr 87 (sc (.bool false))), _⟩
        refine s_move (d := (sc (.bool false))) rfl k
       ·intro K rest fr hv htk k
        show AWops _ x _ _ K ⟨91, (upd 91 fr 88 (sc (.bool false))), _⟩
        refine AWops.guard_no rfl (nl rfl) rfl rfl k
       ·intro K rest fr hv htk k
        show AWops _ x _ _ K ⟨91, (upd 91 fr 88 (sc (.bool false))), _⟩
        refine s_pick_no (d := (sc (.bool false))) rfl rfl rfl k
       ·intro K rest fr hv htk k
        show AWops _ x _ _ K ⟨91, (upd 91 fr 90 (sc (.bool false))), _⟩
        refine s_assign (d := (sc (.bool false))) rfl k
      ·refine AWops.weak (st' := ⟨91, (upd 91 topF 8 (sc (.bool false))), []⟩) (Weak.gen (kk := 0) [] [] hx rfl (by decide) (by decide) rfl rfl rfl (le_upd (le_top _) (.t (.one .sc))) an) (AWops.nil (AW.ret ?_))
       obtain rfl := Option.some.inj h
       exact ⟨_, rfl, (Weak.gen (kk := 0) [] [] rfl rfl (by decide) (by decide) rfl rfl rfl (le_upd (le_top _) (.t (.one .sc))) an)⟩
  ·refine AW.cond_yes rfl (by rw [c4] <;> rfl) (AW.seq (AW.region ?_))
   obtain ⟨r31, er31, h⟩ := bnd h
   refine s_call2 (ρ := []) (br := false) (H2 := [(some (AObj.cells true (c_api_Case a0))), (some (AObj.cells true (c_api_Case a1)))]) (d := (sc (.bool r31))) F.ca_5 rfl rfl an an (by decide) rfl (dossierlaw18_awake.meets _  r31 er31) (.inl rfl) rfl rfl ?_
   refine s_assign (d := (sc (.bool r31))) rfl (AWops.nil (AW.ret ?_))
   obtain rfl := Option.some.inj h
   exact ⟨_, rfl, (Weak.gen (kk := 0) [] [] rfl rfl (by decide) (by decide) rfl rfl rfl (le_upd (le_top _) (.t (.one .sc))) an)⟩
 ·iterate 3 refine AWops.guard_no rfl (nl rfl) rfl (by rw [c2] <;> rfl) ?_
  refine s_pick_yes (d := (sc (.bool true))) rfl (by rw [c2] <;> rfl) rfl (AWops.nil ?_)
  refine AW.cond_yes rfl rfl (AW.seq (AW.region ?_))
  obtain ⟨r32, er32, h⟩ := bnd h
  refine s_call2 (ρ := []) (br := false) (H2 := [(some (AObj.cells true (c_api_Case a0))), (some (AObj.cells true (c_api_Case a1)))]) (d := (sc (.bool r32))) F.ca_5 rfl rfl an an (by decide) rfl (dossierlaw18_awake.meets _  r32 er32) (.inl rfl) rfl rfl ?_
  refine s_assign (d := (sc (.bool r32))) rfl (AWops.nil (AW.ret ?_))
  obtain rfl := Option.some.inj h
  exact ⟨_, rfl, (Weak.gen (kk := 0) [] [] rfl rfl (by decide) (by decide) rfl rfl rfl (le_upd (le_top _) (.t (.one .sc))) an)⟩
end Go.Abs.GenG
