import Derived.Test.YtgeieafnnlmfdaaGenOe
set_option linter.unusedVariables false
set_option linter.unusedSimpArgs false
set_option maxRecDepth 100000
set_option maxHeartbeats 4000000
namespace Go.Abs.GenO
open Go.Abs Go.Proofs
def dossierlaw04_pair_same_22x.f (k : Nat) (p0 : dossierlaw04_pair) (p1 : journal_Journal) (p2 : vdisk_Disk) (p3 : dossierref03_Disk) : Option (Bool × dossierlaw04_pair × journal_Journal) := (dossierplain_Same.f k p2 p3).bind fun r1 => if r1 = true then (some (false, (⟨(), (), (), ()⟩ : dossierlaw04_pair), (⟨(), p1.snap, p1.l, p1.stopped⟩ : journal_Journal))) else (some (false, (⟨(), (), (), ()⟩ : dossierlaw04_pair), (⟨(), p1.snap, p1.l, p1.stopped⟩ : journal_Journal)))
theorem dossierlaw04_pair_same_22x.meets (k : Nat) (p0 : dossierlaw04_pair) (p1 : journal_Journal) (p2 : vdisk_Disk) (p3 : dossierref03_Disk) (r : Bool × dossierlaw04_pair × journal_Journal) (h : dossierlaw04_pair_same_22x.f k p0 p1 p2 p3 = some r) : Meets Try.prog 22 [(rf 0 0)] [(some (AObj.cells false [(C.ref 1 0), np, (C.ref 2 0), (C.ref 3 0)])), (o_journal_Journal_0 false (C.ref 2 0) p1), (o_vdisk_Disk_03 false (C.mp 4) np p2), (o_dossierref03_Disk_0 false (C.own 5 0 p3.L.length 3) p3), (om_ e_vdisk_file p2.files), (or_ e_dossierref03_File p3.L)] (sb r.1) [(some (AObj.cells false [(C.ref 1 0), np, (C.ref 2 0), (C.ref 3 0)])), (o_journal_Journal_0 false (C.ref 2 0) r.2.2), (o_vdisk_Disk_03 false (C.mp 4) np p2), (o_dossierref03_Disk_0 false (C.own 5 0 p3.L.length 3) p3), (om_ e_vdisk_file p2.files), (or_ e_dossierref03_File p3.L)] := by
 unfold dossierlaw04_pair_same_22x.f at h
 refine Meets.of_body (n := 76) Try.func22 rfl rfl (nl rfl) fun x hx => ?_
 replace hx : x.k = 6 := hx
 show AW _ x _ _ ⟨76, fr0 [(rf 0 0)], [(some (AObj.cells false [(C.ref 1 0), np, (C.ref 2 0), (C.ref 3 0)])), (o_journal_Journal_0 false (C.ref 2 0) p1), (o_vdisk_Disk_03 false (C.mp 4) np p2), (o_dossierref03_Disk_0 false (C.own 5 0 p3.L.length 3) p3), (om_ e_vdisk_file p2.files), (or_ e_dossierref03_File p3.L)]⟩
 refine AW.seq (AW.region ?_)
 refine s_assign (d := (sb false)) rfl (AWops.nil (AW.seq (AW.seq ?_)))
 refine AW.weak (st' := ⟨76, (upd 76 topF 0 (rf 0 0)), [(some (AObj.cells false [(C.ref 1 0), np, (C.ref 2 0), (C.ref 3 0)])), (o_journal_Journal_0 false (C.ref 2 0) p1), (o_vdisk_Disk_03 false (C.mp 4) np p2), (o_dossierref03_Disk_0 false (C.own 5 0 p3.L.length 3) p3), (om_ e_vdisk_file p2.files), (or_ e_dossierref03_File p3.L)]⟩) (wg 6 [0, 1, 2, 3, 4, 5] [] hx (le_upd (le_top _) (o1 (.ref rfl))) (ac (.cells id (ac (.ref rfl) (ac .sc (ac (.ref rfl) (ac (.ref rfl) an))))) (ac (.cells id (ac (.ref rfl) (ac .same (ac .same (ac .sc an))))) (ac (qs rfl) (ac (qo rfl) (ac .map (ac (.cells id (all2_row _)) an))))))) ?_
 obtain ⟨r1, er1, h⟩ := bnd h
 rcases itH h with ⟨c2, h⟩ | ⟨c2, h⟩
 ·refine AW.draw (n := 76) (L := 7) [(ft 0 3 (rf 0 0) [(0, (rf 0 0))]), (ft 1 4 (rf 0 0) [(3, (rf 0 0))]), (ft 2 5 (rf 0 2) [(4, (rf 0 0))]), (3, ⟨some 6, (rf 2 0), [(5, (rf 0 2))], [(0, (some (AObj.cells false [(C.ref 1 0), np, (C.ref 2 0), (C.ref 3 0)])))], [], none⟩), (ft 4 7 (rf 0 0) [(0, (rf 0 0))]), (ft 5 8 (rf 0 0) [(7, (rf 0 0))]), (ft 6 9 (rf 0 3) [(8, (rf 0 0))]), (7, ⟨some 10, (rf 3 0), [(9, (rf 0 3))], [(0, (some (AObj.cells false [(C.ref 1 0), np, (C.ref 2 0), (C.ref 3 0)])))], [], none⟩), (8, ⟨some 11, (sb r1), [(6, (rf 2 0)), (10, (rf 3 0))], [(2, (o_vdisk_Disk_03 false (C.mp 4) np p2)), (3, (o_dossierref03_Disk_0 false (C.own 5 0 p3.L.length 3) p3)), (4, (om_ e_vdisk_file p2.files)), (5, (or_ e_dossierref03_File p3.L))], [], none⟩), (ft 9 12 (sb (!r1)) [(11, (sb r1))]), (ft 10 13 (sb (!r1)) [(12, (sb (!r1)))]), (ft 11 14 (rf 0 0) [(0, (rf 0 0)), (13, (sb (!r1)))]), (ft 12 15 (rf 0 0) [(13, (sb (!r1))), (14, (rf 0 0))]), (ft 13 16 (rf 0 0) [(13, (sb (!r1))), (15, (rf 0 0))]), (14, ⟨some 17, (rf 1 0), [(13, (sb (!r1))), (16, (rf 0 0))], [(0, (some (AObj.cells false [(C.ref 1 0), np, (C.ref 2 0), (C.ref 3 0)])))], [], none⟩), (ft 15 18 (sb false) [(13, (sb (!r1))), (17, (rf 1 0))]), (ft 16 19 (rf 0 0) [(0, (rf 0 0)), (13, (sb (!r1)))]), (ft 17 20 (rf 0 0) [(13, (sb (!r1))), (19, (rf 0 0))]), (ft 18 21 (rf 0 1) [(13, (sb (!r1))), (20, (rf 0 0))]), (19, ⟨some 22, (sc (.pointer none)), [(13, (sb (!r1))), (21, (rf 0 1))], [(0, (some (AObj.cells false [(C.ref 1 0), np, (C.ref 2 0), (C.ref 3 0)])))], [], none⟩), (ft 20 23 (sb true) [(13, (sb (!r1))), (22, (sc (.pointer none)))]), (ft 21 24 (sb true) [(13, (sb (!r1))), (18, (sb false)), (23, (sb true))]), (ft 22 25 (sb true) [(13, (sb (!r1))), (24, (sb true))])] [[], [0], [0, 1], [0, 1, 2], [], [4], [4, 5], [4, 5, 6], (.range 8), (.range 9), (.range 10), (.range 11), (.range 12), (.range 13), (.range 14), (.range 15), (.range 11), (.range 11 ++ [16]), (.range 11 ++ [16, 17]), (.range 11 ++ [16, 17, 18]), (.range 11 ++ [16, 17, 18, 19]), (.range 21), (.range 22)] (nl rfl) [0, 1, 2, 3, 0, 1, 2, 3, 4, 5, 6, 7, 8, 9, 10, 11, 7, 8, 9, 10, 11, 12, 13] rfl (TK := []) rfl AllK.nil' (by repeat (first | refine fC ⟨?_, ?_⟩ ?_ | refine sC rfl ?_ | refine hC rfl ?_ | trivial)) ?_ ?_
  ·refine y8 ?_ ?_ ?_ ?_ ?_ ?_ ?_ ?_ (y8 ?_ ?_ ?_ ?_ ?_ ?_ ?_ ?_ (y4 ?_ ?_ ?_ ?_ (y2 ?_ ?_ (pC ?_ yN))))
   ·intro K _ f w u k
    show Wp K ⟨76, (upd 76 f 0 (rf 0 0)), _⟩
    refine s_move (d := (rf 0 0)) rfl k
   ·intro K _ f w u k
    show Wp K ⟨76, (upd 76 f 3 (rf 0 0)), [_, _, _, _, _, _, _]⟩
    refine s_nilCheck (d := (rf 0 0)) rfl (.inl ⟨_, _, rfl⟩) k
   ·intro K _ f w u k
    show Wp K ⟨76, (upd 76 f 4 (rf 0 0)), [_, _, _, _, _, _, _]⟩
    refine s_fieldRef F.fo_57_2 (by decide) rfl k
   ·intro K _ f w u k
    show Wp K ⟨76, (upd 76 f 5 (rf 0 2)), [(some (AObj.cells false [(C.ref 1 0), np, (C.ref 2 0), (C.ref 3 0)])), _, _, _, _, _, _]⟩
    refine s_load1 (c' := (C.ref 2 0)) F.ag_24 rfl rfl k
   ·intro K _ f w u k
    show Wp K ⟨76, (upd 76 f 0 (rf 0 0)), _⟩
    refine s_move (d := (rf 0 0)) rfl k
   ·intro K _ f w u k
    show Wp K ⟨76, (upd 76 f 7 (rf 0 0)), [_, _, _, _, _, _, _]⟩
    refine s_nilCheck (d := (rf 0 0)) rfl (.inl ⟨_, _, rfl⟩) k
   ·intro K _ f w u k
    show Wp K ⟨76, (upd 76 f 8 (rf 0 0)), [_, _, _, _, _, _, _]⟩
    refine s_fieldRef F.fo_57_3 (by decide) rfl k
   ·intro K _ f w u k
    show Wp K ⟨76, (upd 76 f 9 (rf 0 3)), [(some (AObj.cells false [(C.ref 1 0), np, (C.ref 2 0), (C.ref 3 0)])), _, _, _, _, _, _]⟩
    refine s_load1 (c' := (C.ref 3 0)) F.ag_51 rfl rfl k
   ·intro K _ f w u k
    show Wp K ⟨76, (upd 76 (upd 76 f 10 (rf 3 0)) 6 (rf 2 0)), [_, _, (o_vdisk_Disk_03 false (C.mp 4) np p2), (o_dossierref03_Disk_0 false (C.own 5 0 p3.L.length 3) p3), (om_ e_vdisk_file p2.files), (or_ e_dossierref03_File p3.L), _]⟩
    refine cc [2, 3, 4, 5] [(w 0), (w 1), (o_vdisk_Disk_03 false (C.mp 4) np p2), (o_dossierref03_Disk_0 false (C.own 5 0 p3.L.length 3) p3), (om_ e_vdisk_file p2.files), (or_ e_dossierref03_File p3.L), (w 6)] (sb r1) F.ca_52 rfl rfl (ac (.one (.ref rfl)) (ac (.one (.ref rfl)) an)) (ac (.cells (ac (.mp rfl) (ac .sc (ac .sc (ac .sc (ac .sc an)))))) (ac (.cells (ac (.own rfl) (ac .sc (ac .sc (ac .sc an))))) (ac .map (ac (.cells (lend_row _)) an)))) (dossierplain_Same.meets _ p2 p3 r1 er1) k
   ·intro K _ f w u k
    show Wp K ⟨76, (upd 76 f 11 (sb r1)), [_, _, _, _, _, _, _]⟩
    refine s_not rfl k
   ·intro K _ f w u k
    show Wp K ⟨76, (upd 76 f 12 (sb (!r1))), _⟩
    refine s_move (d := (sb (!r1))) rfl k
   ·intro K _ f w u k
    show Wp K ⟨76, (upd 76 (upd 76 f 13 (sb (!r1))) 0 (rf 0 0)), _⟩
    refine AWops.guard_yes rfl (nl rfl) rfl (by rw [c2] <;> rfl) ?_
    refine s_move (d := (rf 0 0)) rfl k
   ·intro K _ f w u k
    show Wp K ⟨76, (upd 76 (upd 76 f 14 (rf 0 0)) 13 (sb (!r1))), [_, _, _, _, _, _, _]⟩
    refine AWops.guard_yes rfl (nl rfl) rfl (by rw [c2] <;> rfl) ?_
    refine s_nilCheck (d := (rf 0 0)) rfl (.inl ⟨_, _, rfl⟩) k
   ·intro K _ f w u k
    show Wp K ⟨76, (upd 76 (upd 76 f 15 (rf 0 0)) 13 (sb (!r1))), [_, _, _, _, _, _, _]⟩
    refine AWops.guard_yes rfl (nl rfl) rfl (by rw [c2] <;> rfl) ?_
    refine s_fieldRef F.fo_57_0 (by decide) rfl k
   ·intro K _ f w u k
    show Wp K ⟨76, (upd 76 (upd 76 f 16 (rf 0 0)) 13 (sb (!r1))), [(some (AObj.cells false [(C.ref 1 0), np, (C.ref 2 0), (C.ref 3 0)])), _, _, _, _, _, _]⟩
    refine AWops.guard_yes rfl (nl rfl) rfl (by rw [c2] <;> rfl) ?_
    refine s_load1 (c' := (C.ref 1 0)) F.ag_23 rfl rfl k
   ·intro K _ f w u k
    show Wp K ⟨76, (upd 76 (upd 76 f 17 (rf 1 0)) 13 (sb (!r1))), [_, _, _, _, _, _, _]⟩
    refine AWops.guard_yes rfl (nl rfl) rfl (by rw [c2] <;> rfl) ?_
    refine s_ptrNil (b := false) F.u_23 rfl (.inl ⟨⟨_, _, rfl⟩, rfl⟩) (.inl rfl) k
   ·intro K _ f w u k
    show Wp K ⟨76, (upd 76 (upd 76 f 13 (sb (!r1))) 0 (rf 0 0)), _⟩
    refine AWops.guard_yes rfl (nl rfl) rfl (by rw [c2] <;> rfl) ?_
    refine s_move (d := (rf 0 0)) rfl k
   ·intro K _ f w u k
    show Wp K ⟨76, (upd 76 (upd 76 f 19 (rf 0 0)) 13 (sb (!r1))), [_, _, _, _, _, _, _]⟩
    refine AWops.guard_yes rfl (nl rfl) rfl (by rw [c2] <;> rfl) ?_
    refine s_nilCheck (d := (rf 0 0)) rfl (.inl ⟨_, _, rfl⟩) k
   ·intro K _ f w u k
    show Wp K ⟨76, (upd 76 (upd 76 f 20 (rf 0 0)) 13 (sb (!r1))), [_, _, _, _, _, _, _]⟩
    refine AWops.guard_yes rfl (nl rfl) rfl (by rw [c2] <;> rfl) ?_
    refine s_fieldRef F.fo_57_1 (by decide) rfl k
   ·intro K _ f w u k
    show Wp K ⟨76, (upd 76 (upd 76 f 21 (rf 0 1)) 13 (sb (!r1))), [(some (AObj.cells false [(C.ref 1 0), np, (C.ref 2 0), (C.ref 3 0)])), _, _, _, _, _, _]⟩
    refine AWops.guard_yes rfl (nl rfl) rfl (by rw [c2] <;> rfl) ?_
    refine s_load1 (c' := np) F.ag_55 rfl rfl k
   ·intro K _ f w u k
    show Wp K ⟨76, (upd 76 (upd 76 f 22 (sc (.pointer none))) 13 (sb (!r1))), [_, _, _, _, _, _, _]⟩
    refine AWops.guard_yes rfl (nl rfl) rfl (by rw [c2] <;> rfl) ?_
    refine s_ptrNil (b := true) F.u_55 rfl (.inr ⟨⟨_, rfl⟩, rfl⟩) (.inl rfl) k
   ·intro K _ f w u k
    show Wp K ⟨76, (upd 76 (upd 76 (upd 76 f 23 (sb true)) 18 (sb false)) 13 (sb (!r1))), _⟩
    refine AWops.guard_yes rfl (nl rfl) rfl (by rw [c2] <;> rfl) ?_
    refine s_binB (b := true) F.u_4 rfl rfl (.inr ⟨rfl, rfl⟩) k
   ·intro K _ f w u k
    show Wp K ⟨76, (upd 76 (upd 76 f 24 (sb true)) 13 (sb (!r1))), _⟩
    refine s_pick_no (d := (sb true)) rfl (by rw [c2] <;> rfl) rfl k
  ·refine AWops.weak (st' := ⟨76, (upd 76 (upd 76 topF 0 (rf 0 0)) 25 (sb true)), [(some (AObj.cells false [(C.ref 1 0), np, (C.ref 2 0), (C.ref 3 0)])), (o_journal_Journal_0 false (C.ref 2 0) p1), (o_vdisk_Disk_03 false (C.mp 4) np p2), (o_dossierref03_Disk_0 false (C.own 5 0 p3.L.length 3) p3), (om_ e_vdisk_file p2.files), (or_ e_dossierref03_File p3.L)]⟩) (wg 6 [0, 1, 2, 3, 4, 5] [] hx (le_upd (le_upd (le_top _) (o1 (.ref rfl))) (o1 .sc)) (ac (.cells id (ac (.ref rfl) (ac .sc (ac (.ref rfl) (ac (.ref rfl) an))))) (ac (.cells id (ac (.ref rfl) (ac .same (ac .same (ac .sc an))))) (ac (qs rfl) (ac (qo rfl) (ac .map (ac (.cells id (all2_row _)) an))))))) (AWops.nil ?_)
   refine AW.cond_yes rfl rfl (AW.seq (AW.region ?_))
   refine s_assign (d := (sb false)) rfl (AWops.nil (AW.ret ?_))
   obtain rfl := Option.some.inj h
   exact ⟨_, rfl, (wg 6 [0, 1, 2, 3, 4, 5] [] rfl (le_upd (le_top _) (o1 .sc)) (ac (.cells id (ac (.ref rfl) (ac .sc (ac (.ref rfl) (ac (.ref rfl) an))))) (ac (.cells id (ac (.ref rfl) (ac .same (ac .same (ac .sc an))))) (ac (qs rfl) (ac (qo rfl) (ac .map (ac (.cells id (all2_row _)) an)))))))⟩
 ·refine AW.draw (n := 76) (L := 7) [(ft 0 3 (rf 0 0) [(0, (rf 0 0))]), (ft 1 4 (rf 0 0) [(3, (rf 0 0))]), (ft 2 5 (rf 0 2) [(4, (rf 0 0))]), (3, ⟨some 6, (rf 2 0), [(5, (rf 0 2))], [(0, (some (AObj.cells false [(C.ref 1 0), np, (C.ref 2 0), (C.ref 3 0)])))], [], none⟩), (ft 4 7 (rf 0 0) [(0, (rf 0 0))]), (ft 5 8 (rf 0 0) [(7, (rf 0 0))]), (ft 6 9 (rf 0 3) [(8, (rf 0 0))]), (7, ⟨some 10, (rf 3 0), [(9, (rf 0 3))], [(0, (some (AObj.cells false [(C.ref 1 0), np, (C.ref 2 0), (C.ref 3 0)])))], [], none⟩), (8, ⟨some 11, (sb r1), [(6, (rf 2 0)), (10, (rf 3 0))], [(2, (o_vdisk_Disk_03 false (C.mp 4) np p2)), (3, (o_dossierref03_Disk_0 false (C.own 5 0 p3.L.length 3) p3)), (4, (om_ e_vdisk_file p2.files)), (5, (or_ e_dossierref03_File p3.L))], [], none⟩), (ft 9 12 (sb (!r1)) [(11, (sb r1))]), (ft 10 13 (sb (!r1)) [(12, (sb (!r1)))]), (ft 11 14 (D.tup []) [(0, (rf 0 0)), (13, (sb (!r1)))]), (ft 12 15 (D.tup []) [(13, (sb (!r1)))]), (ft 13 16 (D.tup []) [(13, (sb (!r1)))]), (ft 14 17 (D.tup []) [(13, (sb (!r1)))]), (ft 15 18 (D.tup []) [(13, (sb (!r1)))]), (ft 16 19 (D.tup []) [(13, (sb (!r1)))]), (ft 17 20 (D.tup []) [(13, (sb (!r1)))]), (ft 18 21 (D.tup []) [(13, (sb (!r1)))]), (ft 19 22 (D.tup []) [(13, (sb (!r1)))]), (ft 20 23 (D.tup []) [(13, (sb (!r1)))]), (ft 21 24 (D.tup []) [(13, (sb (!r1)))]), (ft 22 25 (sb true) [(13, (sb (!r1)))])] [[], [0], [0, 1], [0, 1, 2], [], [4], [4, 5], [4, 5, 6], (.range 8), (.range 9), (.range 10), (.range 11), (.range 12), (.range 13), (.range 14), (.range 15), (.range 11), (.range 11 ++ [16]), (.range 11 ++ [16, 17]), (.range 11 ++ [16, 17, 18]), (.range 11 ++ [16, 17, 18, 19]), (.range 21), (.range 22)] (nl rfl) [0, 1, 2, 3, 0, 1, 2, 3, 4, 5, 6, 7, 8, 9, 10, 11, 7, 8, 9, 10, 11, 12, 13] rfl (TK := []) rfl AllK.nil' (by repeat (first | refine fC ⟨?_, ?_⟩ ?_ | refine sC rfl ?_ | refine hC rfl ?_ | trivial)) ?_ ?_
  ·refine y8 ?_ ?_ ?_ ?_ ?_ ?_ ?_ ?_ (y8 ?_ ?_ ?_ ?_ ?_ ?_ ?_ ?_ (y4 ?_ ?_ ?_ ?_ (y2 ?_ ?_ (pC ?_ yN))))
   ·intro K _ f w u k
    show Wp K ⟨76, (upd 76 f 0 (rf 0 0)), _⟩
    refine s_move (d := (rf 0 0)) rfl k
   ·intro K _ f w u k
    show Wp K ⟨76, (upd 76 f 3 (rf 0 0)), [_, _, _, _, _, _, _]⟩
    refine s_nilCheck (d := (rf 0 0)) rfl (.inl ⟨_, _, rfl⟩) k
   ·intro K _ f w u k
    show Wp K ⟨76, (upd 76 f 4 (rf 0 0)), [_, _, _, _, _, _, _]⟩
    refine s_fieldRef F.fo_57_2 (by decide) rfl k
   ·intro K _ f w u k
    show Wp K ⟨76, (upd 76 f 5 (rf 0 2)), [(some (AObj.cells false [(C.ref 1 0), np, (C.ref 2 0), (C.ref 3 0)])), _, _, _, _, _, _]⟩
    refine s_load1 (c' := (C.ref 2 0)) F.ag_24 rfl rfl k
   ·intro K _ f w u k
    show Wp K ⟨76, (upd 76 f 0 (rf 0 0)), _⟩
    refine s_move (d := (rf 0 0)) rfl k
   ·intro K _ f w u k
    show Wp K ⟨76, (upd 76 f 7 (rf 0 0)), [_, _, _, _, _, _, _]⟩
    refine s_nilCheck (d := (rf 0 0)) rfl (.inl ⟨_, _, rfl⟩) k
   ·intro K _ f w u k
    show Wp K ⟨76, (upd 76 f 8 (rf 0 0)), [_, _, _, _, _, _, _]⟩
    refine s_fieldRef F.fo_57_3 (by decide) rfl k
   ·intro K _ f w u k
    show Wp K ⟨76, (upd 76 f 9 (rf 0 3)), [(some (AObj.cells false [(C.ref 1 0), np, (C.ref 2 0), (C.ref 3 0)])), _, _, _, _, _, _]⟩
    refine s_load1 (c' := (C.ref 3 0)) F.ag_51 rfl rfl k
   ·intro K _ f w u k
    show Wp K ⟨76, (upd 76 (upd 76 f 10 (rf 3 0)) 6 (rf 2 0)), [_, _, (o_vdisk_Disk_03 false (C.mp 4) np p2), (o_dossierref03_Disk_0 false (C.own 5 0 p3.L.length 3) p3), (om_ e_vdisk_file p2.files), (or_ e_dossierref03_File p3.L), _]⟩
    refine cc [2, 3, 4, 5] [(w 0), (w 1), (o_vdisk_Disk_03 false (C.mp 4) np p2), (o_dossierref03_Disk_0 false (C.own 5 0 p3.L.length 3) p3), (om_ e_vdisk_file p2.files), (or_ e_dossierref03_File p3.L), (w 6)] (sb r1) F.ca_52 rfl rfl (ac (.one (.ref rfl)) (ac (.one (.ref rfl)) an)) (ac (.cells (ac (.mp rfl) (ac .sc (ac .sc (ac .sc (ac .sc an)))))) (ac (.cells (ac (.own rfl) (ac .sc (ac .sc (ac .sc an))))) (ac .map (ac (.cells (lend_row _)) an)))) (dossierplain_Same.meets _ p2 p3 r1 er1) k
   ·intro K _ f w u k
    show Wp K ⟨76, (upd 76 f 11 (sb r1)), [_, _, _, _, _, _, _]⟩
    refine s_not rfl k
   ·intro K _ f w u k
    show Wp K ⟨76, (upd 76 f 12 (sb (!r1))), _⟩
    refine s_move (d := (sb (!r1))) rfl k
   ·intro K _ f w u k
    show Wp K ⟨76, (upd 76 (upd 76 f 13 (sb (!r1))) 0 (rf 0 0)), _⟩
    refine AWops.guard_no rfl (nl rfl) rfl (by rw [c2] <;> rfl) k
   ·intro K _ f w u k
    show Wp K ⟨76, (upd 76 f 13 (sb (!r1))), _⟩
    refine AWops.guard_no rfl (nl rfl) rfl (by rw [c2] <;> rfl) k
   ·intro K _ f w u k
    show Wp K ⟨76, (upd 76 f 13 (sb (!r1))), _⟩
    refine AWops.guard_no rfl (nl rfl) rfl (by rw [c2] <;> rfl) k
   ·intro K _ f w u k
    show Wp K ⟨76, (upd 76 f 13 (sb (!r1))), _⟩
    refine AWops.guard_no rfl (nl rfl) rfl (by rw [c2] <;> rfl) k
   ·intro K _ f w u k
    show Wp K ⟨76, (upd 76 f 13 (sb (!r1))), _⟩
    refine AWops.guard_no rfl (nl rfl) rfl (by rw [c2] <;> rfl) k
   ·intro K _ f w u k
    show Wp K ⟨76, (upd 76 f 13 (sb (!r1))), _⟩
    refine AWops.guard_no rfl (nl rfl) rfl (by rw [c2] <;> rfl) k
   ·intro K _ f w u k
    show Wp K ⟨76, (upd 76 f 13 (sb (!r1))), _⟩
    refine AWops.guard_no rfl (nl rfl) rfl (by rw [c2] <;> rfl) k
   ·intro K _ f w u k
    show Wp K ⟨76, (upd 76 f 13 (sb (!r1))), _⟩
    refine AWops.guard_no rfl (nl rfl) rfl (by rw [c2] <;> rfl) k
   ·intro K _ f w u k
    show Wp K ⟨76, (upd 76 f 13 (sb (!r1))), _⟩
    refine AWops.guard_no rfl (nl rfl) rfl (by rw [c2] <;> rfl) k
   ·intro K _ f w u k
    show Wp K ⟨76, (upd 76 f 13 (sb (!r1))), _⟩
    refine AWops.guard_no rfl (nl rfl) rfl (by rw [c2] <;> rfl) k
   ·intro K _ f w u k
    show Wp K ⟨76, (upd 76 f 13 (sb (!r1))), _⟩
    refine AWops.guard_no rfl (nl rfl) rfl (by rw [c2] <;> rfl) k
   ·intro K _ f w u k
    show Wp K ⟨76, (upd 76 f 13 (sb (!r1))), _⟩
    refine s_pick_yes (d := (sb true)) rfl (by rw [c2] <;> rfl) rfl k
  ·refine AWops.weak (st' := ⟨76, (upd 76 (upd 76 topF 0 (rf 0 0)) 25 (sb true)), [(some (AObj.cells false [(C.ref 1 0), np, (C.ref 2 0), (C.ref 3 0)])), (o_journal_Journal_0 false (C.ref 2 0) p1), (o_vdisk_Disk_03 false (C.mp 4) np p2), (o_dossierref03_Disk_0 false (C.own 5 0 p3.L.length 3) p3), (om_ e_vdisk_file p2.files), (or_ e_dossierref03_File p3.L)]⟩) (wg 6 [0, 1, 2, 3, 4, 5] [] hx (le_upd (le_upd (le_top _) (o1 (.ref rfl))) (o1 .sc)) (ac (.cells id (ac (.ref rfl) (ac .sc (ac (.ref rfl) (ac (.ref rfl) an))))) (ac (.cells id (ac (.ref rfl) (ac .same (ac .same (ac .sc an))))) (ac (qs rfl) (ac (qo rfl) (ac .map (ac (.cells id (all2_row _)) an))))))) (AWops.nil ?_)
   refine AW.cond_yes rfl rfl (AW.seq (AW.region ?_))
   refine s_assign (d := (sb false)) rfl (AWops.nil (AW.ret ?_))
   obtain rfl := Option.some.inj h
   exact ⟨_, rfl, (wg 6 [0, 1, 2, 3, 4, 5] [] rfl (le_upd (le_top _) (o1 .sc)) (ac (.cells id (ac (.ref rfl) (ac .sc (ac (.ref rfl) (ac (.ref rfl) an))))) (ac (.cells id (ac (.ref rfl) (ac .same (ac .same (ac .sc an))))) (ac (qs rfl) (ac (qo rfl) (ac .map (ac (.cells id (all2_row _)) an)))))))⟩
def journal_Journal_none.f (k : Nat) (p0 : journal_Journal) (p1 : vdisk_Disk) : Option (Bool × journal_Journal) := some (false, (⟨(), p0.snap, p0.l, p0.stopped⟩ : journal_Journal))
theorem journal_Journal_none.meets (k : Nat) (p0 : journal_Journal) (p1 : vdisk_Disk) (r : Bool × journal_Journal) (h : journal_Journal_none.f k p0 p1 = some r) : Meets Try.prog 30 [(rf 0 0)] [(o_journal_Journal_0 false (C.ref 1 0) p0), (o_vdisk_Disk_03 false (C.mp 2) np p1), (om_ e_vdisk_file p1.files)] (sb r.1) [(o_journal_Journal_0 false (C.ref 1 0) r.2), (o_vdisk_Disk_03 false (C.mp 2) np p1), (om_ e_vdisk_file p1.files)] := by
 unfold journal_Journal_none.f at h
 refine Meets.of_body (n := 12) Try.func30 rfl rfl (nl rfl) fun x hx => ?_
 replace hx : x.k = 3 := hx
 show AW _ x _ _ ⟨12, fr0 [(rf 0 0)], [(o_journal_Journal_0 false (C.ref 1 0) p0), (o_vdisk_Disk_03 false (C.mp 2) np p1), (om_ e_vdisk_file p1.files)]⟩
 refine AW.seq (AW.region ?_)
 refine s_assign (d := (sb false)) rfl (AWops.nil (AW.seq (AW.region ?_)))
 refine s_move (d := (rf 0 0)) rfl (s_ptrNil (b := false) F.u_23 rfl (.inl ⟨⟨_, _, rfl⟩, rfl⟩) (.inl rfl) (s_move (d := (sb false)) rfl ?_))
 refine AWops.guard_yes rfl (nl rfl) rfl rfl ?_
 refine s_move (d := (rf 0 0)) rfl ?_
 refine AWops.guard_yes rfl (nl rfl) rfl rfl ?_
 refine s_nilCheck (d := (rf 0 0)) rfl (.inl ⟨_, _, rfl⟩) ?_
 refine AWops.guard_yes rfl (nl rfl) rfl rfl ?_
 refine s_fieldRef F.fo_27_0 (by decide) rfl ?_
 refine AWops.guard_yes rfl (nl rfl) rfl rfl ?_
 refine s_load1 (c' := (C.ref 1 0)) F.ag_24 rfl rfl ?_
 refine AWops.guard_yes rfl (nl rfl) rfl rfl ?_
 refine s_ptrNil (b := false) F.u_24 rfl (.inl ⟨⟨_, _, rfl⟩, rfl⟩) (.inl rfl) (s_pick_no (d := (sb false)) rfl rfl rfl (s_assign (d := (sb false)) rfl (AWops.nil (AW.ret ?_))))
 obtain rfl := Option.some.inj h
 exact ⟨_, rfl, (wg 3 [0, 1, 2] [] rfl (le_upd (le_top _) (o1 .sc)) (ac (.cells id (ac (.ref rfl) (ac .same (ac .same (ac .sc an))))) (ac (qs rfl) (ac .map an))))⟩
def journal_Journal_Snapshot.f (k : Nat) (p0 : journal_Journal) (p1 : vdisk_Disk) : Option ((List Int) × journal_Journal) := (journal_Journal_none.f k (⟨(), p0.snap, p0.l, p0.stopped⟩ : journal_Journal) p1).bind fun r1 => if r1.1 = true then (some (([] : List Int), (⟨(), r1.2.snap, r1.2.l, r1.2.stopped⟩ : journal_Journal))) else ((slices_Clone_byte_byte.f k r1.2.snap).bind fun r3 => some (r3, (⟨(), r1.2.snap, r1.2.l, r1.2.stopped⟩ : journal_Journal)))
theorem journal_Journal_Snapshot.meets (k : Nat) (p0 : journal_Journal) (p1 : vdisk_Disk) (r : (List Int) × journal_Journal) (h : journal_Journal_Snapshot.f k p0 p1 = some r) : Meets Try.prog 9 [(rf 0 0)] [(o_journal_Journal_0 false (C.ref 1 0) p0), (o_vdisk_Disk_03 false (C.mp 2) np p1), (om_ e_vdisk_file p1.files)] (D.one (C.own 3 0 r.1.length 1)) [(o_journal_Journal_0 false (C.ref 1 0) r.2), (o_vdisk_Disk_03 false (C.mp 2) np p1), (om_ e_vdisk_file p1.files), (ow_ e_u8 r.1)] := by
 unfold journal_Journal_Snapshot.f at h
 refine Meets.of_body (n := 10) Try.func9 rfl rfl (nl rfl) fun x hx => ?_
 replace hx : x.k = 3 := hx
 show AW _ x _ _ ⟨10, fr0 [(rf 0 0)], [(o_journal_Journal_0 false (C.ref 1 0) p0), (o_vdisk_Disk_03 false (C.mp 2) np p1), (om_ e_vdisk_file p1.files)]⟩
 refine AW.seq (AW.region ?_)
 refine s_assign (d := (sc (.slice none 0 0))) rfl (AWops.nil (AW.seq (AW.seq (AW.region ?_))))
 refine s_move (d := (rf 0 0)) rfl ?_
 obtain ⟨r1, er1, h⟩ := bnd h
 refine cc [0, 1, 2] [(o_journal_Journal_0 false (C.ref 1 0) r1.2), (o_vdisk_Disk_03 false (C.mp 2) np p1), (om_ e_vdisk_file p1.files)] (sb r1.1) F.ca_30 rfl rfl (ac (.one (.ref rfl)) an) (ac (.cells (ac (.ref rfl) (ac .imm (ac .imm (ac .sc an))))) (ac (.cells (ac (.mp rfl) (ac .sc (ac .sc (ac .sc (ac .sc an)))))) (ac .map an))) (journal_Journal_none.meets _ (⟨(), p0.snap, p0.l, p0.stopped⟩ : journal_Journal) p1 r1 er1) (AWops.nil ?_)
 rcases itH h with ⟨c2, h⟩ | ⟨c2, h⟩
 ·refine AW.cond_yes rfl c2 (AW.seq (AW.region ?_))
  refine s_assign (d := (sc (.slice none 0 0))) rfl (AWops.nil (AW.ret ?_))
  obtain rfl := Option.some.inj h
  exact ⟨_, rfl, (Weak.trans (Weak.nil (sz := 1) (i := 0) rfl) (wg 3 [0, 1, 2, 3] [] rfl (le_upd (le_top _) (o1 (CLe.ownN rfl (by simp)))) (ac (.cells id (ac (.ref rfl) (ac .same (ac .same (ac .sc an))))) (ac (qs rfl) (ac .map (ac (.cells (fun _ => rfl) an) an))))))⟩
 ·refine AW.cond_no rfl c2 (AW.skip (AW.seq (AW.region ?_)))
  refine s_move (d := (rf 0 0)) rfl (s_nilCheck (d := (rf 0 0)) rfl (.inl ⟨_, _, rfl⟩) (s_fieldRef F.fo_27_1 (by decide) rfl (s_load1 (c' := (cl_ e_u8 r1.2.snap)) F.ag_22 rfl rfl ?_)))
  obtain ⟨r3, er3, h⟩ := bnd h
  refine cc [] [(o_journal_Journal_0 false (C.ref 1 0) r1.2), (o_vdisk_Disk_03 false (C.mp 2) np p1), (om_ e_vdisk_file p1.files), (ow_ e_u8 r3)] (D.one (C.own 3 0 r3.length 1)) F.ca_28 rfl rfl (ac (.one .imm) an) an (slices_Clone_byte_byte.meets _ r1.2.snap r3 er3) (s_assign (d := (D.one (C.own 3 0 r3.length 1))) rfl (AWops.nil (AW.ret ?_)))
  obtain rfl := Option.some.inj h
  exact ⟨_, rfl, (wg 3 [0, 1, 2, 3] [] rfl (le_upd (le_top _) (o1 (.own rfl))) (ac (.cells id (ac (.ref rfl) (ac .same (ac .same (ac .sc an))))) (ac (qs rfl) (ac .map (ac (.cells (fun _ => rfl) (all2_row _)) an)))))⟩
mutual
def journal_Journal_Records.l0 : Nat → (List (List Int)) → Int → (Bool × journal_Journal) → Option ((List (List Int)) × journal_Journal)
 | 0, _, _, _ => none
 | k + 1, x3, x4, r1 => if (decide (x4 < (r1.2.l.length : Int))) = true then ((rd r1.2.l x4).bind fun v6 => (slices_Clone_byte_byte.f k v6).bind fun r7 => if (decide (x3.length + ([r7] : List (List Int)).length ≤ 5864062014805)) = true then (journal_Journal_Records.l0 k (x3 ++ ([r7] : List (List Int))) (IntKind.i64.wrap (x4 + 1)) r1) else none) else (some (x3, (⟨(), r1.2.snap, r1.2.l, r1.2.stopped⟩ : journal_Journal)))
end
def journal_Journal_Records.f (k : Nat) (p0 : journal_Journal) (p1 : vdisk_Disk) : Option ((List (List Int)) × journal_Journal) := (journal_Journal_none.f k (⟨(), p0.snap, p0.l, p0.stopped⟩ : journal_Journal) p1).bind fun r1 => if r1.1 = true then (some (([] : List (List Int)), (⟨(), r1.2.snap, r1.2.l, r1.2.stopped⟩ : journal_Journal))) else (journal_Journal_Records.l0 k ([] : List (List Int)) 0 r1)
theorem journal_Journal_Records.meets (k : Nat) (p0 : journal_Journal) (p1 : vdisk_Disk) (r : (List (List Int)) × journal_Journal) (h : journal_Journal_Records.f k p0 p1 = some r) : Meets Try.prog 10 [(rf 0 0)] [(o_journal_Journal_0 false (C.ref 1 0) p0), (o_vdisk_Disk_03 false (C.mp 2) np p1), (om_ e_vdisk_file p1.files)] (D.one (C.own 3 0 r.1.length 1)) [(o_journal_Journal_0 false (C.ref 1 0) r.2), (o_vdisk_Disk_03 false (C.mp 2) np p1), (om_ e_vdisk_file p1.files), (some (AObj.cells true (rowC (e_sl e_u8) r.1)))] := by
 unfold journal_Journal_Records.f at h
 refine Meets.of_body (n := 24) Try.func10 rfl rfl (nl rfl) fun x hx => ?_
 replace hx : x.k = 3 := hx
 show AW _ x _ _ ⟨24, fr0 [(rf 0 0)], [(o_journal_Journal_0 false (C.ref 1 0) p0), (o_vdisk_Disk_03 false (C.mp 2) np p1), (om_ e_vdisk_file p1.files)]⟩
 refine AW.seq (AW.region ?_)
 refine s_assign (d := (sc (.slice none 0 0))) rfl (AWops.nil (AW.seq (AW.seq (AW.region ?_))))
 refine s_move (d := (rf 0 0)) rfl ?_
 obtain ⟨r1, er1, h⟩ := bnd h
 refine cc [0, 1, 2] [(o_journal_Journal_0 false (C.ref 1 0) r1.2), (o_vdisk_Disk_03 false (C.mp 2) np p1), (om_ e_vdisk_file p1.files)] (sb r1.1) F.ca_30 rfl rfl (ac (.one (.ref rfl)) an) (ac (.cells (ac (.ref rfl) (ac .imm (ac .imm (ac .sc an))))) (ac (.cells (ac (.mp rfl) (ac .sc (ac .sc (ac .sc (ac .sc an)))))) (ac .map an))) (journal_Journal_none.meets _ (⟨(), p0.snap, p0.l, p0.stopped⟩ : journal_Journal) p1 r1 er1) (AWops.nil ?_)
 rcases itH h with ⟨c2, h⟩ | ⟨c2, h⟩
 ·refine AW.cond_yes rfl c2 (AW.seq (AW.region ?_))
  refine s_assign (d := (sc (.slice none 0 0))) rfl (AWops.nil (AW.ret ?_))
  obtain rfl := Option.some.inj h
  exact ⟨_, rfl, (Weak.trans (Weak.nil (sz := 1) (i := 0) rfl) (wg 3 [0, 1, 2, 3] [] rfl (le_upd (le_top _) (o1 (CLe.ownN rfl (by simp)))) (ac (.cells id (ac (.ref rfl) (ac .same (ac .same (ac .sc an))))) (ac (qs rfl) (ac .map (ac (.cells (fun _ => rfl) an) an))))))⟩
 ·refine AW.cond_no rfl c2 (AW.skip (AW.seq (AW.region ?_)))
  refine s_assign (d := (sc (.slice none 0 0))) rfl (AWops.nil (AW.seq (AW.seq (AW.region ?_))))
  refine s_move (d := (rf 0 0)) rfl (s_nilCheck (d := (rf 0 0)) rfl (.inl ⟨_, _, rfl⟩) (s_fieldRef F.fo_27_2 (by decide) rfl (s_load1 (c' := (C.p false (.sl r1.2.l.length (r1.2.l.flatMap (e_sl e_u8))))) F.ag_25 rfl rfl (s_len (n := r1.2.l.length) F.u_25 rfl (.inr ⟨(fun _ _ h => by cases h), ⟨_, rfl⟩⟩) (s_move (d := (si 0)) rfl (AWops.nil (AW.block ?_)))))))
  refine AW.loopw (st0 := ⟨24, (upd 24 (upd 24 (upd 24 (upd 24 topF 3 (D.one (C.own 3 0 ([] : List (List Int)).length 1))) 11 (D.one (C.p false (.sl r1.2.l.length (r1.2.l.flatMap (e_sl e_u8)))))) 12 (si (r1.2.l.length : Int))) 13 (si 0)), [(o_journal_Journal_0 false (C.ref 1 0) r1.2), (o_vdisk_Disk_03 false (C.mp 2) np p1), (om_ e_vdisk_file p1.files), (some (AObj.cells true (rowC (e_sl e_u8) ([] : List (List Int)))))]⟩) (fun kv st => kv ≤ k ∧ ∃ (x3 : List (List Int)) (x4 : Int), journal_Journal_Records.l0 kv x3 x4 r1 = some r ∧ st = ⟨24, (upd 24 (upd 24 (upd 24 (upd 24 topF 3 (D.one (C.own 3 0 x3.length 1))) 11 (D.one (C.p false (.sl r1.2.l.length (r1.2.l.flatMap (e_sl e_u8)))))) 12 (si (r1.2.l.length : Int))) 13 (si x4)), [(o_journal_Journal_0 false (C.ref 1 0) r1.2), (o_vdisk_Disk_03 false (C.mp 2) np p1), (om_ e_vdisk_file p1.files), (some (AObj.cells true (rowC (e_sl e_u8) x3)))]⟩) (k := k) (Weak.trans (Weak.nil (sz := 1) (i := 3) rfl) (wg 3 [0, 1, 2, 3] [] hx (le_upd (le_upd (le_upd (le_upd (le_top _) (o1 (.own rfl))) (o1 .same)) (o1 .sc)) (o1 .sc)) (ac (.cells id (ac (.ref rfl) (ac .same (ac .same (ac .sc an))))) (ac (qs rfl) (ac .map (ac (.cells (fun _ => rfl) an) an)))))) ⟨Nat.le_refl _, ([] : List (List Int)), 0, h, rfl⟩ ?_
  rintro ql0 st ⟨hkl0, x3, x4, h, rfl⟩
  cases ql0 with
  | zero => exact absurd h (by simp [journal_Journal_Records.l0])
  | succ ql0 =>
   replace h := (journal_Journal_Records.l0.eq_2 _ _ _ _).symm.trans h
   refine AW.seq (AW.region ?_)
   refine s_binI (v := (.bool (decide (x4 < (r1.2.l.length : Int))))) rfl rfl rfl (AWops.nil (AW.seq ?_))
   rcases itH h with ⟨c5, h⟩ | ⟨c5, h⟩
   ·refine AW.cond_yes rfl c5 (AW.skip (AW.seq (AW.block (AW.seq (AW.region ?_)))))
    obtain ⟨v6, ev6, h⟩ := bnd h
    obtain ⟨pv6, qv6, gv6⟩ := rd_some ev6
    refine s_indexImm (ps := [P.sl v6.length (v6.flatMap e_u8)]) F.u_25 F.sz_22 rfl rfl pv6 qv6 (flat_at (e_sl_len _) gv6 (e_sl_eq _ v6)) (s_load1 (c' := (cl_ e_u8 v6)) F.ag_22 rfl rfl (s_assign (d := (ds_ e_u8 v6)) rfl (AWops.nil (AW.region (s_move (d := (D.one (C.own 3 0 x3.length 1))) rfl (s_move (d := (ds_ e_u8 v6)) rfl ?_))))))
    obtain ⟨r7, er7, h⟩ := bnd h
    refine cc [] [(o_journal_Journal_0 false (C.ref 1 0) r1.2), (o_vdisk_Disk_03 false (C.mp 2) np p1), (om_ e_vdisk_file p1.files), (some (AObj.cells true (rowC (e_sl e_u8) x3))), (ow_ e_u8 r7)] (D.one (C.own 4 0 r7.length 1)) F.ca_28 rfl rfl (ac (.one .imm) an) an (slices_Clone_byte_byte.meets _ v6 r7 er7) ?_
    refine AWops.weak (st' := ⟨24, (upd 24 (upd 24 (upd 24 (upd 24 (upd 24 (upd 24 (upd 24 (upd 24 (upd 24 (upd 24 (upd 24 topF 3 (D.one (C.own 3 0 x3.length 1))) 5 (ds_ e_u8 v6)) 11 (D.one (C.p false (.sl r1.2.l.length (r1.2.l.flatMap (e_sl e_u8)))))) 12 (si (r1.2.l.length : Int))) 13 (si x4)) 14 (sb (decide (x4 < (r1.2.l.length : Int))))) 15 (D.one (C.peek false [P.sl v6.length (v6.flatMap e_u8)]))) 16 (ds_ e_u8 v6)) 17 (D.one (C.own 3 0 x3.length 1))) 18 (ds_ e_u8 v6)) 19 (ds_ e_u8 r7)), [(o_journal_Journal_0 false (C.ref 1 0) r1.2), (o_vdisk_Disk_03 false (C.mp 2) np p1), (om_ e_vdisk_file p1.files), (some (AObj.cells true (rowC (e_sl e_u8) x3)))]⟩) (wg 3 [0, 1, 2, 3] [4] hx (le_upd (le_upd (le_upd (le_upd (le_upd (le_upd (le_upd (le_upd (le_upd (le_upd (le_upd (le_top _) (o1 (.own rfl))) (o1 .same)) (o1 .same)) (o1 .sc)) (o1 .sc)) (o1 .sc)) (o1 .peek)) (o1 .same)) (o1 (.own rfl))) (o1 .same)) (o1 (CLe.frz e_u8_len rfl rfl rfl))) (ac (.cells id (ac (.ref rfl) (ac .same (ac .same (ac .sc an))))) (ac (qs rfl) (ac .map (ac (.cells (fun _ => rfl) (all2_row _)) an))))) ?_
    refine s_buildSlice (n := 1) (ps := [(0, (ds_ e_u8 r7))]) (cs := rowC (e_sl e_u8) ([r7] : List (List Int))) F.u_25 F.sz_22 F.z_22 rfl rfl (by decide) (by decide) rfl rfl ?_
    obtain ⟨c8, h⟩ := gdH h
    have dc8 := of_decide_eq_true c8
    refine t_append (xs := x3) (ys := ([r7] : List (List Int))) (zs := x3 ++ ([r7] : List (List Int))) (H' := [(o_journal_Journal_0 false (C.ref 1 0) r1.2), (o_vdisk_Disk_03 false (C.mp 2) np p1), (om_ e_vdisk_file p1.files), none, (some (AObj.cells true (rowC (e_sl e_u8) ([r7] : List (List Int))))), (some (AObj.cells true (rowC (e_sl e_u8) (x3 ++ ([r7] : List (List Int))))))]) F.u_25 F.in_22 rfl (e_sl_len _) (.own rfl rfl) (.own rfl rfl) F.u_25 (by omega) (by omega) rfl rfl (s_assign (d := (D.one (C.own 5 0 ((x3 ++ ([r7] : List (List Int))).length) 1))) rfl (AWops.nil (AW.region (s_binI (v := (.int .i64 (IntKind.i64.wrap (x4 + 1)))) rfl rfl rfl (s_move (d := (si (IntKind.i64.wrap (x4 + 1)))) rfl (AWops.nil ?_))))))
    exact ⟨_, ⟨24, (upd 24 (upd 24 (upd 24 (upd 24 topF 3 (D.one (C.own 3 0 (x3 ++ ([r7] : List (List Int))).length 1))) 11 (D.one (C.p false (.sl r1.2.l.length (r1.2.l.flatMap (e_sl e_u8)))))) 12 (si (r1.2.l.length : Int))) 13 (si (IntKind.i64.wrap (x4 + 1)))), [(o_journal_Journal_0 false (C.ref 1 0) r1.2), (o_vdisk_Disk_03 false (C.mp 2) np p1), (om_ e_vdisk_file p1.files), (some (AObj.cells true (rowC (e_sl e_u8) (x3 ++ ([r7] : List (List Int))))))]⟩, by omega, (wg 3 [0, 1, 2, 5] [] hx (le_upd (le_upd (le_upd (le_upd (le_top _) (o1 (.own rfl))) (o1 .same)) (o1 .sc)) (o1 .sc)) (ac (.cells id (ac (.ref rfl) (ac .same (ac .same (ac .sc an))))) (ac (qs rfl) (ac .map (ac (.cells (fun _ => rfl) (all2_row _)) an))))), by omega, x3 ++ ([r7] : List (List Int)), IntKind.i64.wrap (x4 + 1), h, rfl⟩
   ·refine AW.cond_no rfl c5 (AW.exit (AW.seq (AW.region ?_)))
    refine s_move (d := (D.one (C.own 3 0 x3.length 1))) rfl (s_assign (d := (D.one (C.own 3 0 x3.length 1))) rfl (AWops.nil (AW.ret ?_)))
    obtain rfl := Option.some.inj h
    exact ⟨_, rfl, (wg 3 [0, 1, 2, 3] [] rfl (le_upd (le_top _) (o1 (.own rfl))) (ac (.cells id (ac (.ref rfl) (ac .same (ac .same (ac .sc an))))) (ac (qs rfl) (ac .map (ac (.cells (fun _ => rfl) (all2_row _)) an)))))⟩
mutual
def slices_EqualFunc_byte__byte__byte__byte.l0 : Nat → Int → (List (List Int)) → (List (List Int)) → Option Bool
 | 0, _, _, _ => none
 | k + 1, x2, a0, a1 => if (decide (x2 < (a0.length : Int))) = true then ((rd a0 x2).bind fun v4 => (rd a1 x2).bind fun v5 => (bytes_Equal.f k v4 v5).bind fun r6 => if r6 = true then (slices_EqualFunc_byte__byte__byte__byte.l0 k (IntKind.i64.wrap (x2 + 1)) a0 a1) else (some false)) else (some true)
end
def slices_EqualFunc_byte__byte__byte__byte.f (k : Nat) (a0 : List (List Int)) (a1 : List (List Int)) : Option Bool := if ((a0.length : Int) != (a1.length : Int)) = true then (some false) else (slices_EqualFunc_byte__byte__byte__byte.l0 k 0 a0 a1)
theorem slices_EqualFunc_byte__byte__byte__byte.meets (k : Nat) (a0 : List (List Int)) (a1 : List (List Int)) (r : Bool) (h : slices_EqualFunc_byte__byte__byte__byte.f k a0 a1 = some r) : Meets Try.prog 37 [(D.one (C.p false (.sl a0.length (a0.flatMap (e_sl e_u8))))), (D.one (C.p false (.sl a1.length (a1.flatMap (e_sl e_u8))))), (D.one (C.clo 17 []))] [] (sb r) [] := by
 unfold slices_EqualFunc_byte__byte__byte__byte.f at h
 refine Meets.of_body (n := 32) Try.func37 rfl rfl (nl rfl) fun x hx => ?_
 replace hx : x.k = 0 := hx
 show AW _ x _ _ ⟨32, fr0 [(D.one (C.p false (.sl a0.length (a0.flatMap (e_sl e_u8))))), (D.one (C.p false (.sl a1.length (a1.flatMap (e_sl e_u8))))), (D.one (C.clo 17 []))], []⟩
 refine AW.seq (AW.region ?_)
 refine s_assign (d := (sb false)) rfl (AWops.nil (AW.seq (AW.seq (AW.region ?_))))
 refine s_move (d := (D.one (C.p false (.sl a0.length (a0.flatMap (e_sl e_u8)))))) rfl (s_len (n := a0.length) F.u_25 rfl (.inr ⟨(fun _ _ h => by cases h), ⟨_, rfl⟩⟩) (s_move (d := (D.one (C.p false (.sl a1.length (a1.flatMap (e_sl e_u8)))))) rfl (s_len (n := a1.length) F.u_25 rfl (.inr ⟨(fun _ _ h => by cases h), ⟨_, rfl⟩⟩) (s_binI (v := (.bool ((a0.length : Int) != (a1.length : Int)))) rfl rfl rfl (AWops.nil ?_)))))
 rcases itH h with ⟨c1, h⟩ | ⟨c1, h⟩
 ·refine AW.cond_yes rfl c1 (AW.seq (AW.region ?_))
  refine s_assign (d := (sb false)) rfl (AWops.nil (AW.ret ?_))
  obtain rfl := Option.some.inj h
  exact ⟨_, rfl, (wg 0 [] [] rfl (le_upd (le_top _) (o1 .sc)) an)⟩
 ·refine AW.cond_no rfl c1 (AW.skip (AW.seq (AW.seq (AW.region ?_))))
  refine s_move (d := (D.one (C.p false (.sl a0.length (a0.flatMap (e_sl e_u8)))))) rfl (s_len (n := a0.length) F.u_25 rfl (.inr ⟨(fun _ _ h => by cases h), ⟨_, rfl⟩⟩) (s_move (d := (si 0)) rfl (AWops.nil (AW.block ?_))))
  refine AW.loopw (st0 := ⟨32, (upd 32 (upd 32 (upd 32 (upd 32 (upd 32 topF 1 (D.one (C.p false (.sl a1.length (a1.flatMap (e_sl e_u8)))))) 2 (D.one (C.clo 17 []))) 15 (D.one (C.p false (.sl a0.length (a0.flatMap (e_sl e_u8)))))) 16 (si (a0.length : Int))) 17 (si 0)), []⟩) (fun kv st => kv ≤ k ∧ ∃ (x2 : Int), slices_EqualFunc_byte__byte__byte__byte.l0 kv x2 a0 a1 = some r ∧ st = ⟨32, (upd 32 (upd 32 (upd 32 (upd 32 (upd 32 topF 1 (D.one (C.p false (.sl a1.length (a1.flatMap (e_sl e_u8)))))) 2 (D.one (C.clo 17 []))) 15 (D.one (C.p false (.sl a0.length (a0.flatMap (e_sl e_u8)))))) 16 (si (a0.length : Int))) 17 (si x2)), []⟩) (k := k) (wg 0 [] [] hx (le_upd (le_upd (le_upd (le_upd (le_upd (le_top _) (o1 .same)) (o1 (CLe.cloL an))) (o1 .same)) (o1 .sc)) (o1 .sc)) an) ⟨Nat.le_refl _, 0, h, rfl⟩ ?_
  rintro ql0 st ⟨hkl0, x2, h, rfl⟩
  cases ql0 with
  | zero => exact absurd h (by simp [slices_EqualFunc_byte__byte__byte__byte.l0])
  | succ ql0 =>
   replace h := (slices_EqualFunc_byte__byte__byte__byte.l0.eq_2 _ _ _ _).symm.trans h
   refine AW.seq (AW.region ?_)
   refine s_binI (v := (.bool (decide (x2 < (a0.length : Int))))) rfl rfl rfl (AWops.nil (AW.seq ?_))
   rcases itH h with ⟨c3, h⟩ | ⟨c3, h⟩
   ·refine AW.cond_yes rfl c3 (AW.skip (AW.seq (AW.block (AW.seq (AW.region ?_)))))
    refine s_move (d := (si x2)) rfl ?_
    obtain ⟨v4, ev4, h⟩ := bnd h
    obtain ⟨pv4, qv4, gv4⟩ := rd_some ev4
    refine s_indexImm (ps := [P.sl v4.length (v4.flatMap e_u8)]) F.u_25 F.sz_22 rfl rfl pv4 qv4 (flat_at (e_sl_len _) gv4 (e_sl_eq _ v4)) (s_load1 (c' := (cl_ e_u8 v4)) F.ag_22 rfl rfl (s_assign (d := (si x2)) rfl (s_assign (d := (ds_ e_u8 v4)) rfl (AWops.nil (AW.seq (AW.region (s_move (d := (D.one (C.p false (.sl a1.length (a1.flatMap (e_sl e_u8)))))) rfl (s_move (d := (si x2)) rfl ?_))))))))
    obtain ⟨v5, ev5, h⟩ := bnd h
    obtain ⟨pv5, qv5, gv5⟩ := rd_some ev5
    refine s_indexImm (ps := [P.sl v5.length (v5.flatMap e_u8)]) F.u_25 F.sz_22 rfl rfl pv5 qv5 (flat_at (e_sl_len _) gv5 (e_sl_eq _ v5)) (s_load1 (c' := (cl_ e_u8 v5)) F.ag_22 rfl rfl (s_assign (d := (ds_ e_u8 v5)) rfl (AWops.nil (AW.seq (AW.region (s_move (d := (D.one (C.clo 17 []))) rfl (s_move (d := (ds_ e_u8 v4)) rfl (s_move (d := (ds_ e_u8 v5)) rfl ?_))))))))
    obtain ⟨r6, er6, h⟩ := bnd h
    refine cc [] [] (sb r6) F.ca_17 rfl rfl (ac (.one .imm) (ac (.one .imm) an)) an (bytes_Equal.meets _ v4 v5 r6 er6) (s_not rfl (AWops.nil ?_))
    rcases itH h with ⟨c7, h⟩ | ⟨c7, h⟩
    ·refine AW.cond_no rfl (by rw [c7] <;> rfl) (AW.skip (AW.region ?_))
     refine s_binI (v := (.int .i64 (IntKind.i64.wrap (x2 + 1)))) rfl rfl rfl (s_move (d := (si (IntKind.i64.wrap (x2 + 1)))) rfl (AWops.nil ?_))
     exact ⟨_, ⟨32, (upd 32 (upd 32 (upd 32 (upd 32 (upd 32 topF 1 (D.one (C.p false (.sl a1.length (a1.flatMap (e_sl e_u8)))))) 2 (D.one (C.clo 17 []))) 15 (D.one (C.p false (.sl a0.length (a0.flatMap (e_sl e_u8)))))) 16 (si (a0.length : Int))) 17 (si (IntKind.i64.wrap (x2 + 1)))), []⟩, by omega, (wg 0 [] [] hx (le_upd (le_upd (le_upd (le_upd (le_upd (le_top _) (o1 .same)) (o1 (CLe.cloL an))) (o1 .same)) (o1 .sc)) (o1 .sc)) an), by omega, IntKind.i64.wrap (x2 + 1), h, rfl⟩
    ·refine AW.cond_yes rfl (by rw [c7] <;> rfl) (AW.seq (AW.region ?_))
     refine s_assign (d := (sb false)) rfl (AWops.nil (AW.ret ?_))
     obtain rfl := Option.some.inj h
     exact ⟨_, rfl, (wg 0 [] [] rfl (le_upd (le_top _) (o1 .sc)) an)⟩
   ·refine AW.cond_no rfl c3 (AW.exit (AW.seq (AW.region ?_)))
    refine s_assign (d := (sb true)) rfl (AWops.nil (AW.ret ?_))
    obtain rfl := Option.some.inj h
    exact ⟨_, rfl, (wg 0 [] [] rfl (le_upd (le_top _) (o1 .sc)) an)⟩
def dossierplain_SameTexts.f (k : Nat) (a0 : List (List Int)) (a1 : List (List Int)) : Option Bool := (slices_EqualFunc_byte__byte__byte__byte.f k a0 a1).bind fun r1 => some r1
theorem dossierplain_SameTexts.meets (k : Nat) (a0 : List (List Int)) (a1 : List (List Int)) (r : Bool) (h : dossierplain_SameTexts.f k a0 a1 = some r) : Meets Try.prog 18 [(D.one (C.p false (.sl a0.length (a0.flatMap (e_sl e_u8))))), (D.one (C.p false (.sl a1.length (a1.flatMap (e_sl e_u8)))))] [] (sb r) [] := by
 unfold dossierplain_SameTexts.f at h
 refine Meets.of_body (n := 8) Try.func18 rfl rfl (nl rfl) fun x hx => ?_
 replace hx : x.k = 0 := hx
 show AW _ x _ _ ⟨8, fr0 [(D.one (C.p false (.sl a0.length (a0.flatMap (e_sl e_u8))))), (D.one (C.p false (.sl a1.length (a1.flatMap (e_sl e_u8)))))], []⟩
 refine AW.seq (AW.region ?_)
 refine s_assign (d := (sb false)) rfl (AWops.nil (AW.seq (AW.region ?_)))
 refine s_move (d := (D.one (C.p false (.sl a0.length (a0.flatMap (e_sl e_u8)))))) rfl (s_move (d := (D.one (C.p false (.sl a1.length (a1.flatMap (e_sl e_u8)))))) rfl ?_)
 obtain ⟨r1, er1, h⟩ := bnd h
 refine cc [] [] (sb r1) F.ca_37 rfl rfl (ac (.one .imm) (ac (.one .imm) (ac (.one (LendC.cloL an)) an))) an (slices_EqualFunc_byte__byte__byte__byte.meets _ a0 a1 r1 er1) (s_assign (d := (sb r1)) rfl (AWops.nil (AW.ret ?_)))
 obtain rfl := Option.some.inj h
 exact ⟨_, rfl, (wg 0 [] [] rfl (le_upd (le_top _) (o1 .sc)) an)⟩
def journal_Journal_Stopped.f (k : Nat) (p0 : journal_Journal) (p1 : vdisk_Disk) : Option (Bool × journal_Journal) := (journal_Journal_none.f k (⟨(), p0.snap, p0.l, p0.stopped⟩ : journal_Journal) p1).bind fun r1 => if r1.1 = true then (some (true, (⟨(), r1.2.snap, r1.2.l, r1.2.stopped⟩ : journal_Journal))) else (some (r1.2.stopped, (⟨(), r1.2.snap, r1.2.l, r1.2.stopped⟩ : journal_Journal)))
theorem journal_Journal_Stopped.meets (k : Nat) (p0 : journal_Journal) (p1 : vdisk_Disk) (r : Bool × journal_Journal) (h : journal_Journal_Stopped.f k p0 p1 = some r) : Meets Try.prog 11 [(rf 0 0)] [(o_journal_Journal_0 false (C.ref 1 0) p0), (o_vdisk_Disk_03 false (C.mp 2) np p1), (om_ e_vdisk_file p1.files)] (sb r.1) [(o_journal_Journal_0 false (C.ref 1 0) r.2), (o_vdisk_Disk_03 false (C.mp 2) np p1), (om_ e_vdisk_file p1.files)] := by
 unfold journal_Journal_Stopped.f at h
 refine Meets.of_body (n := 11) Try.func11 rfl rfl (nl rfl) fun x hx => ?_
 replace hx : x.k = 3 := hx
 show AW _ x _ _ ⟨11, fr0 [(rf 0 0)], [(o_journal_Journal_0 false (C.ref 1 0) p0), (o_vdisk_Disk_03 false (C.mp 2) np p1), (om_ e_vdisk_file p1.files)]⟩
 refine AW.seq (AW.region ?_)
 refine s_assign (d := (sb false)) rfl (AWops.nil (AW.seq (AW.region ?_)))
 refine s_move (d := (rf 0 0)) rfl ?_
 obtain ⟨r1, er1, h⟩ := bnd h
 refine cc [0, 1, 2] [(o_journal_Journal_0 false (C.ref 1 0) r1.2), (o_vdisk_Disk_03 false (C.mp 2) np p1), (om_ e_vdisk_file p1.files)] (sb r1.1) F.ca_30 rfl rfl (ac (.one (.ref rfl)) an) (ac (.cells (ac (.ref rfl) (ac .imm (ac .imm (ac .sc an))))) (ac (.cells (ac (.mp rfl) (ac .sc (ac .sc (ac .sc (ac .sc an)))))) (ac .map an))) (journal_Journal_none.meets _ (⟨(), p0.snap, p0.l, p0.stopped⟩ : journal_Journal) p1 r1 er1) (s_move (d := (sb r1.1)) rfl ?_)
 rcases itH h with ⟨c2, h⟩ | ⟨c2, h⟩
 ·iterate 4 refine AWops.guard_no rfl (nl rfl) rfl c2 ?_
  refine s_pick_yes (d := (sb true)) rfl c2 rfl (s_assign (d := (sb true)) rfl (AWops.nil (AW.ret ?_)))
  obtain rfl := Option.some.inj h
  exact ⟨_, rfl, (wg 3 [0, 1, 2] [] rfl (le_upd (le_top _) (o1 .sc)) (ac (.cells id (ac (.ref rfl) (ac .same (ac .same (ac .sc an))))) (ac (qs rfl) (ac .map an))))⟩
 ·refine AWops.guard_yes rfl (nl rfl) rfl c2 ?_
  refine s_move (d := (rf 0 0)) rfl ?_
  refine AWops.guard_yes rfl (nl rfl) rfl c2 ?_
  refine s_nilCheck (d := (rf 0 0)) rfl (.inl ⟨_, _, rfl⟩) ?_
  refine AWops.guard_yes rfl (nl rfl) rfl c2 ?_
  refine s_fieldRef F.fo_27_3 (by decide) rfl ?_
  refine AWops.guard_yes rfl (nl rfl) rfl c2 ?_
  refine s_load1 (c' := (cb r1.2.stopped)) F.ag_4 rfl rfl (s_pick_no (d := (sb r1.2.stopped)) rfl c2 rfl (s_assign (d := (sb r1.2.stopped)) rfl (AWops.nil (AW.ret ?_))))
  obtain rfl := Option.some.inj h
  exact ⟨_, rfl, (wg 3 [0, 1, 2] [] rfl (le_upd (le_top _) (o1 .sc)) (ac (.cells id (ac (.ref rfl) (ac .same (ac .same (ac .sc an))))) (ac (qs rfl) (ac .map an))))⟩
end Go.Abs.GenO
