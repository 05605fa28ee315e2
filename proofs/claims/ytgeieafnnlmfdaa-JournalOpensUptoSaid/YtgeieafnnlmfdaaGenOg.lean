import Derived.Test.YtgeieafnnlmfdaaGenOf
set_option linter.unusedVariables false
set_option linter.unusedSimpArgs false
set_option maxRecDepth 100000
set_option maxHeartbeats 4000000
namespace Go.Abs.GenO
open Go.Abs Go.Proofs
def dossierlaw04_pair_same_22xx.f (k : Nat) (p0 : dossierlaw04_pair) (p1 : journal_Journal) (p2 : dossierref04_Journal) (p3 : vdisk_Disk) (p4 : dossierref03_Disk) : Option (Bool × dossierlaw04_pair × journal_Journal × dossierref04_Journal) := (dossierplain_Same.f k p3 p4).bind fun r1 => if r1 = true then ((journal_Journal_Snapshot.f k (⟨(), p1.snap, p1.l, p1.stopped⟩ : journal_Journal) p3).bind fun r3 => (bytes_Equal.f k r3.1 p2.Snap).bind fun r4 => if r4 = true then ((journal_Journal_Records.f k (⟨(), r3.2.snap, r3.2.l, r3.2.stopped⟩ : journal_Journal) p3).bind fun r6 => (dossierplain_SameTexts.f k r6.1 p2.L).bind fun r7 => if r7 = true then ((journal_Journal_Stopped.f k (⟨(), r6.2.snap, r6.2.l, r6.2.stopped⟩ : journal_Journal) p3).bind fun r9 => some ((r9.1 == p2.Stop), (⟨(), (), (), ()⟩ : dossierlaw04_pair), (⟨(), r9.2.snap, r9.2.l, r9.2.stopped⟩ : journal_Journal), (⟨(), p2.Snap, p2.L, p2.Stop⟩ : dossierref04_Journal))) else (some (false, (⟨(), (), (), ()⟩ : dossierlaw04_pair), (⟨(), r6.2.snap, r6.2.l, r6.2.stopped⟩ : journal_Journal), (⟨(), p2.Snap, p2.L, p2.Stop⟩ : dossierref04_Journal)))) else (some (false, (⟨(), (), (), ()⟩ : dossierlaw04_pair), (⟨(), r3.2.snap, r3.2.l, r3.2.stopped⟩ : journal_Journal), (⟨(), p2.Snap, p2.L, p2.Stop⟩ : dossierref04_Journal)))) else (some (false, (⟨(), (), (), ()⟩ : dossierlaw04_pair), (⟨(), p1.snap, p1.l, p1.stopped⟩ : journal_Journal), (⟨(), p2.Snap, p2.L, p2.Stop⟩ : dossierref04_Journal)))
theorem dossierlaw04_pair_same_22xx.meets (k : Nat) (p0 : dossierlaw04_pair) (p1 : journal_Journal) (p2 : dossierref04_Journal) (p3 : vdisk_Disk) (p4 : dossierref03_Disk) (r : Bool × dossierlaw04_pair × journal_Journal × dossierref04_Journal) (h : dossierlaw04_pair_same_22xx.f k p0 p1 p2 p3 p4 = some r) : Meets Try.prog 22 [(rf 0 0)] [(some (AObj.cells false [(C.ref 1 0), (C.ref 2 0), (C.ref 3 0), (C.ref 4 0)])), (o_journal_Journal_0 false (C.ref 3 0) p1), (o_dossierref04_Journal_0 false (C.ref 4 0) p2), (o_vdisk_Disk_03 false (C.mp 5) np p3), (o_dossierref03_Disk_0 false (C.own 6 0 p4.L.length 3) p4), (om_ e_vdisk_file p3.files), (or_ e_dossierref03_File p4.L)] (sb r.1) [(some (AObj.cells false [(C.ref 1 0), (C.ref 2 0), (C.ref 3 0), (C.ref 4 0)])), (o_journal_Journal_0 false (C.ref 3 0) r.2.2.1), (o_dossierref04_Journal_0 false (C.ref 4 0) r.2.2.2), (o_vdisk_Disk_03 false (C.mp 5) np p3), (o_dossierref03_Disk_0 false (C.own 6 0 p4.L.length 3) p4), (om_ e_vdisk_file p3.files), (or_ e_dossierref03_File p4.L)] := by
 unfold dossierlaw04_pair_same_22xx.f at h
 refine Meets.of_body (n := 76) Try.func22 rfl rfl (nl rfl) fun x hx => ?_
 replace hx : x.k = 7 := hx
 show AW _ x _ _ ⟨76, fr0 [(rf 0 0)], [(some (AObj.cells false [(C.ref 1 0), (C.ref 2 0), (C.ref 3 0), (C.ref 4 0)])), (o_journal_Journal_0 false (C.ref 3 0) p1), (o_dossierref04_Journal_0 false (C.ref 4 0) p2), (o_vdisk_Disk_03 false (C.mp 5) np p3), (o_dossierref03_Disk_0 false (C.own 6 0 p4.L.length 3) p4), (om_ e_vdisk_file p3.files), (or_ e_dossierref03_File p4.L)]⟩
 refine AW.seq (AW.region ?_)
 refine s_assign (d := (sb false)) rfl (AWops.nil (AW.seq (AW.seq ?_)))
 refine AW.weak (st' := ⟨76, (upd 76 topF 0 (rf 0 0)), [(some (AObj.cells false [(C.ref 1 0), (C.ref 2 0), (C.ref 3 0), (C.ref 4 0)])), (o_journal_Journal_0 false (C.ref 3 0) p1), (o_dossierref04_Journal_0 false (C.ref 4 0) p2), (o_vdisk_Disk_03 false (C.mp 5) np p3), (o_dossierref03_Disk_0 false (C.own 6 0 p4.L.length 3) p4), (om_ e_vdisk_file p3.files), (or_ e_dossierref03_File p4.L)]⟩) (wg 7 [0, 1, 2, 3, 4, 5, 6] [] hx (le_upd (le_top _) (o1 (.ref rfl))) (ac (.cells id (ac (.ref rfl) (ac (.ref rfl) (ac (.ref rfl) (ac (.ref rfl) an))))) (ac (.cells id (ac (.ref rfl) (ac .same (ac .same (ac .sc an))))) (ac (.cells id (ac (.ref rfl) (ac .same (ac .same (ac .sc an))))) (ac (qs rfl) (ac (qo rfl) (ac .map (ac (.cells id (all2_row _)) an)))))))) ?_
 obtain ⟨r1, er1, h⟩ := bnd h
 rcases itH h with ⟨c2, h⟩ | ⟨c2, h⟩
 ·refine AW.draw (n := 76) (L := 8) [(ft 0 3 (rf 0 0) [(0, (rf 0 0))]), (ft 1 4 (rf 0 0) [(3, (rf 0 0))]), (ft 2 5 (rf 0 2) [(4, (rf 0 0))]), (3, ⟨some 6, (rf 3 0), [(5, (rf 0 2))], [(0, (some (AObj.cells false [(C.ref 1 0), (C.ref 2 0), (C.ref 3 0), (C.ref 4 0)])))], [], none⟩), (ft 4 7 (rf 0 0) [(0, (rf 0 0))]), (ft 5 8 (rf 0 0) [(7, (rf 0 0))]), (ft 6 9 (rf 0 3) [(8, (rf 0 0))]), (7, ⟨some 10, (rf 4 0), [(9, (rf 0 3))], [(0, (some (AObj.cells false [(C.ref 1 0), (C.ref 2 0), (C.ref 3 0), (C.ref 4 0)])))], [], none⟩), (8, ⟨some 11, (sb r1), [(6, (rf 3 0)), (10, (rf 4 0))], [(3, (o_vdisk_Disk_03 false (C.mp 5) np p3)), (4, (o_dossierref03_Disk_0 false (C.own 6 0 p4.L.length 3) p4)), (5, (om_ e_vdisk_file p3.files)), (6, (or_ e_dossierref03_File p4.L))], [], none⟩), (ft 9 12 (sb (!r1)) [(11, (sb r1))]), (ft 10 13 (sb (!r1)) [(12, (sb (!r1)))]), (ft 11 14 (rf 0 0) [(0, (rf 0 0)), (13, (sb (!r1)))]), (ft 12 15 (rf 0 0) [(13, (sb (!r1))), (14, (rf 0 0))]), (ft 13 16 (rf 0 0) [(13, (sb (!r1))), (15, (rf 0 0))]), (14, ⟨some 17, (rf 1 0), [(13, (sb (!r1))), (16, (rf 0 0))], [(0, (some (AObj.cells false [(C.ref 1 0), (C.ref 2 0), (C.ref 3 0), (C.ref 4 0)])))], [], none⟩), (ft 15 18 (sb false) [(13, (sb (!r1))), (17, (rf 1 0))]), (ft 16 19 (rf 0 0) [(0, (rf 0 0)), (13, (sb (!r1)))]), (ft 17 20 (rf 0 0) [(13, (sb (!r1))), (19, (rf 0 0))]), (ft 18 21 (rf 0 1) [(13, (sb (!r1))), (20, (rf 0 0))]), (19, ⟨some 22, (rf 2 0), [(13, (sb (!r1))), (21, (rf 0 1))], [(0, (some (AObj.cells false [(C.ref 1 0), (C.ref 2 0), (C.ref 3 0), (C.ref 4 0)])))], [], none⟩), (ft 20 23 (sb false) [(13, (sb (!r1))), (22, (rf 2 0))]), (ft 21 24 (sb false) [(13, (sb (!r1))), (18, (sb false)), (23, (sb false))]), (ft 22 25 (sb false) [(13, (sb (!r1))), (24, (sb false))])] [[], [0], [0, 1], [0, 1, 2], [], [4], [4, 5], [4, 5, 6], (.range 8), (.range 9), (.range 10), (.range 11), (.range 12), (.range 13), (.range 14), (.range 15), (.range 11), (.range 11 ++ [16]), (.range 11 ++ [16, 17]), (.range 11 ++ [16, 17, 18]), (.range 11 ++ [16, 17, 18, 19]), (.range 21), (.range 22)] (nl rfl) [0, 1, 2, 3, 0, 1, 2, 3, 4, 5, 6, 7, 8, 9, 10, 11, 7, 8, 9, 10, 11, 12, 13] rfl (TK := []) rfl AllK.nil' (by repeat (first | refine fC ⟨?_, ?_⟩ ?_ | refine sC rfl ?_ | refine hC rfl ?_ | trivial)) ?_ ?_
  ·refine y8 ?_ ?_ ?_ ?_ ?_ ?_ ?_ ?_ (y8 ?_ ?_ ?_ ?_ ?_ ?_ ?_ ?_ (y4 ?_ ?_ ?_ ?_ (y2 ?_ ?_ (pC ?_ yN))))
   ·intro K _ f w u k
    show Wp K ⟨76, (upd 76 f 0 (rf 0 0)), _⟩
    refine s_move (d := (rf 0 0)) rfl k
   ·intro K _ f w u k
    show Wp K ⟨76, (upd 76 f 3 (rf 0 0)), [_, _, _, _, _, _, _, _]⟩
    refine s_nilCheck (d := (rf 0 0)) rfl (.inl ⟨_, _, rfl⟩) k
   ·intro K _ f w u k
    show Wp K ⟨76, (upd 76 f 4 (rf 0 0)), [_, _, _, _, _, _, _, _]⟩
    refine s_fieldRef F.fo_57_2 (by decide) rfl k
   ·intro K _ f w u k
    show Wp K ⟨76, (upd 76 f 5 (rf 0 2)), [(some (AObj.cells false [(C.ref 1 0), (C.ref 2 0), (C.ref 3 0), (C.ref 4 0)])), _, _, _, _, _, _, _]⟩
    refine s_load1 (c' := (C.ref 3 0)) F.ag_24 rfl rfl k
   ·intro K _ f w u k
    show Wp K ⟨76, (upd 76 f 0 (rf 0 0)), _⟩
    refine s_move (d := (rf 0 0)) rfl k
   ·intro K _ f w u k
    show Wp K ⟨76, (upd 76 f 7 (rf 0 0)), [_, _, _, _, _, _, _, _]⟩
    refine s_nilCheck (d := (rf 0 0)) rfl (.inl ⟨_, _, rfl⟩) k
   ·intro K _ f w u k
    show Wp K ⟨76, (upd 76 f 8 (rf 0 0)), [_, _, _, _, _, _, _, _]⟩
    refine s_fieldRef F.fo_57_3 (by decide) rfl k
   ·intro K _ f w u k
    show Wp K ⟨76, (upd 76 f 9 (rf 0 3)), [(some (AObj.cells false [(C.ref 1 0), (C.ref 2 0), (C.ref 3 0), (C.ref 4 0)])), _, _, _, _, _, _, _]⟩
    refine s_load1 (c' := (C.ref 4 0)) F.ag_51 rfl rfl k
   ·intro K _ f w u k
    show Wp K ⟨76, (upd 76 (upd 76 f 10 (rf 4 0)) 6 (rf 3 0)), [_, _, _, (o_vdisk_Disk_03 false (C.mp 5) np p3), (o_dossierref03_Disk_0 false (C.own 6 0 p4.L.length 3) p4), (om_ e_vdisk_file p3.files), (or_ e_dossierref03_File p4.L), _]⟩
    refine cc [3, 4, 5, 6] [(w 0), (w 1), (w 2), (o_vdisk_Disk_03 false (C.mp 5) np p3), (o_dossierref03_Disk_0 false (C.own 6 0 p4.L.length 3) p4), (om_ e_vdisk_file p3.files), (or_ e_dossierref03_File p4.L), (w 7)] (sb r1) F.ca_52 rfl rfl (ac (.one (.ref rfl)) (ac (.one (.ref rfl)) an)) (ac (.cells (ac (.mp rfl) (ac .sc (ac .sc (ac .sc (ac .sc an)))))) (ac (.cells (ac (.own rfl) (ac .sc (ac .sc (ac .sc an))))) (ac .map (ac (.cells (lend_row _)) an)))) (dossierplain_Same.meets _ p3 p4 r1 er1) k
   ·intro K _ f w u k
    show Wp K ⟨76, (upd 76 f 11 (sb r1)), [_, _, _, _, _, _, _, _]⟩
    refine s_not rfl k
   ·intro K _ f w u k
    show Wp K ⟨76, (upd 76 f 12 (sb (!r1))), _⟩
    refine s_move (d := (sb (!r1))) rfl k
   ·intro K _ f w u k
    show Wp K ⟨76, (upd 76 (upd 76 f 13 (sb (!r1))) 0 (rf 0 0)), _⟩
    refine AWops.guard_yes rfl (nl rfl) rfl (by rw [c2] <;> rfl) ?_
    refine s_move (d := (rf 0 0)) rfl k
   ·intro K _ f w u k
    show Wp K ⟨76, (upd 76 (upd 76 f 14 (rf 0 0)) 13 (sb (!r1))), [_, _, _, _, _, _, _, _]⟩
    refine AWops.guard_yes rfl (nl rfl) rfl (by rw [c2] <;> rfl) ?_
    refine s_nilCheck (d := (rf 0 0)) rfl (.inl ⟨_, _, rfl⟩) k
   ·intro K _ f w u k
    show Wp K ⟨76, (upd 76 (upd 76 f 15 (rf 0 0)) 13 (sb (!r1))), [_, _, _, _, _, _, _, _]⟩
    refine AWops.guard_yes rfl (nl rfl) rfl (by rw [c2] <;> rfl) ?_
    refine s_fieldRef F.fo_57_0 (by decide) rfl k
   ·intro K _ f w u k
    show Wp K ⟨76, (upd 76 (upd 76 f 16 (rf 0 0)) 13 (sb (!r1))), [(some (AObj.cells false [(C.ref 1 0), (C.ref 2 0), (C.ref 3 0), (C.ref 4 0)])), _, _, _, _, _, _, _]⟩
    refine AWops.guard_yes rfl (nl rfl) rfl (by rw [c2] <;> rfl) ?_
    refine s_load1 (c' := (C.ref 1 0)) F.ag_23 rfl rfl k
   ·intro K _ f w u k
    show Wp K ⟨76, (upd 76 (upd 76 f 17 (rf 1 0)) 13 (sb (!r1))), [_, _, _, _, _, _, _, _]⟩
    refine AWops.guard_yes rfl (nl rfl) rfl (by rw [c2] <;> rfl) ?_
    refine s_ptrNil (b := false) F.u_23 rfl (.inl ⟨⟨_, _, rfl⟩, rfl⟩) (.inl rfl) k
   ·intro K _ f w u k
    show Wp K ⟨76, (upd 76 (upd 76 f 13 (sb (!r1))) 0 (rf 0 0)), _⟩
    refine AWops.guard_yes rfl (nl rfl) rfl (by rw [c2] <;> rfl) ?_
    refine s_move (d := (rf 0 0)) rfl k
   ·intro K _ f w u k
    show Wp K ⟨76, (upd 76 (upd 76 f 19 (rf 0 0)) 13 (sb (!r1))), [_, _, _, _, _, _, _, _]⟩
    refine AWops.guard_yes rfl (nl rfl) rfl (by rw [c2] <;> rfl) ?_
    refine s_nilCheck (d := (rf 0 0)) rfl (.inl ⟨_, _, rfl⟩) k
   ·intro K _ f w u k
    show Wp K ⟨76, (upd 76 (upd 76 f 20 (rf 0 0)) 13 (sb (!r1))), [_, _, _, _, _, _, _, _]⟩
    refine AWops.guard_yes rfl (nl rfl) rfl (by rw [c2] <;> rfl) ?_
    refine s_fieldRef F.fo_57_1 (by decide) rfl k
   ·intro K _ f w u k
    show Wp K ⟨76, (upd 76 (upd 76 f 21 (rf 0 1)) 13 (sb (!r1))), [(some (AObj.cells false [(C.ref 1 0), (C.ref 2 0), (C.ref 3 0), (C.ref 4 0)])), _, _, _, _, _, _, _]⟩
    refine AWops.guard_yes rfl (nl rfl) rfl (by rw [c2] <;> rfl) ?_
    refine s_load1 (c' := (C.ref 2 0)) F.ag_55 rfl rfl k
   ·intro K _ f w u k
    show Wp K ⟨76, (upd 76 (upd 76 f 22 (rf 2 0)) 13 (sb (!r1))), [_, _, _, _, _, _, _, _]⟩
    refine AWops.guard_yes rfl (nl rfl) rfl (by rw [c2] <;> rfl) ?_
    refine s_ptrNil (b := false) F.u_55 rfl (.inl ⟨⟨_, _, rfl⟩, rfl⟩) (.inl rfl) k
   ·intro K _ f w u k
    show Wp K ⟨76, (upd 76 (upd 76 (upd 76 f 23 (sb false)) 18 (sb false)) 13 (sb (!r1))), _⟩
    refine AWops.guard_yes rfl (nl rfl) rfl (by rw [c2] <;> rfl) ?_
    refine s_binB (b := false) F.u_4 rfl rfl (.inr ⟨rfl, rfl⟩) k
   ·intro K _ f w u k
    show Wp K ⟨76, (upd 76 (upd 76 f 24 (sb false)) 13 (sb (!r1))), _⟩
    refine s_pick_no (d := (sb false)) rfl (by rw [c2] <;> rfl) rfl k
  ·refine AWops.weak (st' := ⟨76, (upd 76 (upd 76 topF 0 (rf 0 0)) 25 (sb false)), [(some (AObj.cells false [(C.ref 1 0), (C.ref 2 0), (C.ref 3 0), (C.ref 4 0)])), (o_journal_Journal_0 false (C.ref 3 0) p1), (o_dossierref04_Journal_0 false (C.ref 4 0) p2), (o_vdisk_Disk_03 false (C.mp 5) np p3), (o_dossierref03_Disk_0 false (C.own 6 0 p4.L.length 3) p4), (om_ e_vdisk_file p3.files), (or_ e_dossierref03_File p4.L)]⟩) (wg 7 [0, 1, 2, 3, 4, 5, 6] [] hx (le_upd (le_upd (le_top _) (o1 (.ref rfl))) (o1 .sc)) (ac (.cells id (ac (.ref rfl) (ac (.ref rfl) (ac (.ref rfl) (ac (.ref rfl) an))))) (ac (.cells id (ac (.ref rfl) (ac .same (ac .same (ac .sc an))))) (ac (.cells id (ac (.ref rfl) (ac .same (ac .same (ac .sc an))))) (ac (qs rfl) (ac (qo rfl) (ac .map (ac (.cells id (all2_row _)) an)))))))) (AWops.nil ?_)
   refine AW.cond_no rfl rfl (AW.skip (AW.seq ?_))
   refine AW.weak (st' := ⟨76, (upd 76 topF 0 (rf 0 0)), [(some (AObj.cells false [(C.ref 1 0), (C.ref 2 0), (C.ref 3 0), (C.ref 4 0)])), (o_journal_Journal_0 false (C.ref 3 0) p1), (o_dossierref04_Journal_0 false (C.ref 4 0) p2), (o_vdisk_Disk_03 false (C.mp 5) np p3), (o_dossierref03_Disk_0 false (C.own 6 0 p4.L.length 3) p4), (om_ e_vdisk_file p3.files), (or_ e_dossierref03_File p4.L)]⟩) (wg 7 [0, 1, 2, 3, 4, 5, 6] [] hx (le_upd (le_top _) (o1 (.ref rfl))) (ac (.cells id (ac (.ref rfl) (ac (.ref rfl) (ac (.ref rfl) (ac (.ref rfl) an))))) (ac (.cells id (ac (.ref rfl) (ac .same (ac .same (ac .sc an))))) (ac (.cells id (ac (.ref rfl) (ac .same (ac .same (ac .sc an))))) (ac (qs rfl) (ac (qo rfl) (ac .map (ac (.cells id (all2_row _)) an)))))))) ?_
   obtain ⟨r3, er3, h⟩ := bnd h
   obtain ⟨r4, er4, h⟩ := bnd h
   rcases itH h with ⟨c5, h⟩ | ⟨c5, h⟩
   ·obtain ⟨r6, er6, h⟩ := bnd h
    obtain ⟨r7, er7, h⟩ := bnd h
    rcases itH h with ⟨c8, h⟩ | ⟨c8, h⟩
    ·obtain ⟨r9, er9, h⟩ := bnd h
     refine AW.draw (n := 76) (L := 12) [(ft 0 26 (rf 0 0) [(0, (rf 0 0))]), (ft 1 27 (rf 0 0) [(26, (rf 0 0))]), (ft 2 28 (rf 0 1) [(27, (rf 0 0))]), (3, ⟨some 29, (rf 2 0), [(28, (rf 0 1))], [(0, (some (AObj.cells false [(C.ref 1 0), (C.ref 2 0), (C.ref 3 0), (C.ref 4 0)])))], [], none⟩), (ft 4 30 (sb false) [(29, (rf 2 0))]), (ft 5 31 (sb false) [(30, (sb false))]), (ft 6 32 (rf 0 0) [(0, (rf 0 0)), (31, (sb false))]), (ft 7 33 (rf 0 0) [(31, (sb false)), (32, (rf 0 0))]), (ft 8 34 (rf 0 0) [(31, (sb false)), (33, (rf 0 0))]), (9, ⟨some 35, (rf 1 0), [(31, (sb false)), (34, (rf 0 0))], [(0, (some (AObj.cells false [(C.ref 1 0), (C.ref 2 0), (C.ref 3 0), (C.ref 4 0)])))], [], none⟩), (10, ⟨some 36, (D.one (C.own 7 0 r3.1.length 1)), [(31, (sb false)), (35, (rf 1 0))], [(1, (o_journal_Journal_0 false (C.ref 3 0) p1)), (3, (o_vdisk_Disk_03 false (C.mp 5) np p3)), (5, (om_ e_vdisk_file p3.files))], [(1, (o_journal_Journal_0 false (C.ref 3 0) r3.2)), (7, (ow_ e_u8 r3.1))], some 7⟩), (ft 11 37 (rf 0 0) [(0, (rf 0 0)), (31, (sb false))]), (ft 12 38 (rf 0 0) [(31, (sb false)), (37, (rf 0 0))]), (ft 13 39 (rf 0 1) [(31, (sb false)), (38, (rf 0 0))]), (14, ⟨some 40, (rf 2 0), [(31, (sb false)), (39, (rf 0 1))], [(0, (some (AObj.cells false [(C.ref 1 0), (C.ref 2 0), (C.ref 3 0), (C.ref 4 0)])))], [], none⟩), (ft 15 41 (rf 2 0) [(31, (sb false)), (40, (rf 2 0))]), (ft 16 42 (rf 2 1) [(31, (sb false)), (41, (rf 2 0))]), (17, ⟨some 43, (ds_ e_u8 p2.Snap), [(31, (sb false)), (42, (rf 2 1))], [(2, (o_dossierref04_Journal_0 false (C.ref 4 0) p2))], [], none⟩), (18, ⟨some 44, (sb r4), [(31, (sb false)), (36, (D.one (C.own 7 0 r3.1.length 1))), (43, (ds_ e_u8 p2.Snap))], [(7, (ow_ e_u8 r3.1))], [], none⟩), (ft 19 45 (sb r4) [(31, (sb false)), (44, (sb r4))]), (ft 20 46 (rf 0 0) [(0, (rf 0 0)), (45, (sb r4))]), (ft 21 47 (rf 0 0) [(45, (sb r4)), (46, (rf 0 0))]), (ft 22 48 (rf 0 0) [(45, (sb r4)), (47, (rf 0 0))]), (23, ⟨some 49, (rf 1 0), [(45, (sb r4)), (48, (rf 0 0))], [(0, (some (AObj.cells false [(C.ref 1 0), (C.ref 2 0), (C.ref 3 0), (C.ref 4 0)])))], [], none⟩), (24, ⟨some 50, (D.one (C.own 9 0 r6.1.length 1)), [(45, (sb r4)), (49, (rf 1 0))], [(1, (o_journal_Journal_0 false (C.ref 3 0) r3.2)), (3, (o_vdisk_Disk_03 false (C.mp 5) np p3)), (5, (om_ e_vdisk_file p3.files))], [(1, (o_journal_Journal_0 false (C.ref 3 0) r6.2)), (9, (some (AObj.cells true (rowC (e_sl e_u8) r6.1))))], some 9⟩), (ft 25 51 (rf 0 0) [(0, (rf 0 0)), (45, (sb r4))]), (ft 26 52 (rf 0 0) [(45, (sb r4)), (51, (rf 0 0))]), (ft 27 53 (rf 0 1) [(45, (sb r4)), (52, (rf 0 0))]), (28, ⟨some 54, (rf 2 0), [(45, (sb r4)), (53, (rf 0 1))], [(0, (some (AObj.cells false [(C.ref 1 0), (C.ref 2 0), (C.ref 3 0), (C.ref 4 0)])))], [], none⟩), (ft 29 55 (rf 2 0) [(45, (sb r4)), (54, (rf 2 0))]), (ft 30 56 (rf 2 2) [(45, (sb r4)), (55, (rf 2 0))]), (31, ⟨some 57, (D.one (C.p false (.sl p2.L.length (p2.L.flatMap (e_sl e_u8))))), [(45, (sb r4)), (56, (rf 2 2))], [(2, (o_dossierref04_Journal_0 false (C.ref 4 0) p2))], [], none⟩), (32, ⟨some 58, (sb r7), [(45, (sb r4)), (50, (D.one (C.own 9 0 r6.1.length 1))), (57, (D.one (C.p false (.sl p2.L.length (p2.L.flatMap (e_sl e_u8))))))], [(9, (some (AObj.cells true (rowC (e_sl e_u8) r6.1))))], [], none⟩), (ft 33 59 (sb r7) [(31, (sb false)), (45, (sb r4)), (58, (sb r7))]), (ft 34 60 (sb r7) [(31, (sb false)), (59, (sb r7))]), (ft 35 61 (rf 0 0) [(0, (rf 0 0)), (60, (sb r7))]), (ft 36 62 (rf 0 0) [(60, (sb r7)), (61, (rf 0 0))]), (ft 37 63 (rf 0 0) [(60, (sb r7)), (62, (rf 0 0))]), (38, ⟨some 64, (rf 1 0), [(60, (sb r7)), (63, (rf 0 0))], [(0, (some (AObj.cells false [(C.ref 1 0), (C.ref 2 0), (C.ref 3 0), (C.ref 4 0)])))], [], none⟩), (39, ⟨some 65, (sb r9.1), [(60, (sb r7)), (64, (rf 1 0))], [(1, (o_journal_Journal_0 false (C.ref 3 0) r6.2)), (3, (o_vdisk_Disk_03 false (C.mp 5) np p3)), (5, (om_ e_vdisk_file p3.files))], [(1, (o_journal_Journal_0 false (C.ref 3 0) r9.2))], none⟩), (ft 40 66 (rf 0 0) [(0, (rf 0 0)), (60, (sb r7))]), (ft 41 67 (rf 0 0) [(60, (sb r7)), (66, (rf 0 0))]), (ft 42 68 (rf 0 1) [(60, (sb r7)), (67, (rf 0 0))]), (43, ⟨some 69, (rf 2 0), [(60, (sb r7)), (68, (rf 0 1))], [(0, (some (AObj.cells false [(C.ref 1 0), (C.ref 2 0), (C.ref 3 0), (C.ref 4 0)])))], [], none⟩), (ft 44 70 (rf 2 0) [(60, (sb r7)), (69, (rf 2 0))]), (ft 45 71 (rf 2 3) [(60, (sb r7)), (70, (rf 2 0))]), (46, ⟨some 72, (sb p2.Stop), [(60, (sb r7)), (71, (rf 2 3))], [(2, (o_dossierref04_Journal_0 false (C.ref 4 0) p2))], [], none⟩), (ft 47 73 (sb (r9.1 == p2.Stop)) [(60, (sb r7)), (65, (sb r9.1)), (72, (sb p2.Stop))]), (ft 48 74 (sb (r9.1 == p2.Stop)) [(31, (sb false)), (60, (sb r7)), (73, (sb (r9.1 == p2.Stop)))]), (ft 49 75 (sb (r9.1 == p2.Stop)) [(31, (sb false)), (74, (sb (r9.1 == p2.Stop)))]), (ft 50 2 (sb (r9.1 == p2.Stop)) [(75, (sb (r9.1 == p2.Stop)))])] [[], [0], [0, 1], [0, 1, 2], [0, 1, 2, 3], (.range 5), (.range 6), (.range 7), (.range 8), (.range 9), (.range 10), (.range 6), [0, 1, 2, 3, 4, 5, 11], [0, 1, 2, 3, 4, 5, 11, 12], [0, 1, 2, 3, 4, 5, 11, 12, 13], [0, 1, 2, 3, 4, 5, 11, 12, 13, 14], [0, 1, 2, 3, 4, 5, 11, 12, 13, 14, 15], [0, 1, 2, 3, 4, 5, 11, 12, 13, 14, 15, 16], (.range 18), (.range 19), (.range 20), (.range 21), (.range 22), (.range 23), (.range 24), (.range 20), (.range 20 ++ [25]), (.range 20 ++ [25, 26]), (.range 20 ++ [25, 26, 27]), (.range 20 ++ [25, 26, 27, 28]), (.range 20 ++ [25, 26, 27, 28, 29]), (.range 20 ++ [25, 26, 27, 28, 29, 30]), (.range 32), (.range 33), (.range 34), (.range 35), (.range 36), (.range 37), (.range 38), (.range 39), (.range 35), (.range 35 ++ [40]), (.range 35 ++ [40, 41]), (.range 35 ++ [40, 41, 42]), (.range 35 ++ [40, 41, 42, 43]), (.range 35 ++ [40, 41, 42, 43, 44]), (.range 35 ++ [40, 41, 42, 43, 44, 45]), (.range 47), (.range 48), (.range 49), (.range 50)] (nl rfl) (.range 11 ++ [6, 7, 8, 9, 10, 11, 12, 13, 14, 15, 16, 17, 18, 19, 15, 16, 17, 18, 19, 20, 21, 22, 23, 24, 25, 26, 27, 28, 29, 25, 26, 27, 28, 29, 30, 31, 32, 33, 34, 35]) rfl (TK := [(10, 7), (24, 9)]) rfl (AllK.cons' ⟨(tk_upd tk_top rfl), (tC rfl (tC rfl (tC rfl (tC rfl (tC rfl (tC rfl (tC (tkO_row _) AllT.nil'))))))), (by repeat (first | refine fC (.inl rfl) ?_ | refine fC (.inr rfl) ?_ | refine fC (.inr (by unfold tkFoot; simp only [List.all_cons, List.all_nil, tkO_row, Bool.and_true, Bool.true_and]; rfl)) ?_ | trivial))⟩ (AllK.cons' ⟨(tk_upd tk_top rfl), (tC rfl (tC rfl (tC rfl (tC rfl (tC rfl (tC rfl (tC (tkO_row _) AllT.nil'))))))), (by repeat (first | refine fC (.inl rfl) ?_ | refine fC (.inr rfl) ?_ | refine fC (.inr (by unfold tkFoot; simp only [List.all_cons, List.all_nil, tkO_row, Bool.and_true, Bool.true_and]; rfl)) ?_ | trivial))⟩ AllK.nil')) (by repeat (first | refine fC ⟨?_, ?_⟩ ?_ | refine sC rfl ?_ | refine hC rfl ?_ | trivial)) ?_ ?_
     ·refine y8 ?_ ?_ ?_ ?_ ?_ ?_ ?_ ?_ (y8 ?_ ?_ ?_ ?_ ?_ ?_ ?_ ?_ (y8 ?_ ?_ ?_ ?_ ?_ ?_ ?_ ?_ (y8 ?_ ?_ ?_ ?_ ?_ ?_ ?_ ?_ (y8 ?_ ?_ ?_ ?_ ?_ ?_ ?_ ?_ (y8 ?_ ?_ ?_ ?_ ?_ ?_ ?_ ?_ (y2 ?_ ?_ (pC ?_ yN)))))))
      ·intro K _ f w u k
       show Wp K ⟨76, (upd 76 f 0 (rf 0 0)), _⟩
       refine s_move (d := (rf 0 0)) rfl k
      ·intro K _ f w u k
       show Wp K ⟨76, (upd 76 f 26 (rf 0 0)), [_, _, _, _, _, _, _, _, _, _, _, _]⟩
       refine s_nilCheck (d := (rf 0 0)) rfl (.inl ⟨_, _, rfl⟩) k
      ·intro K _ f w u k
       show Wp K ⟨76, (upd 76 f 27 (rf 0 0)), [_, _, _, _, _, _, _, _, _, _, _, _]⟩
       refine s_fieldRef F.fo_57_1 (by decide) rfl k
      ·intro K _ f w u k
       show Wp K ⟨76, (upd 76 f 28 (rf 0 1)), [(some (AObj.cells false [(C.ref 1 0), (C.ref 2 0), (C.ref 3 0), (C.ref 4 0)])), _, _, _, _, _, _, _, _, _, _, _]⟩
       refine s_load1 (c' := (C.ref 2 0)) F.ag_55 rfl rfl k
      ·intro K _ f w u k
       show Wp K ⟨76, (upd 76 f 29 (rf 2 0)), [_, _, _, _, _, _, _, _, _, _, _, _]⟩
       refine s_ptrNil (b := false) F.u_55 rfl (.inl ⟨⟨_, _, rfl⟩, rfl⟩) (.inl rfl) k
      ·intro K _ f w u k
       show Wp K ⟨76, (upd 76 f 30 (sb false)), _⟩
       refine s_move (d := (sb false)) rfl k
      ·intro K _ f w u k
       show Wp K ⟨76, (upd 76 (upd 76 f 31 (sb false)) 0 (rf 0 0)), _⟩
       refine AWops.guard_yes rfl (nl rfl) rfl rfl ?_
       refine s_move (d := (rf 0 0)) rfl k
      ·intro K _ f w u k
       show Wp K ⟨76, (upd 76 (upd 76 f 32 (rf 0 0)) 31 (sb false)), [_, _, _, _, _, _, _, _, _, _, _, _]⟩
       refine AWops.guard_yes rfl (nl rfl) rfl rfl ?_
       refine s_nilCheck (d := (rf 0 0)) rfl (.inl ⟨_, _, rfl⟩) k
      ·intro K _ f w u k
       show Wp K ⟨76, (upd 76 (upd 76 f 33 (rf 0 0)) 31 (sb false)), [_, _, _, _, _, _, _, _, _, _, _, _]⟩
       refine AWops.guard_yes rfl (nl rfl) rfl rfl ?_
       refine s_fieldRef F.fo_57_0 (by decide) rfl k
      ·intro K _ f w u k
       show Wp K ⟨76, (upd 76 (upd 76 f 34 (rf 0 0)) 31 (sb false)), [(some (AObj.cells false [(C.ref 1 0), (C.ref 2 0), (C.ref 3 0), (C.ref 4 0)])), _, _, _, _, _, _, _, _, _, _, _]⟩
       refine AWops.guard_yes rfl (nl rfl) rfl rfl ?_
       refine s_load1 (c' := (C.ref 1 0)) F.ag_23 rfl rfl k
      ·intro K _ f w u k
       show Wp K ⟨76, (upd 76 (upd 76 f 35 (rf 1 0)) 31 (sb false)), [_, (o_journal_Journal_0 false (C.ref 3 0) p1), _, (o_vdisk_Disk_03 false (C.mp 5) np p3), _, (om_ e_vdisk_file p3.files), _, _, _, _, _, _]⟩
       refine AWops.guard_yes rfl (nl rfl) rfl rfl ?_
       refine cc [1, 3, 5] [(w 0), (o_journal_Journal_0 false (C.ref 3 0) r3.2), (w 2), (o_vdisk_Disk_03 false (C.mp 5) np p3), (w 4), (om_ e_vdisk_file p3.files), (w 6), (w 7), (w 8), (w 9), (w 10), (w 11), (ow_ e_u8 r3.1)] (D.one (C.own 12 0 r3.1.length 1)) F.ca_9 rfl rfl (ac (.one (.ref rfl)) an) (ac (.cells (ac (.ref rfl) (ac .imm (ac .imm (ac .sc an))))) (ac (.cells (ac (.mp rfl) (ac .sc (ac .sc (ac .sc (ac .sc an)))))) (ac .map an))) (journal_Journal_Snapshot.meets _ (⟨(), p1.snap, p1.l, p1.stopped⟩ : journal_Journal) p3 r3 er3) ?_
       refine AWops.weak (st' := ⟨76, (upd 76 (upd 76 (upd 76 f 35 (rf 1 0)) 31 (sb false)) 36 (D.one (C.own 7 0 r3.1.length 1))), [(w 0), (o_journal_Journal_0 false (C.ref 3 0) r3.2), (w 2), (o_vdisk_Disk_03 false (C.mp 5) np p3), (w 4), (om_ e_vdisk_file p3.files), (w 6), (ow_ e_u8 r3.1), (w 8), (w 9), (w 10), (w 11)]⟩) (wg 7 [0, 1, 2, 3, 4, 5, 6, 12, 8, 9, 10, 11] [] hx (le_upd2 (le_ok (p := 7) (L := 12) rfl (u 7 rfl).1) (o1 (.own rfl))) (ac (oq 7 12 (u 7 rfl) 0) (ac (.cells id (ac (.ref rfl) (ac .same (ac .same (ac .sc an))))) (ac (oq 7 12 (u 7 rfl) 2) (ac (qs rfl) (ac (oq 7 12 (u 7 rfl) 4) (ac .map (ac (oq 7 12 (u 7 rfl) 6) (ac (.cells (fun _ => rfl) (all2_row _)) (ac (oq 7 12 (u 7 rfl) 8) (ac (oq 7 12 (u 7 rfl) 9) (ac (oq 7 12 (u 7 rfl) 10) (ac (oq 7 12 (u 7 rfl) 11) an))))))))))))) k
      ·intro K _ f w u k
       show Wp K ⟨76, (upd 76 (upd 76 f 31 (sb false)) 0 (rf 0 0)), _⟩
       refine AWops.guard_yes rfl (nl rfl) rfl rfl ?_
       refine s_move (d := (rf 0 0)) rfl k
      ·intro K _ f w u k
       show Wp K ⟨76, (upd 76 (upd 76 f 37 (rf 0 0)) 31 (sb false)), [_, _, _, _, _, _, _, _, _, _, _, _]⟩
       refine AWops.guard_yes rfl (nl rfl) rfl rfl ?_
       refine s_nilCheck (d := (rf 0 0)) rfl (.inl ⟨_, _, rfl⟩) k
      ·intro K _ f w u k
       show Wp K ⟨76, (upd 76 (upd 76 f 38 (rf 0 0)) 31 (sb false)), [_, _, _, _, _, _, _, _, _, _, _, _]⟩
       refine AWops.guard_yes rfl (nl rfl) rfl rfl ?_
       refine s_fieldRef F.fo_57_1 (by decide) rfl k
      ·intro K _ f w u k
       show Wp K ⟨76, (upd 76 (upd 76 f 39 (rf 0 1)) 31 (sb false)), [(some (AObj.cells false [(C.ref 1 0), (C.ref 2 0), (C.ref 3 0), (C.ref 4 0)])), _, _, _, _, _, _, _, _, _, _, _]⟩
       refine AWops.guard_yes rfl (nl rfl) rfl rfl ?_
       refine s_load1 (c' := (C.ref 2 0)) F.ag_55 rfl rfl k
      ·intro K _ f w u k
       show Wp K ⟨76, (upd 76 (upd 76 f 40 (rf 2 0)) 31 (sb false)), [_, _, _, _, _, _, _, _, _, _, _, _]⟩
       refine AWops.guard_yes rfl (nl rfl) rfl rfl ?_
       refine s_nilCheck (d := (rf 2 0)) rfl (.inl ⟨_, _, rfl⟩) k
      ·intro K _ f w u k
       show Wp K ⟨76, (upd 76 (upd 76 f 41 (rf 2 0)) 31 (sb false)), [_, _, _, _, _, _, _, _, _, _, _, _]⟩
       refine AWops.guard_yes rfl (nl rfl) rfl rfl ?_
       refine s_fieldRef F.fo_92_1 (by decide) rfl k
      ·intro K _ f w u k
       show Wp K ⟨76, (upd 76 (upd 76 f 42 (rf 2 1)) 31 (sb false)), [_, _, (o_dossierref04_Journal_0 false (C.ref 4 0) p2), _, _, _, _, _, _, _, _, _]⟩
       refine AWops.guard_yes rfl (nl rfl) rfl rfl ?_
       refine s_load1 (c' := (cl_ e_u8 p2.Snap)) F.ag_22 rfl rfl k
      ·intro K _ f w u k
       show Wp K ⟨76, (upd 76 (upd 76 (upd 76 f 43 (ds_ e_u8 p2.Snap)) 36 (D.one (C.own 7 0 r3.1.length 1))) 31 (sb false)), [_, _, _, _, _, _, _, (ow_ e_u8 r3.1), _, _, _, _]⟩
       refine AWops.guard_yes rfl (nl rfl) rfl rfl ?_
       refine s_call2 (ρ := []) (br := true) (H2 := [(w 0), (w 1), (w 2), (w 3), (w 4), (w 5), (w 6), (ow_ e_u8 r3.1), (w 8), (w 9), (w 10), (w 11)]) (d := (sb r4)) F.ca_17 rfl rfl (ac (.one (LendC.bor e_u8_len rfl rfl rfl)) (ac (.one .imm) an)) an (by decide) rfl (bytes_Equal.meets _ r3.1 p2.Snap r4 er4) (.inr ⟨rfl, rfl⟩) rfl rfl k
      ·intro K _ f w u k
       show Wp K ⟨76, (upd 76 (upd 76 f 44 (sb r4)) 31 (sb false)), _⟩
       refine AWops.guard_yes rfl (nl rfl) rfl rfl ?_
       refine s_move (d := (sb r4)) rfl k
      ·intro K _ f w u k
       show Wp K ⟨76, (upd 76 (upd 76 f 45 (sb r4)) 0 (rf 0 0)), _⟩
       refine AWops.guard_yes rfl (nl rfl) rfl c5 ?_
       refine s_move (d := (rf 0 0)) rfl k
      ·intro K _ f w u k
       show Wp K ⟨76, (upd 76 (upd 76 f 46 (rf 0 0)) 45 (sb r4)), [_, _, _, _, _, _, _, _, _, _, _, _]⟩
       refine AWops.guard_yes rfl (nl rfl) rfl c5 ?_
       refine s_nilCheck (d := (rf 0 0)) rfl (.inl ⟨_, _, rfl⟩) k
      ·intro K _ f w u k
       show Wp K ⟨76, (upd 76 (upd 76 f 47 (rf 0 0)) 45 (sb r4)), [_, _, _, _, _, _, _, _, _, _, _, _]⟩
       refine AWops.guard_yes rfl (nl rfl) rfl c5 ?_
       refine s_fieldRef F.fo_57_0 (by decide) rfl k
      ·intro K _ f w u k
       show Wp K ⟨76, (upd 76 (upd 76 f 48 (rf 0 0)) 45 (sb r4)), [(some (AObj.cells false [(C.ref 1 0), (C.ref 2 0), (C.ref 3 0), (C.ref 4 0)])), _, _, _, _, _, _, _, _, _, _, _]⟩
       refine AWops.guard_yes rfl (nl rfl) rfl c5 ?_
       refine s_load1 (c' := (C.ref 1 0)) F.ag_23 rfl rfl k
      ·intro K _ f w u k
       show Wp K ⟨76, (upd 76 (upd 76 f 49 (rf 1 0)) 45 (sb r4)), [_, (o_journal_Journal_0 false (C.ref 3 0) r3.2), _, (o_vdisk_Disk_03 false (C.mp 5) np p3), _, (om_ e_vdisk_file p3.files), _, _, _, _, _, _]⟩
       refine AWops.guard_yes rfl (nl rfl) rfl c5 ?_
       refine cc [1, 3, 5] [(w 0), (o_journal_Journal_0 false (C.ref 3 0) r6.2), (w 2), (o_vdisk_Disk_03 false (C.mp 5) np p3), (w 4), (om_ e_vdisk_file p3.files), (w 6), (w 7), (w 8), (w 9), (w 10), (w 11), (some (AObj.cells true (rowC (e_sl e_u8) r6.1)))] (D.one (C.own 12 0 r6.1.length 1)) F.ca_10 rfl rfl (ac (.one (.ref rfl)) an) (ac (.cells (ac (.ref rfl) (ac .imm (ac .imm (ac .sc an))))) (ac (.cells (ac (.mp rfl) (ac .sc (ac .sc (ac .sc (ac .sc an)))))) (ac .map an))) (journal_Journal_Records.meets _ (⟨(), r3.2.snap, r3.2.l, r3.2.stopped⟩ : journal_Journal) p3 r6 er6) ?_
       refine AWops.weak (st' := ⟨76, (upd 76 (upd 76 (upd 76 f 49 (rf 1 0)) 45 (sb r4)) 50 (D.one (C.own 9 0 r6.1.length 1))), [(w 0), (o_journal_Journal_0 false (C.ref 3 0) r6.2), (w 2), (o_vdisk_Disk_03 false (C.mp 5) np p3), (w 4), (om_ e_vdisk_file p3.files), (w 6), (w 7), (w 8), (some (AObj.cells true (rowC (e_sl e_u8) r6.1))), (w 10), (w 11)]⟩) (wg 7 [0, 1, 2, 3, 4, 5, 6, 7, 8, 12, 10, 11] [] hx (le_upd2 (le_ok (p := 9) (L := 12) rfl (u 9 rfl).1) (o1 (.own rfl))) (ac (oq 9 12 (u 9 rfl) 0) (ac (.cells id (ac (.ref rfl) (ac .same (ac .same (ac .sc an))))) (ac (oq 9 12 (u 9 rfl) 2) (ac (qs rfl) (ac (oq 9 12 (u 9 rfl) 4) (ac .map (ac (oq 9 12 (u 9 rfl) 6) (ac (oq 9 12 (u 9 rfl) 7) (ac (oq 9 12 (u 9 rfl) 8) (ac (.cells (fun _ => rfl) (all2_row _)) (ac (oq 9 12 (u 9 rfl) 10) (ac (oq 9 12 (u 9 rfl) 11) an))))))))))))) k
      ·intro K _ f w u k
       show Wp K ⟨76, (upd 76 (upd 76 f 45 (sb r4)) 0 (rf 0 0)), _⟩
       refine AWops.guard_yes rfl (nl rfl) rfl c5 ?_
       refine s_move (d := (rf 0 0)) rfl k
      ·intro K _ f w u k
       show Wp K ⟨76, (upd 76 (upd 76 f 51 (rf 0 0)) 45 (sb r4)), [_, _, _, _, _, _, _, _, _, _, _, _]⟩
       refine AWops.guard_yes rfl (nl rfl) rfl c5 ?_
       refine s_nilCheck (d := (rf 0 0)) rfl (.inl ⟨_, _, rfl⟩) k
      ·intro K _ f w u k
       show Wp K ⟨76, (upd 76 (upd 76 f 52 (rf 0 0)) 45 (sb r4)), [_, _, _, _, _, _, _, _, _, _, _, _]⟩
       refine AWops.guard_yes rfl (nl rfl) rfl c5 ?_
       refine s_fieldRef F.fo_57_1 (by decide) rfl k
      ·intro K _ f w u k
       show Wp K ⟨76, (upd 76 (upd 76 f 53 (rf 0 1)) 45 (sb r4)), [(some (AObj.cells false [(C.ref 1 0), (C.ref 2 0), (C.ref 3 0), (C.ref 4 0)])), _, _, _, _, _, _, _, _, _, _, _]⟩
       refine AWops.guard_yes rfl (nl rfl) rfl c5 ?_
       refine s_load1 (c' := (C.ref 2 0)) F.ag_55 rfl rfl k
      ·intro K _ f w u k
       show Wp K ⟨76, (upd 76 (upd 76 f 54 (rf 2 0)) 45 (sb r4)), [_, _, _, _, _, _, _, _, _, _, _, _]⟩
       refine AWops.guard_yes rfl (nl rfl) rfl c5 ?_
       refine s_nilCheck (d := (rf 2 0)) rfl (.inl ⟨_, _, rfl⟩) k
      ·intro K _ f w u k
       show Wp K ⟨76, (upd 76 (upd 76 f 55 (rf 2 0)) 45 (sb r4)), [_, _, _, _, _, _, _, _, _, _, _, _]⟩
       refine AWops.guard_yes rfl (nl rfl) rfl c5 ?_
       refine s_fieldRef F.fo_92_2 (by decide) rfl k
      ·intro K _ f w u k
       show Wp K ⟨76, (upd 76 (upd 76 f 56 (rf 2 2)) 45 (sb r4)), [_, _, (o_dossierref04_Journal_0 false (C.ref 4 0) p2), _, _, _, _, _, _, _, _, _]⟩
       refine AWops.guard_yes rfl (nl rfl) rfl c5 ?_
       refine s_load1 (c' := (C.p false (.sl p2.L.length (p2.L.flatMap (e_sl e_u8))))) F.ag_25 rfl rfl k
      ·intro K _ f w u k
       show Wp K ⟨76, (upd 76 (upd 76 (upd 76 f 57 (D.one (C.p false (.sl p2.L.length (p2.L.flatMap (e_sl e_u8)))))) 50 (D.one (C.own 9 0 r6.1.length 1))) 45 (sb r4)), [_, _, _, _, _, _, _, _, _, (some (AObj.cells true (rowC (e_sl e_u8) r6.1))), _, _]⟩
       refine AWops.guard_yes rfl (nl rfl) rfl c5 ?_
       refine s_call2 (ρ := []) (br := true) (H2 := [(w 0), (w 1), (w 2), (w 3), (w 4), (w 5), (w 6), (w 7), (w 8), (some (AObj.cells true (rowC (e_sl e_u8) r6.1))), (w 10), (w 11)]) (d := (sb r7)) F.ca_18 rfl rfl (ac (.one (LendC.bor (e_sl_len _) rfl rfl rfl)) (ac (.one .imm) an)) an (by decide) rfl (dossierplain_SameTexts.meets _ r6.1 p2.L r7 er7) (.inr ⟨rfl, rfl⟩) rfl rfl k
      ·intro K _ f w u k
       show Wp K ⟨76, (upd 76 (upd 76 (upd 76 f 58 (sb r7)) 45 (sb r4)) 31 (sb false)), _⟩
       refine AWops.guard_yes rfl (nl rfl) rfl rfl ?_
       refine s_pick_yes (d := (sb r7)) rfl c5 rfl k
      ·intro K _ f w u k
       show Wp K ⟨76, (upd 76 (upd 76 f 59 (sb r7)) 31 (sb false)), _⟩
       refine AWops.guard_yes rfl (nl rfl) rfl rfl ?_
       refine s_move (d := (sb r7)) rfl k
      ·intro K _ f w u k
       show Wp K ⟨76, (upd 76 (upd 76 f 60 (sb r7)) 0 (rf 0 0)), _⟩
       refine AWops.guard_yes rfl (nl rfl) rfl c8 ?_
       refine s_move (d := (rf 0 0)) rfl k
      ·intro K _ f w u k
       show Wp K ⟨76, (upd 76 (upd 76 f 61 (rf 0 0)) 60 (sb r7)), [_, _, _, _, _, _, _, _, _, _, _, _]⟩
       refine AWops.guard_yes rfl (nl rfl) rfl c8 ?_
       refine s_nilCheck (d := (rf 0 0)) rfl (.inl ⟨_, _, rfl⟩) k
      ·intro K _ f w u k
       show Wp K ⟨76, (upd 76 (upd 76 f 62 (rf 0 0)) 60 (sb r7)), [_, _, _, _, _, _, _, _, _, _, _, _]⟩
       refine AWops.guard_yes rfl (nl rfl) rfl c8 ?_
       refine s_fieldRef F.fo_57_0 (by decide) rfl k
      ·intro K _ f w u k
       show Wp K ⟨76, (upd 76 (upd 76 f 63 (rf 0 0)) 60 (sb r7)), [(some (AObj.cells false [(C.ref 1 0), (C.ref 2 0), (C.ref 3 0), (C.ref 4 0)])), _, _, _, _, _, _, _, _, _, _, _]⟩
       refine AWops.guard_yes rfl (nl rfl) rfl c8 ?_
       refine s_load1 (c' := (C.ref 1 0)) F.ag_23 rfl rfl k
      ·intro K _ f w u k
       show Wp K ⟨76, (upd 76 (upd 76 f 64 (rf 1 0)) 60 (sb r7)), [_, (o_journal_Journal_0 false (C.ref 3 0) r6.2), _, (o_vdisk_Disk_03 false (C.mp 5) np p3), _, (om_ e_vdisk_file p3.files), _, _, _, _, _, _]⟩
       refine AWops.guard_yes rfl (nl rfl) rfl c8 ?_
       refine cc [1, 3, 5] [(w 0), (o_journal_Journal_0 false (C.ref 3 0) r9.2), (w 2), (o_vdisk_Disk_03 false (C.mp 5) np p3), (w 4), (om_ e_vdisk_file p3.files), (w 6), (w 7), (w 8), (w 9), (w 10), (w 11)] (sb r9.1) F.ca_11 rfl rfl (ac (.one (.ref rfl)) an) (ac (.cells (ac (.ref rfl) (ac .imm (ac .imm (ac .sc an))))) (ac (.cells (ac (.mp rfl) (ac .sc (ac .sc (ac .sc (ac .sc an)))))) (ac .map an))) (journal_Journal_Stopped.meets _ (⟨(), r6.2.snap, r6.2.l, r6.2.stopped⟩ : journal_Journal) p3 r9 er9) k
      ·intro K _ f w u k
       show Wp K ⟨76, (upd 76 (upd 76 f 60 (sb r7)) 0 (rf 0 0)), _⟩
       refine AWops.guard_yes rfl (nl rfl) rfl c8 ?_
       refine s_move (d := (rf 0 0)) rfl k
      ·intro K _ f w u k
       show Wp K ⟨76, (upd 76 (upd 76 f 66 (rf 0 0)) 60 (sb r7)), [_, _, _, _, _, _, _, _, _, _, _, _]⟩
       refine AWops.guard_yes rfl (nl rfl) rfl c8 ?_
       refine s_nilCheck (d := (rf 0 0)) rfl (.inl ⟨_, _, rfl⟩) k
      ·intro K _ f w u k
       show Wp K ⟨76, (upd 76 (upd 76 f 67 (rf 0 0)) 60 (sb r7)), [_, _, _, _, _, _, _, _, _, _, _, _]⟩
       refine AWops.guard_yes rfl (nl rfl) rfl c8 ?_
       refine s_fieldRef F.fo_57_1 (by decide) rfl k
      ·intro K _ f w u k
       show Wp K ⟨76, (upd 76 (upd 76 f 68 (rf 0 1)) 60 (sb r7)), [(some (AObj.cells false [(C.ref 1 0), (C.ref 2 0), (C.ref 3 0), (C.ref 4 0)])), _, _, _, _, _, _, _, _, _, _, _]⟩
       refine AWops.guard_yes rfl (nl rfl) rfl c8 ?_
       refine s_load1 (c' := (C.ref 2 0)) F.ag_55 rfl rfl k
      ·intro K _ f w u k
       show Wp K ⟨76, (upd 76 (upd 76 f 69 (rf 2 0)) 60 (sb r7)), [_, _, _, _, _, _, _, _, _, _, _, _]⟩
       refine AWops.guard_yes rfl (nl rfl) rfl c8 ?_
       refine s_nilCheck (d := (rf 2 0)) rfl (.inl ⟨_, _, rfl⟩) k
      ·intro K _ f w u k
       show Wp K ⟨76, (upd 76 (upd 76 f 70 (rf 2 0)) 60 (sb r7)), [_, _, _, _, _, _, _, _, _, _, _, _]⟩
       refine AWops.guard_yes rfl (nl rfl) rfl c8 ?_
       refine s_fieldRef F.fo_92_3 (by decide) rfl k
      ·intro K _ f w u k
       show Wp K ⟨76, (upd 76 (upd 76 f 71 (rf 2 3)) 60 (sb r7)), [_, _, (o_dossierref04_Journal_0 false (C.ref 4 0) p2), _, _, _, _, _, _, _, _, _]⟩
       refine AWops.guard_yes rfl (nl rfl) rfl c8 ?_
       refine s_load1 (c' := (cb p2.Stop)) F.ag_4 rfl rfl k
      ·intro K _ f w u k
       show Wp K ⟨76, (upd 76 (upd 76 (upd 76 f 72 (sb p2.Stop)) 65 (sb r9.1)) 60 (sb r7)), _⟩
       refine AWops.guard_yes rfl (nl rfl) rfl c8 ?_
       refine s_binB (b := (r9.1 == p2.Stop)) F.u_4 rfl rfl (.inl ⟨rfl, rfl⟩) k
      ·intro K _ f w u k
       show Wp K ⟨76, (upd 76 (upd 76 (upd 76 f 73 (sb (r9.1 == p2.Stop))) 60 (sb r7)) 31 (sb false)), _⟩
       refine AWops.guard_yes rfl (nl rfl) rfl rfl ?_
       refine s_pick_yes (d := (sb (r9.1 == p2.Stop))) rfl c8 rfl k
      ·intro K _ f w u k
       show Wp K ⟨76, (upd 76 (upd 76 f 74 (sb (r9.1 == p2.Stop))) 31 (sb false)), _⟩
       refine s_pick_no (d := (sb (r9.1 == p2.Stop))) rfl rfl rfl k
      ·intro K _ f w u k
       show Wp K ⟨76, (upd 76 f 75 (sb (r9.1 == p2.Stop))), _⟩
       refine s_assign (d := (sb (r9.1 == p2.Stop))) rfl k
     ·refine AWops.weak (st' := ⟨76, (upd 76 topF 2 (sb (r9.1 == p2.Stop))), [(some (AObj.cells false [(C.ref 1 0), (C.ref 2 0), (C.ref 3 0), (C.ref 4 0)])), (o_journal_Journal_0 false (C.ref 3 0) r9.2), (o_dossierref04_Journal_0 false (C.ref 4 0) p2), (o_vdisk_Disk_03 false (C.mp 5) np p3), (o_dossierref03_Disk_0 false (C.own 6 0 p4.L.length 3) p4), (om_ e_vdisk_file p3.files), (or_ e_dossierref03_File p4.L)]⟩) (wg 7 [0, 1, 2, 3, 4, 5, 6] [] hx (le_upd (le_top _) (o1 .sc)) (ac (.cells id (ac (.ref rfl) (ac (.ref rfl) (ac (.ref rfl) (ac (.ref rfl) an))))) (ac (.cells id (ac (.ref rfl) (ac .same (ac .same (ac .sc an))))) (ac (.cells id (ac (.ref rfl) (ac .same (ac .same (ac .sc an))))) (ac (qs rfl) (ac (qo rfl) (ac .map (ac (.cells id (all2_row _)) an)))))))) (AWops.nil (AW.ret ?_))
      obtain rfl := Option.some.inj h
      exact ⟨_, rfl, (wg 7 [0, 1, 2, 3, 4, 5, 6] [] rfl (le_upd (le_top _) (o1 .sc)) (ac (.cells id (ac (.ref rfl) (ac (.ref rfl) (ac (.ref rfl) (ac (.ref rfl) an))))) (ac (.cells id (ac (.ref rfl) (ac .same (ac .same (ac .sc an))))) (ac (.cells id (ac (.ref rfl) (ac .same (ac .same (ac .sc an))))) (ac (qs rfl) (ac (qo rfl) (ac .map (ac (.cells id (all2_row _)) an))))))))⟩
    ·refine AW.draw (n := 76) (L := 12) [(ft 0 26 (rf 0 0) [(0, (rf 0 0))]), (ft 1 27 (rf 0 0) [(26, (rf 0 0))]), (ft 2 28 (rf 0 1) [(27, (rf 0 0))]), (3, ⟨some 29, (rf 2 0), [(28, (rf 0 1))], [(0, (some (AObj.cells false [(C.ref 1 0), (C.ref 2 0), (C.ref 3 0), (C.ref 4 0)])))], [], none⟩), (ft 4 30 (sb false) [(29, (rf 2 0))]), (ft 5 31 (sb false) [(30, (sb false))]), (ft 6 32 (rf 0 0) [(0, (rf 0 0)), (31, (sb false))]), (ft 7 33 (rf 0 0) [(31, (sb false)), (32, (rf 0 0))]), (ft 8 34 (rf 0 0) [(31, (sb false)), (33, (rf 0 0))]), (9, ⟨some 35, (rf 1 0), [(31, (sb false)), (34, (rf 0 0))], [(0, (some (AObj.cells false [(C.ref 1 0), (C.ref 2 0), (C.ref 3 0), (C.ref 4 0)])))], [], none⟩), (10, ⟨some 36, (D.one (C.own 7 0 r3.1.length 1)), [(31, (sb false)), (35, (rf 1 0))], [(1, (o_journal_Journal_0 false (C.ref 3 0) p1)), (3, (o_vdisk_Disk_03 false (C.mp 5) np p3)), (5, (om_ e_vdisk_file p3.files))], [(1, (o_journal_Journal_0 false (C.ref 3 0) r3.2)), (7, (ow_ e_u8 r3.1))], some 7⟩), (ft 11 37 (rf 0 0) [(0, (rf 0 0)), (31, (sb false))]), (ft 12 38 (rf 0 0) [(31, (sb false)), (37, (rf 0 0))]), (ft 13 39 (rf 0 1) [(31, (sb false)), (38, (rf 0 0))]), (14, ⟨some 40, (rf 2 0), [(31, (sb false)), (39, (rf 0 1))], [(0, (some (AObj.cells false [(C.ref 1 0), (C.ref 2 0), (C.ref 3 0), (C.ref 4 0)])))], [], none⟩), (ft 15 41 (rf 2 0) [(31, (sb false)), (40, (rf 2 0))]), (ft 16 42 (rf 2 1) [(31, (sb false)), (41, (rf 2 0))]), (17, ⟨some 43, (ds_ e_u8 p2.Snap), [(31, (sb false)), (42, (rf 2 1))], [(2, (o_dossierref04_Journal_0 false (C.ref 4 0) p2))], [], none⟩), (18, ⟨some 44, (sb r4), [(31, (sb false)), (36, (D.one (C.own 7 0 r3.1.length 1))), (43, (ds_ e_u8 p2.Snap))], [(7, (ow_ e_u8 r3.1))], [], none⟩), (ft 19 45 (sb r4) [(31, (sb false)), (44, (sb r4))]), (ft 20 46 (rf 0 0) [(0, (rf 0 0)), (45, (sb r4))]), (ft 21 47 (rf 0 0) [(45, (sb r4)), (46, (rf 0 0))]), (ft 22 48 (rf 0 0) [(45, (sb r4)), (47, (rf 0 0))]), (23, ⟨some 49, (rf 1 0), [(45, (sb r4)), (48, (rf 0 0))], [(0, (some (AObj.cells false [(C.ref 1 0), (C.ref 2 0), (C.ref 3 0), (C.ref 4 0)])))], [], none⟩), (24, ⟨some 50, (D.one (C.own 9 0 r6.1.length 1)), [(45, (sb r4)), (49, (rf 1 0))], [(1, (o_journal_Journal_0 false (C.ref 3 0) r3.2)), (3, (o_vdisk_Disk_03 false (C.mp 5) np p3)), (5, (om_ e_vdisk_file p3.files))], [(1, (o_journal_Journal_0 false (C.ref 3 0) r6.2)), (9, (some (AObj.cells true (rowC (e_sl e_u8) r6.1))))], some 9⟩), (ft 25 51 (rf 0 0) [(0, (rf 0 0)), (45, (sb r4))]), (ft 26 52 (rf 0 0) [(45, (sb r4)), (51, (rf 0 0))]), (ft 27 53 (rf 0 1) [(45, (sb r4)), (52, (rf 0 0))]), (28, ⟨some 54, (rf 2 0), [(45, (sb r4)), (53, (rf 0 1))], [(0, (some (AObj.cells false [(C.ref 1 0), (C.ref 2 0), (C.ref 3 0), (C.ref 4 0)])))], [], none⟩), (ft 29 55 (rf 2 0) [(45, (sb r4)), (54, (rf 2 0))]), (ft 30 56 (rf 2 2) [(45, (sb r4)), (55, (rf 2 0))]), (31, ⟨some 57, (D.one (C.p false (.sl p2.L.length (p2.L.flatMap (e_sl e_u8))))), [(45, (sb r4)), (56, (rf 2 2))], [(2, (o_dossierref04_Journal_0 false (C.ref 4 0) p2))], [], none⟩), (32, ⟨some 58, (sb r7), [(45, (sb r4)), (50, (D.one (C.own 9 0 r6.1.length 1))), (57, (D.one (C.p false (.sl p2.L.length (p2.L.flatMap (e_sl e_u8))))))], [(9, (some (AObj.cells true (rowC (e_sl e_u8) r6.1))))], [], none⟩), (ft 33 59 (sb r7) [(31, (sb false)), (45, (sb r4)), (58, (sb r7))]), (ft 34 60 (sb r7) [(31, (sb false)), (59, (sb r7))]), (ft 35 61 (D.tup []) [(0, (rf 0 0)), (60, (sb r7))]), (ft 36 62 (D.tup []) [(60, (sb r7))]), (ft 37 63 (D.tup []) [(60, (sb r7))]), (ft 38 64 (D.tup []) [(60, (sb r7))]), (ft 39 65 (D.tup []) [(60, (sb r7))]), (ft 40 66 (D.tup []) [(60, (sb r7))]), (ft 41 67 (D.tup []) [(60, (sb r7))]), (ft 42 68 (D.tup []) [(60, (sb r7))]), (ft 43 69 (D.tup []) [(60, (sb r7))]), (ft 44 70 (D.tup []) [(60, (sb r7))]), (ft 45 71 (D.tup []) [(60, (sb r7))]), (ft 46 72 (D.tup []) [(60, (sb r7))]), (ft 47 73 (D.tup []) [(60, (sb r7))]), (ft 48 74 (sb false) [(31, (sb false)), (60, (sb r7))]), (ft 49 75 (sb false) [(31, (sb false)), (74, (sb false))]), (ft 50 2 (sb false) [(75, (sb false))])] [[], [0], [0, 1], [0, 1, 2], [0, 1, 2, 3], (.range 5), (.range 6), (.range 7), (.range 8), (.range 9), (.range 10), (.range 6), [0, 1, 2, 3, 4, 5, 11], [0, 1, 2, 3, 4, 5, 11, 12], [0, 1, 2, 3, 4, 5, 11, 12, 13], [0, 1, 2, 3, 4, 5, 11, 12, 13, 14], [0, 1, 2, 3, 4, 5, 11, 12, 13, 14, 15], [0, 1, 2, 3, 4, 5, 11, 12, 13, 14, 15, 16], (.range 18), (.range 19), (.range 20), (.range 21), (.range 22), (.range 23), (.range 24), (.range 20), (.range 20 ++ [25]), (.range 20 ++ [25, 26]), (.range 20 ++ [25, 26, 27]), (.range 20 ++ [25, 26, 27, 28]), (.range 20 ++ [25, 26, 27, 28, 29]), (.range 20 ++ [25, 26, 27, 28, 29, 30]), (.range 32), (.range 33), (.range 34), (.range 35), (.range 36), (.range 37), (.range 38), (.range 39), (.range 35), (.range 35 ++ [40]), (.range 35 ++ [40, 41]), (.range 35 ++ [40, 41, 42]), (.range 35 ++ [40, 41, 42, 43]), (.range 35 ++ [40, 41, 42, 43, 44]), (.range 35 ++ [40, 41, 42, 43, 44, 45]), (.range 47), (.range 48), (.range 49), (.range 50)] (nl rfl) (.range 11 ++ [6, 7, 8, 9, 10, 11, 12, 13, 14, 15, 16, 17, 18, 19, 15, 16, 17, 18, 19, 20, 21, 22, 23, 24, 25, 26, 27, 28, 29, 25, 26, 27, 28, 29, 30, 31, 32, 33, 34, 35]) rfl (TK := [(10, 7), (24, 9)]) rfl (AllK.cons' ⟨(tk_upd tk_top rfl), (tC rfl (tC rfl (tC rfl (tC rfl (tC rfl (tC rfl (tC (tkO_row _) AllT.nil'))))))), (by repeat (first | refine fC (.inl rfl) ?_ | refine fC (.inr rfl) ?_ | refine fC (.inr (by unfold tkFoot; simp only [List.all_cons, List.all_nil, tkO_row, Bool.and_true, Bool.true_and]; rfl)) ?_ | trivial))⟩ (AllK.cons' ⟨(tk_upd tk_top rfl), (tC rfl (tC rfl (tC rfl (tC rfl (tC rfl (tC rfl (tC (tkO_row _) AllT.nil'))))))), (by repeat (first | refine fC (.inl rfl) ?_ | refine fC (.inr rfl) ?_ | refine fC (.inr (by unfold tkFoot; simp only [List.all_cons, List.all_nil, tkO_row, Bool.and_true, Bool.true_and]; rfl)) ?_ | trivial))⟩ AllK.nil')) (by repeat (first | refine fC ⟨?_, ?_⟩ ?_ | refine sC rfl ?_ | refine hC rfl ?_ | trivial)) ?_ ?_
     ·refine y8 ?_ ?_ ?_ ?_ ?_ ?_ ?_ ?_ (y8 ?_ ?_ ?_ ?_ ?_ ?_ ?_ ?_ (y8 ?_ ?_ ?_ ?_ ?_ ?_ ?_ ?_ (y8 ?_ ?_ ?_ ?_ ?_ ?_ ?_ ?_ (y8 ?_ ?_ ?_ ?_ ?_ ?_ ?_ ?_ (y8 ?_ ?_ ?_ ?_ ?_ ?_ ?_ ?_ (y2 ?_ ?_ (pC ?_ yN)))))))
      ·intro K _ f w u k
       show Wp K ⟨76, (upd 76 f 0 (rf 0 0)), _⟩
       refine s_move (d := (rf 0 0)) rfl k
      ·intro K _ f w u k
       show Wp K ⟨76, (upd 76 f 26 (rf 0 0)), [_, _, _, _, _, _, _, _, _, _, _, _]⟩
       refine s_nilCheck (d := (rf 0 0)) rfl (.inl ⟨_, _, rfl⟩) k
      ·intro K _ f w u k
       show Wp K ⟨76, (upd 76 f 27 (rf 0 0)), [_, _, _, _, _, _, _, _, _, _, _, _]⟩
       refine s_fieldRef F.fo_57_1 (by decide) rfl k
      ·intro K _ f w u k
       show Wp K ⟨76, (upd 76 f 28 (rf 0 1)), [(some (AObj.cells false [(C.ref 1 0), (C.ref 2 0), (C.ref 3 0), (C.ref 4 0)])), _, _, _, _, _, _, _, _, _, _, _]⟩
       refine s_load1 (c' := (C.ref 2 0)) F.ag_55 rfl rfl k
      ·intro K _ f w u k
       show Wp K ⟨76, (upd 76 f 29 (rf 2 0)), [_, _, _, _, _, _, _, _, _, _, _, _]⟩
       refine s_ptrNil (b := false) F.u_55 rfl (.inl ⟨⟨_, _, rfl⟩, rfl⟩) (.inl rfl) k
      ·intro K _ f w u k
       show Wp K ⟨76, (upd 76 f 30 (sb false)), _⟩
       refine s_move (d := (sb false)) rfl k
      ·intro K _ f w u k
       show Wp K ⟨76, (upd 76 (upd 76 f 31 (sb false)) 0 (rf 0 0)), _⟩
       refine AWops.guard_yes rfl (nl rfl) rfl rfl ?_
       refine s_move (d := (rf 0 0)) rfl k
      ·intro K _ f w u k
       show Wp K ⟨76, (upd 76 (upd 76 f 32 (rf 0 0)) 31 (sb false)), [_, _, _, _, _, _, _, _, _, _, _, _]⟩
       refine AWops.guard_yes rfl (nl rfl) rfl rfl ?_
       refine s_nilCheck (d := (rf 0 0)) rfl (.inl ⟨_, _, rfl⟩) k
      ·intro K _ f w u k
       show Wp K ⟨76, (upd 76 (upd 76 f 33 (rf 0 0)) 31 (sb false)), [_, _, _, _, _, _, _, _, _, _, _, _]⟩
       refine AWops.guard_yes rfl (nl rfl) rfl rfl ?_
       refine s_fieldRef F.fo_57_0 (by decide) rfl k
      ·intro K _ f w u k
       show Wp K ⟨76, (upd 76 (upd 76 f 34 (rf 0 0)) 31 (sb false)), [(some (AObj.cells false [(C.ref 1 0), (C.ref 2 0), (C.ref 3 0), (C.ref 4 0)])), _, _, _, _, _, _, _, _, _, _, _]⟩
       refine AWops.guard_yes rfl (nl rfl) rfl rfl ?_
       refine s_load1 (c' := (C.ref 1 0)) F.ag_23 rfl rfl k
      ·intro K _ f w u k
       show Wp K ⟨76, (upd 76 (upd 76 f 35 (rf 1 0)) 31 (sb false)), [_, (o_journal_Journal_0 false (C.ref 3 0) p1), _, (o_vdisk_Disk_03 false (C.mp 5) np p3), _, (om_ e_vdisk_file p3.files), _, _, _, _, _, _]⟩
       refine AWops.guard_yes rfl (nl rfl) rfl rfl ?_
       refine cc [1, 3, 5] [(w 0), (o_journal_Journal_0 false (C.ref 3 0) r3.2), (w 2), (o_vdisk_Disk_03 false (C.mp 5) np p3), (w 4), (om_ e_vdisk_file p3.files), (w 6), (w 7), (w 8), (w 9), (w 10), (w 11), (ow_ e_u8 r3.1)] (D.one (C.own 12 0 r3.1.length 1)) F.ca_9 rfl rfl (ac (.one (.ref rfl)) an) (ac (.cells (ac (.ref rfl) (ac .imm (ac .imm (ac .sc an))))) (ac (.cells (ac (.mp rfl) (ac .sc (ac .sc (ac .sc (ac .sc an)))))) (ac .map an))) (journal_Journal_Snapshot.meets _ (⟨(), p1.snap, p1.l, p1.stopped⟩ : journal_Journal) p3 r3 er3) ?_
       refine AWops.weak (st' := ⟨76, (upd 76 (upd 76 (upd 76 f 35 (rf 1 0)) 31 (sb false)) 36 (D.one (C.own 7 0 r3.1.length 1))), [(w 0), (o_journal_Journal_0 false (C.ref 3 0) r3.2), (w 2), (o_vdisk_Disk_03 false (C.mp 5) np p3), (w 4), (om_ e_vdisk_file p3.files), (w 6), (ow_ e_u8 r3.1), (w 8), (w 9), (w 10), (w 11)]⟩) (wg 7 [0, 1, 2, 3, 4, 5, 6, 12, 8, 9, 10, 11] [] hx (le_upd2 (le_ok (p := 7) (L := 12) rfl (u 7 rfl).1) (o1 (.own rfl))) (ac (oq 7 12 (u 7 rfl) 0) (ac (.cells id (ac (.ref rfl) (ac .same (ac .same (ac .sc an))))) (ac (oq 7 12 (u 7 rfl) 2) (ac (qs rfl) (ac (oq 7 12 (u 7 rfl) 4) (ac .map (ac (oq 7 12 (u 7 rfl) 6) (ac (.cells (fun _ => rfl) (all2_row _)) (ac (oq 7 12 (u 7 rfl) 8) (ac (oq 7 12 (u 7 rfl) 9) (ac (oq 7 12 (u 7 rfl) 10) (ac (oq 7 12 (u 7 rfl) 11) an))))))))))))) k
      ·intro K _ f w u k
       show Wp K ⟨76, (upd 76 (upd 76 f 31 (sb false)) 0 (rf 0 0)), _⟩
       refine AWops.guard_yes rfl (nl rfl) rfl rfl ?_
       refine s_move (d := (rf 0 0)) rfl k
      ·intro K _ f w u k
       show Wp K ⟨76, (upd 76 (upd 76 f 37 (rf 0 0)) 31 (sb false)), [_, _, _, _, _, _, _, _, _, _, _, _]⟩
       refine AWops.guard_yes rfl (nl rfl) rfl rfl ?_
       refine s_nilCheck (d := (rf 0 0)) rfl (.inl ⟨_, _, rfl⟩) k
      ·intro K _ f w u k
       show Wp K ⟨76, (upd 76 (upd 76 f 38 (rf 0 0)) 31 (sb false)), [_, _, _, _, _, _, _, _, _, _, _, _]⟩
       refine AWops.guard_yes rfl (nl rfl) rfl rfl ?_
       refine s_fieldRef F.fo_57_1 (by decide) rfl k
      ·intro K _ f w u k
       show Wp K ⟨76, (upd 76 (upd 76 f 39 (rf 0 1)) 31 (sb false)), [(some (AObj.cells false [(C.ref 1 0), (C.ref 2 0), (C.ref 3 0), (C.ref 4 0)])), _, _, _, _, _, _, _, _, _, _, _]⟩
       refine AWops.guard_yes rfl (nl rfl) rfl rfl ?_
       refine s_load1 (c' := (C.ref 2 0)) F.ag_55 rfl rfl k
      ·intro K _ f w u k
       show Wp K ⟨76, (upd 76 (upd 76 f 40 (rf 2 0)) 31 (sb false)), [_, _, _, _, _, _, _, _, _, _, _, _]⟩
       refine AWops.guard_yes rfl (nl rfl) rfl rfl ?_
       refine s_nilCheck (d := (rf 2 0)) rfl (.inl ⟨_, _, rfl⟩) k
      ·intro K _ f w u k
       show Wp K ⟨76, (upd 76 (upd 76 f 41 (rf 2 0)) 31 (sb false)), [_, _, _, _, _, _, _, _, _, _, _, _]⟩
       refine AWops.guard_yes rfl (nl rfl) rfl rfl ?_
       refine s_fieldRef F.fo_92_1 (by decide) rfl k
      ·intro K _ f w u k
       show Wp K ⟨76, (upd 76 (upd 76 f 42 (rf 2 1)) 31 (sb false)), [_, _, (o_dossierref04_Journal_0 false (C.ref 4 0) p2), _, _, _, _, _, _, _, _, _]⟩
       refine AWops.guard_yes rfl (nl rfl) rfl rfl ?_
       refine s_load1 (c' := (cl_ e_u8 p2.Snap)) F.ag_22 rfl rfl k
      ·intro K _ f w u k
       show Wp K ⟨76, (upd 76 (upd 76 (upd 76 f 43 (ds_ e_u8 p2.Snap)) 36 (D.one (C.own 7 0 r3.1.length 1))) 31 (sb false)), [_, _, _, _, _, _, _, (ow_ e_u8 r3.1), _, _, _, _]⟩
       refine AWops.guard_yes rfl (nl rfl) rfl rfl ?_
       refine s_call2 (ρ := []) (br := true) (H2 := [(w 0), (w 1), (w 2), (w 3), (w 4), (w 5), (w 6), (ow_ e_u8 r3.1), (w 8), (w 9), (w 10), (w 11)]) (d := (sb r4)) F.ca_17 rfl rfl (ac (.one (LendC.bor e_u8_len rfl rfl rfl)) (ac (.one .imm) an)) an (by decide) rfl (bytes_Equal.meets _ r3.1 p2.Snap r4 er4) (.inr ⟨rfl, rfl⟩) rfl rfl k
      ·intro K _ f w u k
       show Wp K ⟨76, (upd 76 (upd 76 f 44 (sb r4)) 31 (sb false)), _⟩
       refine AWops.guard_yes rfl (nl rfl) rfl rfl ?_
       refine s_move (d := (sb r4)) rfl k
      ·intro K _ f w u k
       show Wp K ⟨76, (upd 76 (upd 76 f 45 (sb r4)) 0 (rf 0 0)), _⟩
       refine AWops.guard_yes rfl (nl rfl) rfl c5 ?_
       refine s_move (d := (rf 0 0)) rfl k
      ·intro K _ f w u k
       show Wp K ⟨76, (upd 76 (upd 76 f 46 (rf 0 0)) 45 (sb r4)), [_, _, _, _, _, _, _, _, _, _, _, _]⟩
       refine AWops.guard_yes rfl (nl rfl) rfl c5 ?_
       refine s_nilCheck (d := (rf 0 0)) rfl (.inl ⟨_, _, rfl⟩) k
      ·intro K _ f w u k
       show Wp K ⟨76, (upd 76 (upd 76 f 47 (rf 0 0)) 45 (sb r4)), [_, _, _, _, _, _, _, _, _, _, _, _]⟩
       refine AWops.guard_yes rfl (nl rfl) rfl c5 ?_
       refine s_fieldRef F.fo_57_0 (by decide) rfl k
      ·intro K _ f w u k
       show Wp K ⟨76, (upd 76 (upd 76 f 48 (rf 0 0)) 45 (sb r4)), [(some (AObj.cells false [(C.ref 1 0), (C.ref 2 0), (C.ref 3 0), (C.ref 4 0)])), _, _, _, _, _, _, _, _, _, _, _]⟩
       refine AWops.guard_yes rfl (nl rfl) rfl c5 ?_
       refine s_load1 (c' := (C.ref 1 0)) F.ag_23 rfl rfl k
      ·intro K _ f w u k
       show Wp K ⟨76, (upd 76 (upd 76 f 49 (rf 1 0)) 45 (sb r4)), [_, (o_journal_Journal_0 false (C.ref 3 0) r3.2), _, (o_vdisk_Disk_03 false (C.mp 5) np p3), _, (om_ e_vdisk_file p3.files), _, _, _, _, _, _]⟩
       refine AWops.guard_yes rfl (nl rfl) rfl c5 ?_
       refine cc [1, 3, 5] [(w 0), (o_journal_Journal_0 false (C.ref 3 0) r6.2), (w 2), (o_vdisk_Disk_03 false (C.mp 5) np p3), (w 4), (om_ e_vdisk_file p3.files), (w 6), (w 7), (w 8), (w 9), (w 10), (w 11), (some (AObj.cells true (rowC (e_sl e_u8) r6.1)))] (D.one (C.own 12 0 r6.1.length 1)) F.ca_10 rfl rfl (ac (.one (.ref rfl)) an) (ac (.cells (ac (.ref rfl) (ac .imm (ac .imm (ac .sc an))))) (ac (.cells (ac (.mp rfl) (ac .sc (ac .sc (ac .sc (ac .sc an)))))) (ac .map an))) (journal_Journal_Records.meets _ (⟨(), r3.2.snap, r3.2.l, r3.2.stopped⟩ : journal_Journal) p3 r6 er6) ?_
       refine AWops.weak (st' := ⟨76, (upd 76 (upd 76 (upd 76 f 49 (rf 1 0)) 45 (sb r4)) 50 (D.one (C.own 9 0 r6.1.length 1))), [(w 0), (o_journal_Journal_0 false (C.ref 3 0) r6.2), (w 2), (o_vdisk_Disk_03 false (C.mp 5) np p3), (w 4), (om_ e_vdisk_file p3.files), (w 6), (w 7), (w 8), (some (AObj.cells true (rowC (e_sl e_u8) r6.1))), (w 10), (w 11)]⟩) (wg 7 [0, 1, 2, 3, 4, 5, 6, 7, 8, 12, 10, 11] [] hx (le_upd2 (le_ok (p := 9) (L := 12) rfl (u 9 rfl).1) (o1 (.own rfl))) (ac (oq 9 12 (u 9 rfl) 0) (ac (.cells id (ac (.ref rfl) (ac .same (ac .same (ac .sc an))))) (ac (oq 9 12 (u 9 rfl) 2) (ac (qs rfl) (ac (oq 9 12 (u 9 rfl) 4) (ac .map (ac (oq 9 12 (u 9 rfl) 6) (ac (oq 9 12 (u 9 rfl) 7) (ac (oq 9 12 (u 9 rfl) 8) (ac (.cells (fun _ => rfl) (all2_row _)) (ac (oq 9 12 (u 9 rfl) 10) (ac (oq 9 12 (u 9 rfl) 11) an))))))))))))) k
      ·intro K _ f w u k
       show Wp K ⟨76, (upd 76 (upd 76 f 45 (sb r4)) 0 (rf 0 0)), _⟩
       refine AWops.guard_yes rfl (nl rfl) rfl c5 ?_
       refine s_move (d := (rf 0 0)) rfl k
      ·intro K _ f w u k
       show Wp K ⟨76, (upd 76 (upd 76 f 51 (rf 0 0)) 45 (sb r4)), [_, _, _, _, _, _, _, _, _, _, _, _]⟩
       refine AWops.guard_yes rfl (nl rfl) rfl c5 ?_
       refine s_nilCheck (d := (rf 0 0)) rfl (.inl ⟨_, _, rfl⟩) k
      ·intro K _ f w u k
       show Wp K ⟨76, (upd 76 (upd 76 f 52 (rf 0 0)) 45 (sb r4)), [_, _, _, _, _, _, _, _, _, _, _, _]⟩
       refine AWops.guard_yes rfl (nl rfl) rfl c5 ?_
       refine s_fieldRef F.fo_57_1 (by decide) rfl k
      ·intro K _ f w u k
       show Wp K ⟨76, (upd 76 (upd 76 f 53 (rf 0 1)) 45 (sb r4)), [(some (AObj.cells false [(C.ref 1 0), (C.ref 2 0), (C.ref 3 0), (C.ref 4 0)])), _, _, _, _, _, _, _, _, _, _, _]⟩
       refine AWops.guard_yes rfl (nl rfl) rfl c5 ?_
       refine s_load1 (c' := (C.ref 2 0)) F.ag_55 rfl rfl k
      ·intro K _ f w u k
       show Wp K ⟨76, (upd 76 (upd 76 f 54 (rf 2 0)) 45 (sb r4)), [_, _, _, _, _, _, _, _, _, _, _, _]⟩
       refine AWops.guard_yes rfl (nl rfl) rfl c5 ?_
       refine s_nilCheck (d := (rf 2 0)) rfl (.inl ⟨_, _, rfl⟩) k
      ·intro K _ f w u k
       show Wp K ⟨76, (upd 76 (upd 76 f 55 (rf 2 0)) 45 (sb r4)), [_, _, _, _, _, _, _, _, _, _, _, _]⟩
       refine AWops.guard_yes rfl (nl rfl) rfl c5 ?_
       refine s_fieldRef F.fo_92_2 (by decide) rfl k
      ·intro K _ f w u k
       show Wp K ⟨76, (upd 76 (upd 76 f 56 (rf 2 2)) 45 (sb r4)), [_, _, (o_dossierref04_Journal_0 false (C.ref 4 0) p2), _, _, _, _, _, _, _, _, _]⟩
       refine AWops.guard_yes rfl (nl rfl) rfl c5 ?_
       refine s_load1 (c' := (C.p false (.sl p2.L.length (p2.L.flatMap (e_sl e_u8))))) F.ag_25 rfl rfl k
      ·intro K _ f w u k
       show Wp K ⟨76, (upd 76 (upd 76 (upd 76 f 57 (D.one (C.p false (.sl p2.L.length (p2.L.flatMap (e_sl e_u8)))))) 50 (D.one (C.own 9 0 r6.1.length 1))) 45 (sb r4)), [_, _, _, _, _, _, _, _, _, (some (AObj.cells true (rowC (e_sl e_u8) r6.1))), _, _]⟩
       refine AWops.guard_yes rfl (nl rfl) rfl c5 ?_
       refine s_call2 (ρ := []) (br := true) (H2 := [(w 0), (w 1), (w 2), (w 3), (w 4), (w 5), (w 6), (w 7), (w 8), (some (AObj.cells true (rowC (e_sl e_u8) r6.1))), (w 10), (w 11)]) (d := (sb r7)) F.ca_18 rfl rfl (ac (.one (LendC.bor (e_sl_len _) rfl rfl rfl)) (ac (.one .imm) an)) an (by decide) rfl (dossierplain_SameTexts.meets _ r6.1 p2.L r7 er7) (.inr ⟨rfl, rfl⟩) rfl rfl k
      ·intro K _ f w u k
       show Wp K ⟨76, (upd 76 (upd 76 (upd 76 f 58 (sb r7)) 45 (sb r4)) 31 (sb false)), _⟩
       refine AWops.guard_yes rfl (nl rfl) rfl rfl ?_
       refine s_pick_yes (d := (sb r7)) rfl c5 rfl k
      ·intro K _ f w u k
       show Wp K ⟨76, (upd 76 (upd 76 f 59 (sb r7)) 31 (sb false)), _⟩
       refine AWops.guard_yes rfl (nl rfl) rfl rfl ?_
       refine s_move (d := (sb r7)) rfl k
      ·intro K _ f w u k
       show Wp K ⟨76, (upd 76 (upd 76 f 60 (sb r7)) 0 (rf 0 0)), _⟩
       refine AWops.guard_no rfl (nl rfl) rfl c8 k
      ·intro K _ f w u k
       show Wp K ⟨76, (upd 76 f 60 (sb r7)), _⟩
       refine AWops.guard_no rfl (nl rfl) rfl c8 k
      ·intro K _ f w u k
       show Wp K ⟨76, (upd 76 f 60 (sb r7)), _⟩
       refine AWops.guard_no rfl (nl rfl) rfl c8 k
      ·intro K _ f w u k
       show Wp K ⟨76, (upd 76 f 60 (sb r7)), _⟩
       refine AWops.guard_no rfl (nl rfl) rfl c8 k
      ·intro K _ f w u k
       show Wp K ⟨76, (upd 76 f 60 (sb r7)), _⟩
       refine AWops.guard_no rfl (nl rfl) rfl c8 k
      ·intro K _ f w u k
       show Wp K ⟨76, (upd 76 f 60 (sb r7)), _⟩
       refine AWops.guard_no rfl (nl rfl) rfl c8 k
      ·intro K _ f w u k
       show Wp K ⟨76, (upd 76 f 60 (sb r7)), _⟩
       refine AWops.guard_no rfl (nl rfl) rfl c8 k
      ·intro K _ f w u k
       show Wp K ⟨76, (upd 76 f 60 (sb r7)), _⟩
       refine AWops.guard_no rfl (nl rfl) rfl c8 k
      ·intro K _ f w u k
       show Wp K ⟨76, (upd 76 f 60 (sb r7)), _⟩
       refine AWops.guard_no rfl (nl rfl) rfl c8 k
      ·intro K _ f w u k
       show Wp K ⟨76, (upd 76 f 60 (sb r7)), _⟩
       refine AWops.guard_no rfl (nl rfl) rfl c8 k
      ·intro K _ f w u k
       show Wp K ⟨76, (upd 76 f 60 (sb r7)), _⟩
       refine AWops.guard_no rfl (nl rfl) rfl c8 k
      ·intro K _ f w u k
       show Wp K ⟨76, (upd 76 f 60 (sb r7)), _⟩
       refine AWops.guard_no rfl (nl rfl) rfl c8 k
      ·intro K _ f w u k
       show Wp K ⟨76, (upd 76 f 60 (sb r7)), _⟩
       refine AWops.guard_no rfl (nl rfl) rfl c8 k
      ·intro K _ f w u k
       show Wp K ⟨76, (upd 76 (upd 76 f 60 (sb r7)) 31 (sb false)), _⟩
       refine AWops.guard_yes rfl (nl rfl) rfl rfl ?_
       refine s_pick_no (d := (sb false)) rfl c8 rfl k
      ·intro K _ f w u k
       show Wp K ⟨76, (upd 76 (upd 76 f 74 (sb false)) 31 (sb false)), _⟩
       refine s_pick_no (d := (sb false)) rfl rfl rfl k
      ·intro K _ f w u k
       show Wp K ⟨76, (upd 76 f 75 (sb false)), _⟩
       refine s_assign (d := (sb false)) rfl k
     ·refine AWops.weak (st' := ⟨76, (upd 76 topF 2 (sb false)), [(some (AObj.cells false [(C.ref 1 0), (C.ref 2 0), (C.ref 3 0), (C.ref 4 0)])), (o_journal_Journal_0 false (C.ref 3 0) r6.2), (o_dossierref04_Journal_0 false (C.ref 4 0) p2), (o_vdisk_Disk_03 false (C.mp 5) np p3), (o_dossierref03_Disk_0 false (C.own 6 0 p4.L.length 3) p4), (om_ e_vdisk_file p3.files), (or_ e_dossierref03_File p4.L)]⟩) (wg 7 [0, 1, 2, 3, 4, 5, 6] [] hx (le_upd (le_top _) (o1 .sc)) (ac (.cells id (ac (.ref rfl) (ac (.ref rfl) (ac (.ref rfl) (ac (.ref rfl) an))))) (ac (.cells id (ac (.ref rfl) (ac .same (ac .same (ac .sc an))))) (ac (.cells id (ac (.ref rfl) (ac .same (ac .same (ac .sc an))))) (ac (qs rfl) (ac (qo rfl) (ac .map (ac (.cells id (all2_row _)) an)))))))) (AWops.nil (AW.ret ?_))
      obtain rfl := Option.some.inj h
      exact ⟨_, rfl, (wg 7 [0, 1, 2, 3, 4, 5, 6] [] rfl (le_upd (le_top _) (o1 .sc)) (ac (.cells id (ac (.ref rfl) (ac (.ref rfl) (ac (.ref rfl) (ac (.ref rfl) an))))) (ac (.cells id (ac (.ref rfl) (ac .same (ac .same (ac .sc an))))) (ac (.cells id (ac (.ref rfl) (ac .same (ac .same (ac .sc an))))) (ac (qs rfl) (ac (qo rfl) (ac .map (ac (.cells id (all2_row _)) an))))))))⟩
   ·refine AW.draw (n := 76) (L := 12) [(ft 0 26 (rf 0 0) [(0, (rf 0 0))]), (ft 1 27 (rf 0 0) [(26, (rf 0 0))]), (ft 2 28 (rf 0 1) [(27, (rf 0 0))]), (3, ⟨some 29, (rf 2 0), [(28, (rf 0 1))], [(0, (some (AObj.cells false [(C.ref 1 0), (C.ref 2 0), (C.ref 3 0), (C.ref 4 0)])))], [], none⟩), (ft 4 30 (sb false) [(29, (rf 2 0))]), (ft 5 31 (sb false) [(30, (sb false))]), (ft 6 32 (rf 0 0) [(0, (rf 0 0)), (31, (sb false))]), (ft 7 33 (rf 0 0) [(31, (sb false)), (32, (rf 0 0))]), (ft 8 34 (rf 0 0) [(31, (sb false)), (33, (rf 0 0))]), (9, ⟨some 35, (rf 1 0), [(31, (sb false)), (34, (rf 0 0))], [(0, (some (AObj.cells false [(C.ref 1 0), (C.ref 2 0), (C.ref 3 0), (C.ref 4 0)])))], [], none⟩), (10, ⟨some 36, (D.one (C.own 7 0 r3.1.length 1)), [(31, (sb false)), (35, (rf 1 0))], [(1, (o_journal_Journal_0 false (C.ref 3 0) p1)), (3, (o_vdisk_Disk_03 false (C.mp 5) np p3)), (5, (om_ e_vdisk_file p3.files))], [(1, (o_journal_Journal_0 false (C.ref 3 0) r3.2)), (7, (ow_ e_u8 r3.1))], some 7⟩), (ft 11 37 (rf 0 0) [(0, (rf 0 0)), (31, (sb false))]), (ft 12 38 (rf 0 0) [(31, (sb false)), (37, (rf 0 0))]), (ft 13 39 (rf 0 1) [(31, (sb false)), (38, (rf 0 0))]), (14, ⟨some 40, (rf 2 0), [(31, (sb false)), (39, (rf 0 1))], [(0, (some (AObj.cells false [(C.ref 1 0), (C.ref 2 0), (C.ref 3 0), (C.ref 4 0)])))], [], none⟩), (ft 15 41 (rf 2 0) [(31, (sb false)), (40, (rf 2 0))]), (ft 16 42 (rf 2 1) [(31, (sb false)), (41, (rf 2 0))]), (17, ⟨some 43, (ds_ e_u8 p2.Snap), [(31, (sb false)), (42, (rf 2 1))], [(2, (o_dossierref04_Journal_0 false (C.ref 4 0) p2))], [], none⟩), (18, ⟨some 44, (sb r4), [(31, (sb false)), (36, (D.one (C.own 7 0 r3.1.length 1))), (43, (ds_ e_u8 p2.Snap))], [(7, (ow_ e_u8 r3.1))], [], none⟩), (ft 19 45 (sb r4) [(31, (sb false)), (44, (sb r4))]), (ft 20 46 (D.tup []) [(0, (rf 0 0)), (45, (sb r4))]), (ft 21 47 (D.tup []) [(45, (sb r4))]), (ft 22 48 (D.tup []) [(45, (sb r4))]), (ft 23 49 (D.tup []) [(45, (sb r4))]), (ft 24 50 (D.tup []) [(45, (sb r4))]), (ft 25 51 (D.tup []) [(45, (sb r4))]), (ft 26 52 (D.tup []) [(45, (sb r4))]), (ft 27 53 (D.tup []) [(45, (sb r4))]), (ft 28 54 (D.tup []) [(45, (sb r4))]), (ft 29 55 (D.tup []) [(45, (sb r4))]), (ft 30 56 (D.tup []) [(45, (sb r4))]), (ft 31 57 (D.tup []) [(45, (sb r4))]), (ft 32 58 (D.tup []) [(45, (sb r4))]), (ft 33 59 (sb false) [(31, (sb false)), (45, (sb r4))]), (ft 34 60 (sb false) [(31, (sb false)), (59, (sb false))]), (ft 35 61 (D.tup []) [(60, (sb false))]), (ft 36 62 (D.tup []) [(60, (sb false))]), (ft 37 63 (D.tup []) [(60, (sb false))]), (ft 38 64 (D.tup []) [(60, (sb false))]), (ft 39 65 (D.tup []) [(60, (sb false))]), (ft 40 66 (D.tup []) [(60, (sb false))]), (ft 41 67 (D.tup []) [(60, (sb false))]), (ft 42 68 (D.tup []) [(60, (sb false))]), (ft 43 69 (D.tup []) [(60, (sb false))]), (ft 44 70 (D.tup []) [(60, (sb false))]), (ft 45 71 (D.tup []) [(60, (sb false))]), (ft 46 72 (D.tup []) [(60, (sb false))]), (ft 47 73 (D.tup []) [(60, (sb false))]), (ft 48 74 (sb false) [(31, (sb false)), (60, (sb false))]), (ft 49 75 (sb false) [(31, (sb false)), (74, (sb false))]), (ft 50 2 (sb false) [(75, (sb false))])] [[], [0], [0, 1], [0, 1, 2], [0, 1, 2, 3], (.range 5), (.range 6), (.range 7), (.range 8), (.range 9), (.range 10), (.range 6), [0, 1, 2, 3, 4, 5, 11], [0, 1, 2, 3, 4, 5, 11, 12], [0, 1, 2, 3, 4, 5, 11, 12, 13], [0, 1, 2, 3, 4, 5, 11, 12, 13, 14], [0, 1, 2, 3, 4, 5, 11, 12, 13, 14, 15], [0, 1, 2, 3, 4, 5, 11, 12, 13, 14, 15, 16], (.range 18), (.range 19), (.range 20), (.range 21), (.range 22), (.range 23), (.range 24), (.range 20), (.range 20 ++ [25]), (.range 20 ++ [25, 26]), (.range 20 ++ [25, 26, 27]), (.range 20 ++ [25, 26, 27, 28]), (.range 20 ++ [25, 26, 27, 28, 29]), (.range 20 ++ [25, 26, 27, 28, 29, 30]), (.range 32), (.range 33), (.range 34), (.range 35), (.range 36), (.range 37), (.range 38), (.range 39), (.range 35), (.range 35 ++ [40]), (.range 35 ++ [40, 41]), (.range 35 ++ [40, 41, 42]), (.range 35 ++ [40, 41, 42, 43]), (.range 35 ++ [40, 41, 42, 43, 44]), (.range 35 ++ [40, 41, 42, 43, 44, 45]), (.range 47), (.range 48), (.range 49), (.range 50)] (nl rfl) (.range 11 ++ [6, 7, 8, 9, 10, 11, 12, 13, 14, 15, 16, 17, 18, 19, 15, 16, 17, 18, 19, 20, 21, 22, 23, 24, 25, 26, 27, 28, 29, 25, 26, 27, 28, 29, 30, 31, 32, 33, 34, 35]) rfl (TK := [(10, 7)]) rfl (AllK.cons' ⟨(tk_upd tk_top rfl), (tC rfl (tC rfl (tC rfl (tC rfl (tC rfl (tC rfl (tC (tkO_row _) AllT.nil'))))))), (by repeat (first | refine fC (.inl rfl) ?_ | refine fC (.inr rfl) ?_ | refine fC (.inr (by unfold tkFoot; simp only [List.all_cons, List.all_nil, tkO_row, Bool.and_true, Bool.true_and]; rfl)) ?_ | trivial))⟩ AllK.nil') (by repeat (first | refine fC ⟨?_, ?_⟩ ?_ | refine sC rfl ?_ | refine hC rfl ?_ | trivial)) ?_ ?_
    ·refine y8 ?_ ?_ ?_ ?_ ?_ ?_ ?_ ?_ (y8 ?_ ?_ ?_ ?_ ?_ ?_ ?_ ?_ (y8 ?_ ?_ ?_ ?_ ?_ ?_ ?_ ?_ (y8 ?_ ?_ ?_ ?_ ?_ ?_ ?_ ?_ (y8 ?_ ?_ ?_ ?_ ?_ ?_ ?_ ?_ (y8 ?_ ?_ ?_ ?_ ?_ ?_ ?_ ?_ (y2 ?_ ?_ (pC ?_ yN)))))))
     ·intro K _ f w u k
      show Wp K ⟨76, (upd 76 f 0 (rf 0 0)), _⟩
      refine s_move (d := (rf 0 0)) rfl k
     ·intro K _ f w u k
      show Wp K ⟨76, (upd 76 f 26 (rf 0 0)), [_, _, _, _, _, _, _, _, _, _, _, _]⟩
      refine s_nilCheck (d := (rf 0 0)) rfl (.inl ⟨_, _, rfl⟩) k
     ·intro K _ f w u k
      show Wp K ⟨76, (upd 76 f 27 (rf 0 0)), [_, _, _, _, _, _, _, _, _, _, _, _]⟩
      refine s_fieldRef F.fo_57_1 (by decide) rfl k
     ·intro K _ f w u k
      show Wp K ⟨76, (upd 76 f 28 (rf 0 1)), [(some (AObj.cells false [(C.ref 1 0), (C.ref 2 0), (C.ref 3 0), (C.ref 4 0)])), _, _, _, _, _, _, _, _, _, _, _]⟩
      refine s_load1 (c' := (C.ref 2 0)) F.ag_55 rfl rfl k
     ·intro K _ f w u k
      show Wp K ⟨76, (upd 76 f 29 (rf 2 0)), [_, _, _, _, _, _, _, _, _, _, _, _]⟩
      refine s_ptrNil (b := false) F.u_55 rfl (.inl ⟨⟨_, _, rfl⟩, rfl⟩) (.inl rfl) k
     ·intro K _ f w u k
      show Wp K ⟨76, (upd 76 f 30 (sb false)), _⟩
      refine s_move (d := (sb false)) rfl k
     ·intro K _ f w u k
      show Wp K ⟨76, (upd 76 (upd 76 f 31 (sb false)) 0 (rf 0 0)), _⟩
      refine AWops.guard_yes rfl (nl rfl) rfl rfl ?_
      refine s_move (d := (rf 0 0)) rfl k
     ·intro K _ f w u k
      show Wp K ⟨76, (upd 76 (upd 76 f 32 (rf 0 0)) 31 (sb false)), [_, _, _, _, _, _, _, _, _, _, _, _]⟩
      refine AWops.guard_yes rfl (nl rfl) rfl rfl ?_
      refine s_nilCheck (d := (rf 0 0)) rfl (.inl ⟨_, _, rfl⟩) k
     ·intro K _ f w u k
      show Wp K ⟨76, (upd 76 (upd 76 f 33 (rf 0 0)) 31 (sb false)), [_, _, _, _, _, _, _, _, _, _, _, _]⟩
      refine AWops.guard_yes rfl (nl rfl) rfl rfl ?_
      refine s_fieldRef F.fo_57_0 (by decide) rfl k
     ·intro K _ f w u k
      show Wp K ⟨76, (upd 76 (upd 76 f 34 (rf 0 0)) 31 (sb false)), [(some (AObj.cells false [(C.ref 1 0), (C.ref 2 0), (C.ref 3 0), (C.ref 4 0)])), _, _, _, _, _, _, _, _, _, _, _]⟩
      refine AWops.guard_yes rfl (nl rfl) rfl rfl ?_
      refine s_load1 (c' := (C.ref 1 0)) F.ag_23 rfl rfl k
     ·intro K _ f w u k
      show Wp K ⟨76, (upd 76 (upd 76 f 35 (rf 1 0)) 31 (sb false)), [_, (o_journal_Journal_0 false (C.ref 3 0) p1), _, (o_vdisk_Disk_03 false (C.mp 5) np p3), _, (om_ e_vdisk_file p3.files), _, _, _, _, _, _]⟩
      refine AWops.guard_yes rfl (nl rfl) rfl rfl ?_
      refine cc [1, 3, 5] [(w 0), (o_journal_Journal_0 false (C.ref 3 0) r3.2), (w 2), (o_vdisk_Disk_03 false (C.mp 5) np p3), (w 4), (om_ e_vdisk_file p3.files), (w 6), (w 7), (w 8), (w 9), (w 10), (w 11), (ow_ e_u8 r3.1)] (D.one (C.own 12 0 r3.1.length 1)) F.ca_9 rfl rfl (ac (.one (.ref rfl)) an) (ac (.cells (ac (.ref rfl) (ac .imm (ac .imm (ac .sc an))))) (ac (.cells (ac (.mp rfl) (ac .sc (ac .sc (ac .sc (ac .sc an)))))) (ac .map an))) (journal_Journal_Snapshot.meets _ (⟨(), p1.snap, p1.l, p1.stopped⟩ : journal_Journal) p3 r3 er3) ?_
      refine AWops.weak (st' := ⟨76, (upd 76 (upd 76 (upd 76 f 35 (rf 1 0)) 31 (sb false)) 36 (D.one (C.own 7 0 r3.1.length 1))), [(w 0), (o_journal_Journal_0 false (C.ref 3 0) r3.2), (w 2), (o_vdisk_Disk_03 false (C.mp 5) np p3), (w 4), (om_ e_vdisk_file p3.files), (w 6), (ow_ e_u8 r3.1), (w 8), (w 9), (w 10), (w 11)]⟩) (wg 7 [0, 1, 2, 3, 4, 5, 6, 12, 8, 9, 10, 11] [] hx (le_upd2 (le_ok (p := 7) (L := 12) rfl (u 7 rfl).1) (o1 (.own rfl))) (ac (oq 7 12 (u 7 rfl) 0) (ac (.cells id (ac (.ref rfl) (ac .same (ac .same (ac .sc an))))) (ac (oq 7 12 (u 7 rfl) 2) (ac (qs rfl) (ac (oq 7 12 (u 7 rfl) 4) (ac .map (ac (oq 7 12 (u 7 rfl) 6) (ac (.cells (fun _ => rfl) (all2_row _)) (ac (oq 7 12 (u 7 rfl) 8) (ac (oq 7 12 (u 7 rfl) 9) (ac (oq 7 12 (u 7 rfl) 10) (ac (oq 7 12 (u 7 rfl) 11) an))))))))))))) k
     ·intro K _ f w u k
      show Wp K ⟨76, (upd 76 (upd 76 f 31 (sb false)) 0 (rf 0 0)), _⟩
      refine AWops.guard_yes rfl (nl rfl) rfl rfl ?_
      refine s_move (d := (rf 0 0)) rfl k
     ·intro K _ f w u k
      show Wp K ⟨76, (upd 76 (upd 76 f 37 (rf 0 0)) 31 (sb false)), [_, _, _, _, _, _, _, _, _, _, _, _]⟩
      refine AWops.guard_yes rfl (nl rfl) rfl rfl ?_
      refine s_nilCheck (d := (rf 0 0)) rfl (.inl ⟨_, _, rfl⟩) k
     ·intro K _ f w u k
      show Wp K ⟨76, (upd 76 (upd 76 f 38 (rf 0 0)) 31 (sb false)), [_, _, _, _, _, _, _, _, _, _, _, _]⟩
      refine AWops.guard_yes rfl (nl rfl) rfl rfl ?_
      refine s_fieldRef F.fo_57_1 (by decide) rfl k
     ·intro K _ f w u k
      show Wp K ⟨76, (upd 76 (upd 76 f 39 (rf 0 1)) 31 (sb false)), [(some (AObj.cells false [(C.ref 1 0), (C.ref 2 0), (C.ref 3 0), (C.ref 4 0)])), _, _, _, _, _, _, _, _, _, _, _]⟩
      refine AWops.guard_yes rfl (nl rfl) rfl rfl ?_
      refine s_load1 (c' := (C.ref 2 0)) F.ag_55 rfl rfl k
     ·intro K _ f w u k
      show Wp K ⟨76, (upd 76 (upd 76 f 40 (rf 2 0)) 31 (sb false)), [_, _, _, _, _, _, _, _, _, _, _, _]⟩
      refine AWops.guard_yes rfl (nl rfl) rfl rfl ?_
      refine s_nilCheck (d := (rf 2 0)) rfl (.inl ⟨_, _, rfl⟩) k
     ·intro K _ f w u k
      show Wp K ⟨76, (upd 76 (upd 76 f 41 (rf 2 0)) 31 (sb false)), [_, _, _, _, _, _, _, _, _, _, _, _]⟩
      refine AWops.guard_yes rfl (nl rfl) rfl rfl ?_
      refine s_fieldRef F.fo_92_1 (by decide) rfl k
     ·intro K _ f w u k
      show Wp K ⟨76, (upd 76 (upd 76 f 42 (rf 2 1)) 31 (sb false)), [_, _, (o_dossierref04_Journal_0 false (C.ref 4 0) p2), _, _, _, _, _, _, _, _, _]⟩
      refine AWops.guard_yes rfl (nl rfl) rfl rfl ?_
      refine s_load1 (c' := (cl_ e_u8 p2.Snap)) F.ag_22 rfl rfl k
     ·intro K _ f w u k
      show Wp K ⟨76, (upd 76 (upd 76 (upd 76 f 43 (ds_ e_u8 p2.Snap)) 36 (D.one (C.own 7 0 r3.1.length 1))) 31 (sb false)), [_, _, _, _, _, _, _, (ow_ e_u8 r3.1), _, _, _, _]⟩
      refine AWops.guard_yes rfl (nl rfl) rfl rfl ?_
      refine s_call2 (ρ := []) (br := true) (H2 := [(w 0), (w 1), (w 2), (w 3), (w 4), (w 5), (w 6), (ow_ e_u8 r3.1), (w 8), (w 9), (w 10), (w 11)]) (d := (sb r4)) F.ca_17 rfl rfl (ac (.one (LendC.bor e_u8_len rfl rfl rfl)) (ac (.one .imm) an)) an (by decide) rfl (bytes_Equal.meets _ r3.1 p2.Snap r4 er4) (.inr ⟨rfl, rfl⟩) rfl rfl k
     ·intro K _ f w u k
      show Wp K ⟨76, (upd 76 (upd 76 f 44 (sb r4)) 31 (sb false)), _⟩
      refine AWops.guard_yes rfl (nl rfl) rfl rfl ?_
      refine s_move (d := (sb r4)) rfl k
     ·intro K _ f w u k
      show Wp K ⟨76, (upd 76 (upd 76 f 45 (sb r4)) 0 (rf 0 0)), _⟩
      refine AWops.guard_no rfl (nl rfl) rfl c5 k
     ·intro K _ f w u k
      show Wp K ⟨76, (upd 76 f 45 (sb r4)), _⟩
      refine AWops.guard_no rfl (nl rfl) rfl c5 k
     ·intro K _ f w u k
      show Wp K ⟨76, (upd 76 f 45 (sb r4)), _⟩
      refine AWops.guard_no rfl (nl rfl) rfl c5 k
     ·intro K _ f w u k
      show Wp K ⟨76, (upd 76 f 45 (sb r4)), _⟩
      refine AWops.guard_no rfl (nl rfl) rfl c5 k
     ·intro K _ f w u k
      show Wp K ⟨76, (upd 76 f 45 (sb r4)), _⟩
      refine AWops.guard_no rfl (nl rfl) rfl c5 k
     ·intro K _ f w u k
      show Wp K ⟨76, (upd 76 f 45 (sb r4)), _⟩
      refine AWops.guard_no rfl (nl rfl) rfl c5 k
     ·intro K _ f w u k
      show Wp K ⟨76, (upd 76 f 45 (sb r4)), _⟩
      refine AWops.guard_no rfl (nl rfl) rfl c5 k
     ·intro K _ f w u k
      show Wp K ⟨76, (upd 76 f 45 (sb r4)), _⟩
      refine AWops.guard_no rfl (nl rfl) rfl c5 k
     ·intro K _ f w u k
      show Wp K ⟨76, (upd 76 f 45 (sb r4)), _⟩
      refine AWops.guard_no rfl (nl rfl) rfl c5 k
     ·intro K _ f w u k
      show Wp K ⟨76, (upd 76 f 45 (sb r4)), _⟩
      refine AWops.guard_no rfl (nl rfl) rfl c5 k
     ·intro K _ f w u k
      show Wp K ⟨76, (upd 76 f 45 (sb r4)), _⟩
      refine AWops.guard_no rfl (nl rfl) rfl c5 k
     ·intro K _ f w u k
      show Wp K ⟨76, (upd 76 f 45 (sb r4)), _⟩
      refine AWops.guard_no rfl (nl rfl) rfl c5 k
     ·intro K _ f w u k
      show Wp K ⟨76, (upd 76 f 45 (sb r4)), _⟩
      refine AWops.guard_no rfl (nl rfl) rfl c5 k
     ·intro K _ f w u k
      show Wp K ⟨76, (upd 76 (upd 76 f 45 (sb r4)) 31 (sb false)), _⟩
      refine AWops.guard_yes rfl (nl rfl) rfl rfl ?_
      refine s_pick_no (d := (sb false)) rfl c5 rfl k
     ·intro K _ f w u k
      show Wp K ⟨76, (upd 76 (upd 76 f 59 (sb false)) 31 (sb false)), _⟩
      refine AWops.guard_yes rfl (nl rfl) rfl rfl ?_
      refine s_move (d := (sb false)) rfl k
     ·intro K _ f w u k
      show Wp K ⟨76, (upd 76 f 60 (sb false)), _⟩
      refine AWops.guard_no rfl (nl rfl) rfl rfl k
     ·intro K _ f w u k
      show Wp K ⟨76, (upd 76 f 60 (sb false)), _⟩
      refine AWops.guard_no rfl (nl rfl) rfl rfl k
     ·intro K _ f w u k
      show Wp K ⟨76, (upd 76 f 60 (sb false)), _⟩
      refine AWops.guard_no rfl (nl rfl) rfl rfl k
     ·intro K _ f w u k
      show Wp K ⟨76, (upd 76 f 60 (sb false)), _⟩
      refine AWops.guard_no rfl (nl rfl) rfl rfl k
     ·intro K _ f w u k
      show Wp K ⟨76, (upd 76 f 60 (sb false)), _⟩
      refine AWops.guard_no rfl (nl rfl) rfl rfl k
     ·intro K _ f w u k
      show Wp K ⟨76, (upd 76 f 60 (sb false)), _⟩
      refine AWops.guard_no rfl (nl rfl) rfl rfl k
     ·intro K _ f w u k
      show Wp K ⟨76, (upd 76 f 60 (sb false)), _⟩
      refine AWops.guard_no rfl (nl rfl) rfl rfl k
     ·intro K _ f w u k
      show Wp K ⟨76, (upd 76 f 60 (sb false)), _⟩
      refine AWops.guard_no rfl (nl rfl) rfl rfl k
     ·intro K _ f w u k
      show Wp K ⟨76, (upd 76 f 60 (sb false)), _⟩
      refine AWops.guard_no rfl (nl rfl) rfl rfl k
     ·intro K _ f w u k
      show Wp K ⟨76, (upd 76 f 60 (sb false)), _⟩
      refine AWops.guard_no rfl (nl rfl) rfl rfl k
     ·intro K _ f w u k
      show Wp K ⟨76, (upd 76 f 60 (sb false)), _⟩
      refine AWops.guard_no rfl (nl rfl) rfl rfl k
     ·intro K _ f w u k
      show Wp K ⟨76, (upd 76 f 60 (sb false)), _⟩
      refine AWops.guard_no rfl (nl rfl) rfl rfl k
     ·intro K _ f w u k
      show Wp K ⟨76, (upd 76 f 60 (sb false)), _⟩
      refine AWops.guard_no rfl (nl rfl) rfl rfl k
     ·intro K _ f w u k
      show Wp K ⟨76, (upd 76 (upd 76 f 60 (sb false)) 31 (sb false)), _⟩
      refine AWops.guard_yes rfl (nl rfl) rfl rfl ?_
      refine s_pick_no (d := (sb false)) rfl rfl rfl k
     ·intro K _ f w u k
      show Wp K ⟨76, (upd 76 (upd 76 f 74 (sb false)) 31 (sb false)), _⟩
      refine s_pick_no (d := (sb false)) rfl rfl rfl k
     ·intro K _ f w u k
      show Wp K ⟨76, (upd 76 f 75 (sb false)), _⟩
      refine s_assign (d := (sb false)) rfl k
    ·refine AWops.weak (st' := ⟨76, (upd 76 topF 2 (sb false)), [(some (AObj.cells false [(C.ref 1 0), (C.ref 2 0), (C.ref 3 0), (C.ref 4 0)])), (o_journal_Journal_0 false (C.ref 3 0) r3.2), (o_dossierref04_Journal_0 false (C.ref 4 0) p2), (o_vdisk_Disk_03 false (C.mp 5) np p3), (o_dossierref03_Disk_0 false (C.own 6 0 p4.L.length 3) p4), (om_ e_vdisk_file p3.files), (or_ e_dossierref03_File p4.L)]⟩) (wg 7 [0, 1, 2, 3, 4, 5, 6] [] hx (le_upd (le_top _) (o1 .sc)) (ac (.cells id (ac (.ref rfl) (ac (.ref rfl) (ac (.ref rfl) (ac (.ref rfl) an))))) (ac (.cells id (ac (.ref rfl) (ac .same (ac .same (ac .sc an))))) (ac (.cells id (ac (.ref rfl) (ac .same (ac .same (ac .sc an))))) (ac (qs rfl) (ac (qo rfl) (ac .map (ac (.cells id (all2_row _)) an)))))))) (AWops.nil (AW.ret ?_))
     obtain rfl := Option.some.inj h
     exact ⟨_, rfl, (wg 7 [0, 1, 2, 3, 4, 5, 6] [] rfl (le_upd (le_top _) (o1 .sc)) (ac (.cells id (ac (.ref rfl) (ac (.ref rfl) (ac (.ref rfl) (ac (.ref rfl) an))))) (ac (.cells id (ac (.ref rfl) (ac .same (ac .same (ac .sc an))))) (ac (.cells id (ac (.ref rfl) (ac .same (ac .same (ac .sc an))))) (ac (qs rfl) (ac (qo rfl) (ac .map (ac (.cells id (all2_row _)) an))))))))⟩
 ·refine AW.draw (n := 76) (L := 8) [(ft 0 3 (rf 0 0) [(0, (rf 0 0))]), (ft 1 4 (rf 0 0) [(3, (rf 0 0))]), (ft 2 5 (rf 0 2) [(4, (rf 0 0))]), (3, ⟨some 6, (rf 3 0), [(5, (rf 0 2))], [(0, (some (AObj.cells false [(C.ref 1 0), (C.ref 2 0), (C.ref 3 0), (C.ref 4 0)])))], [], none⟩), (ft 4 7 (rf 0 0) [(0, (rf 0 0))]), (ft 5 8 (rf 0 0) [(7, (rf 0 0))]), (ft 6 9 (rf 0 3) [(8, (rf 0 0))]), (7, ⟨some 10, (rf 4 0), [(9, (rf 0 3))], [(0, (some (AObj.cells false [(C.ref 1 0), (C.ref 2 0), (C.ref 3 0), (C.ref 4 0)])))], [], none⟩), (8, ⟨some 11, (sb r1), [(6, (rf 3 0)), (10, (rf 4 0))], [(3, (o_vdisk_Disk_03 false (C.mp 5) np p3)), (4, (o_dossierref03_Disk_0 false (C.own 6 0 p4.L.length 3) p4)), (5, (om_ e_vdisk_file p3.files)), (6, (or_ e_dossierref03_File p4.L))], [], none⟩), (ft 9 12 (sb (!r1)) [(11, (sb r1))]), (ft 10 13 (sb (!r1)) [(12, (sb (!r1)))]), (ft 11 14 (D.tup []) [(0, (rf 0 0)), (13, (sb (!r1)))]), (ft 12 15 (D.tup []) [(13, (sb (!r1)))]), (ft 13 16 (D.tup []) [(13, (sb (!r1)))]), (ft 14 17 (D.tup []) [(13, (sb (!r1)))]), (ft 15 18 (D.tup []) [(13, (sb (!r1)))]), (ft 16 19 (D.tup []) [(13, (sb (!r1)))]), (ft 17 20 (D.tup []) [(13, (sb (!r1)))]), (ft 18 21 (D.tup []) [(13, (sb (!r1)))]), (ft 19 22 (D.tup []) [(13, (sb (!r1)))]), (ft 20 23 (D.tup []) [(13, (sb (!r1)))]), (ft 21 24 (D.tup []) [(13, (sb (!r1)))]), (ft 22 25 (sb true) [(13, (sb (!r1)))])] [[], [0], [0, 1], [0, 1, 2], [], [4], [4, 5], [4, 5, 6], (.range 8), (.range 9), (.range 10), (.range 11), (.range 12), (.range 13), (.range 14), (.range 15), (.range 11), (.range 11 ++ [16]), (.range 11 ++ [16, 17]), (.range 11 ++ [16, 17, 18]), (.range 11 ++ [16, 17, 18, 19]), (.range 21), (.range 22)] (nl rfl) [0, 1, 2, 3, 0, 1, 2, 3, 4, 5, 6, 7, 8, 9, 10, 11, 7, 8, 9, 10, 11, 12, 13] rfl (TK := []) rfl AllK.nil' (by repeat (first | refine fC ⟨?_, ?_⟩ ?_ | refine sC rfl ?_ | refine hC rfl ?_ | trivial)) ?_ ?_
  ·refine y8 ?_ ?_ ?_ ?_ ?_ ?_ ?_ ?_ (y8 ?_ ?_ ?_ ?_ ?_ ?_ ?_ ?_ (y4 ?_ ?_ ?_ ?_ (y2 ?_ ?_ (pC ?_ yN))))
   ·intro K _ f w u k
    show Wp K ⟨76, (upd 76 f 0 (rf 0 0)), _⟩
    refine s_move (d := (rf 0 0)) rfl k
   ·intro K _ f w u k
    show Wp K ⟨76, (upd 76 f 3 (rf 0 0)), [_, _, _, _, _, _, _, _]⟩
    refine s_nilCheck (d := (rf 0 0)) rfl (.inl ⟨_, _, rfl⟩) k
   ·intro K _ f w u k
    show Wp K ⟨76, (upd 76 f 4 (rf 0 0)), [_, _, _, _, _, _, _, _]⟩
    refine s_fieldRef F.fo_57_2 (by decide) rfl k
   ·intro K _ f w u k
    show Wp K ⟨76, (upd 76 f 5 (rf 0 2)), [(some (AObj.cells false [(C.ref 1 0), (C.ref 2 0), (C.ref 3 0), (C.ref 4 0)])), _, _, _, _, _, _, _]⟩
    refine s_load1 (c' := (C.ref 3 0)) F.ag_24 rfl rfl k
   ·intro K _ f w u k
    show Wp K ⟨76, (upd 76 f 0 (rf 0 0)), _⟩
    refine s_move (d := (rf 0 0)) rfl k
   ·intro K _ f w u k
    show Wp K ⟨76, (upd 76 f 7 (rf 0 0)), [_, _, _, _, _, _, _, _]⟩
    refine s_nilCheck (d := (rf 0 0)) rfl (.inl ⟨_, _, rfl⟩) k
   ·intro K _ f w u k
    show Wp K ⟨76, (upd 76 f 8 (rf 0 0)), [_, _, _, _, _, _, _, _]⟩
    refine s_fieldRef F.fo_57_3 (by decide) rfl k
   ·intro K _ f w u k
    show Wp K ⟨76, (upd 76 f 9 (rf 0 3)), [(some (AObj.cells false [(C.ref 1 0), (C.ref 2 0), (C.ref 3 0), (C.ref 4 0)])), _, _, _, _, _, _, _]⟩
    refine s_load1 (c' := (C.ref 4 0)) F.ag_51 rfl rfl k
   ·intro K _ f w u k
    show Wp K ⟨76, (upd 76 (upd 76 f 10 (rf 4 0)) 6 (rf 3 0)), [_, _, _, (o_vdisk_Disk_03 false (C.mp 5) np p3), (o_dossierref03_Disk_0 false (C.own 6 0 p4.L.length 3) p4), (om_ e_vdisk_file p3.files), (or_ e_dossierref03_File p4.L), _]⟩
    refine cc [3, 4, 5, 6] [(w 0), (w 1), (w 2), (o_vdisk_Disk_03 false (C.mp 5) np p3), (o_dossierref03_Disk_0 false (C.own 6 0 p4.L.length 3) p4), (om_ e_vdisk_file p3.files), (or_ e_dossierref03_File p4.L), (w 7)] (sb r1) F.ca_52 rfl rfl (ac (.one (.ref rfl)) (ac (.one (.ref rfl)) an)) (ac (.cells (ac (.mp rfl) (ac .sc (ac .sc (ac .sc (ac .sc an)))))) (ac (.cells (ac (.own rfl) (ac .sc (ac .sc (ac .sc an))))) (ac .map (ac (.cells (lend_row _)) an)))) (dossierplain_Same.meets _ p3 p4 r1 er1) k
   ·intro K _ f w u k
    show Wp K ⟨76, (upd 76 f 11 (sb r1)), [_, _, _, _, _, _, _, _]⟩
    refine s_not rfl k
   ·intro K _ f w u k
    show Wp K ⟨76, (upd 76 f 12 (sb (!r1))), _⟩
    refine s_move (d := (sb (!r1))) rfl k
   ·intro K _ f w u k
    show Wp K ⟨76, (upd 76 (upd 76 f 13 (sb (!r1))) 0 (rf 0 0)), _⟩
    refine AWops.guard_no rfl (nl rfl) rfl (by rw [c2] <;> rfl) k
   ·intro K _ f w u k
    show Wp K ⟨76, (upd 76 f 13 (sb (!r1))), _⟩
    refine AWops.guard_no rfl (nl rfl) rfl (by rw [c2] <;> rfl) k
   ·intro K _ f w u k
    show Wp K ⟨76, (upd 76 f 13 (sb (!r1))), _⟩
    refine AWops.guard_no rfl (nl rfl) rfl (by rw [c2] <;> rfl) k
   ·intro K _ f w u k
    show Wp K ⟨76, (upd 76 f 13 (sb (!r1))), _⟩
    refine AWops.guard_no rfl (nl rfl) rfl (by rw [c2] <;> rfl) k
   ·intro K _ f w u k
    show Wp K ⟨76, (upd 76 f 13 (sb (!r1))), _⟩
    refine AWops.guard_no rfl (nl rfl) rfl (by rw [c2] <;> rfl) k
   ·intro K _ f w u k
    show Wp K ⟨76, (upd 76 f 13 (sb (!r1))), _⟩
    refine AWops.guard_no rfl (nl rfl) rfl (by rw [c2] <;> rfl) k
   ·intro K _ f w u k
    show Wp K ⟨76, (upd 76 f 13 (sb (!r1))), _⟩
    refine AWops.guard_no rfl (nl rfl) rfl (by rw [c2] <;> rfl) k
   ·intro K _ f w u k
    show Wp K ⟨76, (upd 76 f 13 (sb (!r1))), _⟩
    refine AWops.guard_no rfl (nl rfl) rfl (by rw [c2] <;> rfl) k
   ·intro K _ f w u k
    show Wp K ⟨76, (upd 76 f 13 (sb (!r1))), _⟩
    refine AWops.guard_no rfl (nl rfl) rfl (by rw [c2] <;> rfl) k
   ·intro K _ f w u k
    show Wp K ⟨76, (upd 76 f 13 (sb (!r1))), _⟩
    refine AWops.guard_no rfl (nl rfl) rfl (by rw [c2] <;> rfl) k
   ·intro K _ f w u k
    show Wp K ⟨76, (upd 76 f 13 (sb (!r1))), _⟩
    refine AWops.guard_no rfl (nl rfl) rfl (by rw [c2] <;> rfl) k
   ·intro K _ f w u k
    show Wp K ⟨76, (upd 76 f 13 (sb (!r1))), _⟩
    refine s_pick_yes (d := (sb true)) rfl (by rw [c2] <;> rfl) rfl k
  ·refine AWops.weak (st' := ⟨76, (upd 76 (upd 76 topF 0 (rf 0 0)) 25 (sb true)), [(some (AObj.cells false [(C.ref 1 0), (C.ref 2 0), (C.ref 3 0), (C.ref 4 0)])), (o_journal_Journal_0 false (C.ref 3 0) p1), (o_dossierref04_Journal_0 false (C.ref 4 0) p2), (o_vdisk_Disk_03 false (C.mp 5) np p3), (o_dossierref03_Disk_0 false (C.own 6 0 p4.L.length 3) p4), (om_ e_vdisk_file p3.files), (or_ e_dossierref03_File p4.L)]⟩) (wg 7 [0, 1, 2, 3, 4, 5, 6] [] hx (le_upd (le_upd (le_top _) (o1 (.ref rfl))) (o1 .sc)) (ac (.cells id (ac (.ref rfl) (ac (.ref rfl) (ac (.ref rfl) (ac (.ref rfl) an))))) (ac (.cells id (ac (.ref rfl) (ac .same (ac .same (ac .sc an))))) (ac (.cells id (ac (.ref rfl) (ac .same (ac .same (ac .sc an))))) (ac (qs rfl) (ac (qo rfl) (ac .map (ac (.cells id (all2_row _)) an)))))))) (AWops.nil ?_)
   refine AW.cond_yes rfl rfl (AW.seq (AW.region ?_))
   refine s_assign (d := (sb false)) rfl (AWops.nil (AW.ret ?_))
   obtain rfl := Option.some.inj h
   exact ⟨_, rfl, (wg 7 [0, 1, 2, 3, 4, 5, 6] [] rfl (le_upd (le_top _) (o1 .sc)) (ac (.cells id (ac (.ref rfl) (ac (.ref rfl) (ac (.ref rfl) (ac (.ref rfl) an))))) (ac (.cells id (ac (.ref rfl) (ac .same (ac .same (ac .sc an))))) (ac (.cells id (ac (.ref rfl) (ac .same (ac .same (ac .sc an))))) (ac (qs rfl) (ac (qo rfl) (ac .map (ac (.cells id (all2_row _)) an))))))))⟩
mutual
def dossierlaw04_JournalOpens.j0 : Nat → Int → Int → Bool → Int → Int → Bool → (List (ByteArray × vdisk_file)) → (List dossierref03_File) → (List Int) → Option Bool
 | 0, _, _, _, _, _, _, _, _, _ => none
 | k + 1, x13, x14, x15, x16, x17, x18, x19, x20, a2 => (dossierlaw04_pair_open_21.f k (⟨(), (), (), ()⟩ : dossierlaw04_pair) a2 (⟨x19, x13, x14, (), x15⟩ : vdisk_Disk) (⟨x20, x16, x17, x18⟩ : dossierref03_Disk)).bind fun r21 => optE r21.2.2.2.2.1 (optE r21.2.2.2.2.2 (if r21.1 = true then ((dossierlaw04_pair_same.f k (⟨(), (), (), ()⟩ : dossierlaw04_pair) r21.2.2.1 r21.2.2.2.1).bind fun r27 => if r27.1 = true then ((dossierlaw04_awake.f k).bind fun r29 => some r29) else (some false)) else (some false)) (fun y25 => if r21.1 = true then ((dossierlaw04_pair_same_22.f k (⟨(), (), (), ()⟩ : dossierlaw04_pair) (⟨(), y25.Snap, y25.L, y25.Stop⟩ : dossierref04_Journal) r21.2.2.1 r21.2.2.2.1).bind fun r31 => if r31.1 = true then ((dossierlaw04_awake.f k).bind fun r33 => some r33) else (some false)) else (some false))) (fun y23 => optE r21.2.2.2.2.2 (if r21.1 = true then ((dossierlaw04_pair_same_22x.f k (⟨(), (), (), ()⟩ : dossierlaw04_pair) (⟨(), y23.snap, y23.l, y23.stopped⟩ : journal_Journal) r21.2.2.1 r21.2.2.2.1).bind fun r37 => if r37.1 = true then ((dossierlaw04_awake.f k).bind fun r39 => some r39) else (some false)) else (some false)) (fun y35 => if r21.1 = true then ((dossierlaw04_pair_same_22xx.f k (⟨(), (), (), ()⟩ : dossierlaw04_pair) (⟨(), y23.snap, y23.l, y23.stopped⟩ : journal_Journal) (⟨(), y35.Snap, y35.L, y35.Stop⟩ : dossierref04_Journal) r21.2.2.1 r21.2.2.2.1).bind fun r41 => if r41.1 = true then ((dossierlaw04_awake.f k).bind fun r43 => some r43) else (some false)) else (some false)))
end
def dossierlaw04_JournalOpens.f (k : Nat) (a0 : List Int) (a1 : List Int) (a2 : List Int) : Option Bool := (vdisk_New.f k 4194304).bind fun r1 => (dossierref03_New.f k 4194304).bind fun r2 => if (r1.2 != 0) = true then (some false) else (if (decide ((a0.length : Int) > 0)) = true then ((dossierplain_Step_Do_20.f k (⟨0, 0, (⟨#[106, 111, 117, 114, 110, 97, 108]⟩ : ByteArray), (⟨#[]⟩ : ByteArray), a0, ([] : List Int)⟩ : dossierplain_Step) r1.1 r2.1).bind fun r5 => if r5.1 = true then (if (decide ((a1.length : Int) > 0)) = true then ((dossierplain_Step_Do_20xx.f k (⟨0, 0, (⟨#[106, 111, 117, 114, 110, 97, 108, 46, 110, 101, 119]⟩ : ByteArray), (⟨#[]⟩ : ByteArray), a1, ([] : List Int)⟩ : dossierplain_Step) r5.2.1 r5.2.2).bind fun r8 => if r8.1 = true then (dossierlaw04_JournalOpens.j0 k r8.2.1.room r8.2.1.used r8.2.1.dead r8.2.2.Most r8.2.2.Burns r8.2.2.Off r8.2.1.files r8.2.2.L a2) else (some false)) else (dossierlaw04_JournalOpens.j0 k r5.2.1.room r5.2.1.used r5.2.1.dead r5.2.2.Most r5.2.2.Burns r5.2.2.Off r5.2.1.files r5.2.2.L a2)) else (some false)) else (if (decide ((a1.length : Int) > 0)) = true then ((dossierplain_Step_Do_20xx.f k (⟨0, 0, (⟨#[106, 111, 117, 114, 110, 97, 108, 46, 110, 101, 119]⟩ : ByteArray), (⟨#[]⟩ : ByteArray), a1, ([] : List Int)⟩ : dossierplain_Step) r1.1 r2.1).bind fun r11 => if r11.1 = true then (dossierlaw04_JournalOpens.j0 k r11.2.1.room r11.2.1.used r11.2.1.dead r11.2.2.Most r11.2.2.Burns r11.2.2.Off r11.2.1.files r11.2.2.L a2) else (some false)) else (dossierlaw04_JournalOpens.j0 k r1.1.room r1.1.used r1.1.dead r2.1.Most r2.1.Burns r2.1.Off r1.1.files r2.1.L a2)))
theorem dossierlaw04_JournalOpens.meets (k : Nat) (a0 : List Int) (a1 : List Int) (a2 : List Int) (r : Bool) (h : dossierlaw04_JournalOpens.f k a0 a1 a2 = some r) : Meets Try.prog 5 [(ds_ e_u8 a0), (ds_ e_u8 a1), (ds_ e_u8 a2)] [] (sb r) [] := by
 unfold dossierlaw04_JournalOpens.f at h
 refine Meets.of_body (n := 64) Try.func5 rfl rfl (nl rfl) fun x hx => ?_
 replace hx : x.k = 0 := hx
 show AW _ x _ _ ⟨64, fr0 [(ds_ e_u8 a0), (ds_ e_u8 a1), (ds_ e_u8 a2)], []⟩
 refine AW.seq (AW.region ?_)
 refine s_assign (d := (sb false)) rfl (AWops.nil (AW.seq (AW.region ?_)))
 obtain ⟨r1, er1, h⟩ := bnd h
 refine cc [] [(o_vdisk_Disk_03 true (C.mp 1) np r1.1), (om_ e_vdisk_file r1.1.files)] (D.tup [(rf 0 0), (si r1.2)]) F.ca_14 rfl rfl (ac (.one .sc) an) an (vdisk_New.meets _ 4194304 r1 er1) (s_move (d := (D.tup [(rf 0 0), (si r1.2)])) rfl (s_extract (d := (rf 0 0)) rfl rfl (s_extract (d := (si r1.2)) rfl rfl (s_assign (d := (rf 0 0)) rfl (s_assign (d := (si r1.2)) rfl (AWops.nil (AW.seq (AW.region ?_))))))))
 obtain ⟨r2, er2, h⟩ := bnd h
 refine cc [] [(o_vdisk_Disk_03 true (C.mp 1) np r1.1), (om_ e_vdisk_file r1.1.files), (o_dossierref03_Disk_0 true (C.own 3 0 r2.1.L.length 3) r2.1), (ow_ e_dossierref03_File r2.1.L)] (D.tup [(rf 2 0), (si r2.2)]) F.ca_19 rfl rfl (ac (.one .sc) an) an (dossierref03_New.meets _ 4194304 r2 er2) (s_move (d := (D.tup [(rf 2 0), (si r2.2)])) rfl (s_extract (d := (rf 2 0)) rfl rfl (s_extract (d := (si r2.2)) rfl rfl (s_assign (d := (rf 2 0)) rfl (s_assign (d := (si r2.2)) rfl (AWops.nil (AW.seq (AW.seq (AW.region ?_)))))))))
 refine s_move (d := (si r1.2)) rfl (s_binI (v := (.bool (r1.2 != 0))) rfl rfl rfl (s_move (d := (sb (r1.2 != 0))) rfl ?_))
 rcases itH h with ⟨c3, h⟩ | ⟨c3, h⟩
 ·refine AWops.guard_no rfl (nl rfl) rfl c3 ?_
  refine AWops.guard_no rfl (nl rfl) rfl c3 ?_
  refine s_pick_yes (d := (sb true)) rfl c3 rfl (AWops.nil ?_)
  refine AW.cond_yes rfl rfl (AW.seq (AW.region ?_))
  refine s_assign (d := (sb false)) rfl (AWops.nil (AW.ret ?_))
  obtain rfl := Option.some.inj h
  exact ⟨_, rfl, (wg 0 [] [] rfl (le_upd (le_top _) (o1 .sc)) an)⟩
 ·refine AWops.guard_yes rfl (nl rfl) rfl c3 ?_
  refine s_move (d := (rf 0 0)) rfl ?_
  refine AWops.guard_yes rfl (nl rfl) rfl c3 ?_
  refine s_ptrNil (b := false) F.u_24 rfl (.inl ⟨⟨_, _, rfl⟩, rfl⟩) (.inl rfl) (s_pick_no (d := (sb false)) rfl c3 rfl (AWops.nil ?_))
  refine AW.cond_no rfl rfl (AW.skip (AW.seq (AW.region ?_)))
  refine s_move (d := (rf 0 0)) rfl (s_move (d := (rf 2 0)) rfl (s_build (ps := [(2, (rf 0 0)), (3, (rf 2 0))]) (cs := [np, np, (C.ref 0 0), (C.ref 2 0)]) F.z_57 rfl F.so_57 rfl rfl (s_box (cs := [np, np, (C.ref 0 0), (C.ref 2 0)]) rfl (List.cons_ne_nil _ _) rfl (s_assign (d := (rf 4 0)) rfl (AWops.nil ?_)))))
  refine AW.seqJ (fun st => ∃ (x13 : Int) (x14 : Int) (x15 : Bool) (x16 : Int) (x17 : Int) (x18 : Bool) (x19 : List (ByteArray × vdisk_file)) (x20 : List dossierref03_File), dossierlaw04_JournalOpens.j0 k x13 x14 x15 x16 x17 x18 x19 x20 a2 = some r ∧ st = ⟨64, (upd 64 (upd 64 topF 2 (ds_ e_u8 a2)) 11 (rf 0 0)), [(some (AObj.cells true [np, np, (C.ref 1 0), (C.ref 2 0)])), (some (AObj.cells true [(C.mp 3), (ci x13), (ci x14), np, (cb x15)])), (some (AObj.cells true [(C.own 4 0 x20.length 3), (ci x16), (ci x17), (cb x18)])), (om_ e_vdisk_file x19), (or_ e_dossierref03_File x20)]⟩) ?_ ?_
  ·refine AW.seq (AW.region ?_)
   refine s_move (d := (ds_ e_u8 a0)) rfl (s_build (ps := [(2, (st_ (⟨#[106, 111, 117, 114, 110, 97, 108]⟩ : ByteArray))), (4, (ds_ e_u8 a0))]) (cs := [(ci 0), (ci 0), (ct (⟨#[106, 111, 117, 114, 110, 97, 108]⟩ : ByteArray)), (ct (⟨#[]⟩ : ByteArray)), (cl_ e_u8 a0), (C.p true (.v (.slice none 0 0)))]) F.z_59 rfl F.so_59 rfl rfl (s_move (d := (ds_ e_u8 a1)) rfl (s_build (ps := [(2, (st_ (⟨#[106, 111, 117, 114, 110, 97, 108, 46, 110, 101, 119]⟩ : ByteArray))), (4, (ds_ e_u8 a1))]) (cs := [(ci 0), (ci 0), (ct (⟨#[106, 111, 117, 114, 110, 97, 108, 46, 110, 101, 119]⟩ : ByteArray)), (ct (⟨#[]⟩ : ByteArray)), (cl_ e_u8 a1), (C.p true (.v (.slice none 0 0)))]) F.z_59 rfl F.so_59 rfl rfl (s_buildSlice (n := 2) (ps := [(0, (D.agg [(ci 0), (ci 0), (ct (⟨#[106, 111, 117, 114, 110, 97, 108]⟩ : ByteArray)), (ct (⟨#[]⟩ : ByteArray)), (cl_ e_u8 a0), (C.p true (.v (.slice none 0 0)))])), (1, (D.agg [(ci 0), (ci 0), (ct (⟨#[106, 111, 117, 114, 110, 97, 108, 46, 110, 101, 119]⟩ : ByteArray)), (ct (⟨#[]⟩ : ByteArray)), (cl_ e_u8 a1), (C.p true (.v (.slice none 0 0)))]))]) (cs := [(ci 0), (ci 0), (ct (⟨#[106, 111, 117, 114, 110, 97, 108]⟩ : ByteArray)), (ct (⟨#[]⟩ : ByteArray)), (cl_ e_u8 a0), (C.p true (.v (.slice none 0 0))), (ci 0), (ci 0), (ct (⟨#[106, 111, 117, 114, 110, 97, 108, 46, 110, 101, 119]⟩ : ByteArray)), (ct (⟨#[]⟩ : ByteArray)), (cl_ e_u8 a1), (C.p true (.v (.slice none 0 0)))]) F.u_60 F.sz_59 F.z_59 rfl rfl (by decide) (by decide) rfl rfl (s_len (n := 2) F.u_60 rfl (.inr ⟨(fun _ _ h => by cases h), ⟨_, rfl⟩⟩) ?_)))))
   refine s_move (d := (si 0)) rfl (AWops.nil (AW.block ?_))
   refine AW.unroll 9 ?_
   refine U.step (AW.seq (AW.region ?_))
   refine s_binI (v := (.bool true)) rfl rfl rfl (AWops.nil (AW.seq ?_))
   refine AW.cond_yes rfl rfl (AW.skip (AW.seq (AW.block (AW.seq (AW.region ?_)))))
   refine s_indexOwn (d := (rf 5 0)) F.u_60 F.sz_59 rfl rfl (by decide) (by decide) rfl (s_loadN (ds := [(ci 0), (ci 0), (ct (⟨#[106, 111, 117, 114, 110, 97, 108]⟩ : ByteArray)), (ct (⟨#[]⟩ : ByteArray)), (cl_ e_u8 a0), (C.p true (.v (.slice none 0 0)))]) F.ag_59 F.sz_59 rfl rfl rfl (s_alloc (cs := [(ci 0), (ci 0), (ct (⟨#[]⟩ : ByteArray)), (ct (⟨#[]⟩ : ByteArray)), (C.p true (.v (.slice none 0 0))), (C.p true (.v (.slice none 0 0)))]) F.z_59 rfl rfl (s_store (cs' := [(ci 0), (ci 0), (ct (⟨#[106, 111, 117, 114, 110, 97, 108]⟩ : ByteArray)), (ct (⟨#[]⟩ : ByteArray)), (cl_ e_u8 a0), (C.p true (.v (.slice none 0 0)))]) rfl rfl rfl (List.cons_ne_nil _ _) rfl F.sz_59 (nl rfl) rfl (AWops.nil (AW.seq (AW.region (s_fieldRef F.fo_59_4 (by decide) rfl (s_load1 (c' := (cl_ e_u8 a0)) F.ag_22 rfl rfl ?_))))))))
   refine s_len (n := a0.length) F.u_22 rfl (.inr ⟨(fun _ _ h => by cases h), ⟨_, rfl⟩⟩) (s_binI (v := (.bool (decide ((a0.length : Int) > 0)))) rfl rfl rfl (s_move (d := (sb (decide ((a0.length : Int) > 0)))) rfl ?_))
   rcases itH h with ⟨c4, h⟩ | ⟨c4, h⟩
   ·refine AWops.guard_yes rfl (nl rfl) rfl c4 ?_
    refine s_loadN (ds := [(ci 0), (ci 0), (ct (⟨#[106, 111, 117, 114, 110, 97, 108]⟩ : ByteArray)), (ct (⟨#[]⟩ : ByteArray)), (cl_ e_u8 a0), (C.p true (.v (.slice none 0 0)))]) F.ag_59 F.sz_59 rfl rfl rfl ?_
    refine AWops.guard_yes rfl (nl rfl) rfl c4 ?_
    refine s_move (d := (rf 0 0)) rfl ?_
    refine AWops.guard_yes rfl (nl rfl) rfl c4 ?_
    refine s_move (d := (rf 2 0)) rfl ?_
    refine AWops.guard_yes rfl (nl rfl) rfl c4 ?_
    obtain ⟨r5, er5, h⟩ := bnd h
    refine cc [0, 2, 1, 3] [(o_vdisk_Disk_03 true (C.mp 1) np r5.2.1), (om_ e_vdisk_file r5.2.1.files), (o_dossierref03_Disk_0 true (C.own 7 0 r5.2.2.L.length 3) r5.2.2), none, (some (AObj.cells true [np, np, (C.ref 0 0), (C.ref 2 0)])), (some (AObj.cells true [(ci 0), (ci 0), (ct (⟨#[106, 111, 117, 114, 110, 97, 108]⟩ : ByteArray)), (ct (⟨#[]⟩ : ByteArray)), (cl_ e_u8 a0), (C.p true (.v (.slice none 0 0))), (ci 0), (ci 0), (ct (⟨#[106, 111, 117, 114, 110, 97, 108, 46, 110, 101, 119]⟩ : ByteArray)), (ct (⟨#[]⟩ : ByteArray)), (cl_ e_u8 a1), (C.p true (.v (.slice none 0 0)))])), (some (AObj.cells true [(ci 0), (ci 0), (ct (⟨#[106, 111, 117, 114, 110, 97, 108]⟩ : ByteArray)), (ct (⟨#[]⟩ : ByteArray)), (cl_ e_u8 a0), (C.p true (.v (.slice none 0 0)))])), (or_ e_dossierref03_File r5.2.2.L)] (sb r5.1) F.ca_20 rfl rfl (ac (LendT.aggL (ac .sc (ac .sc (ac .sc (ac .sc (ac .imm (ac .sc an))))))) (ac (.one (.ref rfl)) (ac (.one (.ref rfl)) an))) (ac (.cells (ac (.mp rfl) (ac .sc (ac .sc (ac .sc (ac .sc an)))))) (ac (.cells (ac (.own rfl) (ac .sc (ac .sc (ac .sc an))))) (ac .map (ac (.cells (lend_row _)) an)))) (dossierplain_Step_Do_20.meets _ (⟨0, 0, (⟨#[106, 111, 117, 114, 110, 97, 108]⟩ : ByteArray), (⟨#[]⟩ : ByteArray), a0, ([] : List Int)⟩ : dossierplain_Step) r1.1 r2.1 r5 er5) ?_
    refine AWops.guard_yes rfl (nl rfl) rfl c4 ?_
    refine s_not rfl (s_pick_yes (d := (sb (!r5.1))) rfl c4 rfl (AWops.nil ?_))
    rcases itH h with ⟨c6, h⟩ | ⟨c6, h⟩
    ·refine AW.cond_no rfl (by rw [c6] <;> rfl) (AW.skip (AW.region ?_))
     refine s_binI (v := (.int .i64 1)) rfl rfl (by rfl) (s_move (d := (si 1)) rfl (AWops.nil ?_))
     refine U.step (AW.seq (AW.region ?_))
     refine s_binI (v := (.bool true)) rfl rfl rfl (AWops.nil (AW.seq ?_))
     refine AW.cond_yes rfl rfl (AW.skip (AW.seq (AW.block (AW.seq (AW.region ?_)))))
     refine s_indexOwn (d := (rf 5 6)) F.u_60 F.sz_59 rfl rfl (by decide) (by decide) rfl (s_loadN (ds := [(ci 0), (ci 0), (ct (⟨#[106, 111, 117, 114, 110, 97, 108, 46, 110, 101, 119]⟩ : ByteArray)), (ct (⟨#[]⟩ : ByteArray)), (cl_ e_u8 a1), (C.p true (.v (.slice none 0 0)))]) F.ag_59 F.sz_59 rfl rfl rfl (s_alloc (cs := [(ci 0), (ci 0), (ct (⟨#[]⟩ : ByteArray)), (ct (⟨#[]⟩ : ByteArray)), (C.p true (.v (.slice none 0 0))), (C.p true (.v (.slice none 0 0)))]) F.z_59 rfl rfl (s_store (cs' := [(ci 0), (ci 0), (ct (⟨#[106, 111, 117, 114, 110, 97, 108, 46, 110, 101, 119]⟩ : ByteArray)), (ct (⟨#[]⟩ : ByteArray)), (cl_ e_u8 a1), (C.p true (.v (.slice none 0 0)))]) rfl rfl rfl (List.cons_ne_nil _ _) rfl F.sz_59 (nl rfl) rfl (AWops.nil (AW.seq (AW.region (s_fieldRef F.fo_59_4 (by decide) rfl (s_load1 (c' := (cl_ e_u8 a1)) F.ag_22 rfl rfl ?_))))))))
     refine s_len (n := a1.length) F.u_22 rfl (.inr ⟨(fun _ _ h => by cases h), ⟨_, rfl⟩⟩) (s_binI (v := (.bool (decide ((a1.length : Int) > 0)))) rfl rfl rfl (s_move (d := (sb (decide ((a1.length : Int) > 0)))) rfl ?_))
     rcases itH h with ⟨c7, h⟩ | ⟨c7, h⟩
     ·refine AWops.guard_yes rfl (nl rfl) rfl c7 ?_
      refine s_loadN (ds := [(ci 0), (ci 0), (ct (⟨#[106, 111, 117, 114, 110, 97, 108, 46, 110, 101, 119]⟩ : ByteArray)), (ct (⟨#[]⟩ : ByteArray)), (cl_ e_u8 a1), (C.p true (.v (.slice none 0 0)))]) F.ag_59 F.sz_59 rfl rfl rfl ?_
      refine AWops.guard_yes rfl (nl rfl) rfl c7 ?_
      refine s_move (d := (rf 0 0)) rfl ?_
      refine AWops.guard_yes rfl (nl rfl) rfl c7 ?_
      refine s_move (d := (rf 2 0)) rfl ?_
      refine AWops.guard_yes rfl (nl rfl) rfl c7 ?_
      obtain ⟨r8, er8, h⟩ := bnd h
      refine cc [0, 2, 1, 7] [(o_vdisk_Disk_03 true (C.mp 1) np r8.2.1), (om_ e_vdisk_file r8.2.1.files), (o_dossierref03_Disk_0 true (C.own 9 0 r8.2.2.L.length 3) r8.2.2), none, (some (AObj.cells true [np, np, (C.ref 0 0), (C.ref 2 0)])), (some (AObj.cells true [(ci 0), (ci 0), (ct (⟨#[106, 111, 117, 114, 110, 97, 108]⟩ : ByteArray)), (ct (⟨#[]⟩ : ByteArray)), (cl_ e_u8 a0), (C.p true (.v (.slice none 0 0))), (ci 0), (ci 0), (ct (⟨#[106, 111, 117, 114, 110, 97, 108, 46, 110, 101, 119]⟩ : ByteArray)), (ct (⟨#[]⟩ : ByteArray)), (cl_ e_u8 a1), (C.p true (.v (.slice none 0 0)))])), (some (AObj.cells true [(ci 0), (ci 0), (ct (⟨#[106, 111, 117, 114, 110, 97, 108]⟩ : ByteArray)), (ct (⟨#[]⟩ : ByteArray)), (cl_ e_u8 a0), (C.p true (.v (.slice none 0 0)))])), none, (some (AObj.cells true [(ci 0), (ci 0), (ct (⟨#[106, 111, 117, 114, 110, 97, 108, 46, 110, 101, 119]⟩ : ByteArray)), (ct (⟨#[]⟩ : ByteArray)), (cl_ e_u8 a1), (C.p true (.v (.slice none 0 0)))])), (or_ e_dossierref03_File r8.2.2.L)] (sb r8.1) F.ca_20 rfl rfl (ac (LendT.aggL (ac .sc (ac .sc (ac .sc (ac .sc (ac .imm (ac .sc an))))))) (ac (.one (.ref rfl)) (ac (.one (.ref rfl)) an))) (ac (.cells (ac (.mp rfl) (ac .sc (ac .sc (ac .sc (ac .sc an)))))) (ac (.cells (ac (.own rfl) (ac .sc (ac .sc (ac .sc an))))) (ac .map (ac (.cells (lend_row _)) an)))) (dossierplain_Step_Do_20xx.meets _ (⟨0, 0, (⟨#[106, 111, 117, 114, 110, 97, 108, 46, 110, 101, 119]⟩ : ByteArray), (⟨#[]⟩ : ByteArray), a1, ([] : List Int)⟩ : dossierplain_Step) r5.2.1 r5.2.2 r8 er8) ?_
      refine AWops.guard_yes rfl (nl rfl) rfl c7 ?_
      refine s_not rfl (s_pick_yes (d := (sb (!r8.1))) rfl c7 rfl (AWops.nil ?_))
      rcases itH h with ⟨c9, h⟩ | ⟨c9, h⟩
      ·refine AW.cond_no rfl (by rw [c9] <;> rfl) (AW.skip (AW.region ?_))
       refine s_binI (v := (.int .i64 2)) rfl rfl (by rfl) (s_move (d := (si 2)) rfl (AWops.nil ?_))
       refine U.step (AW.seq (AW.region ?_))
       refine s_binI (v := (.bool false)) rfl rfl rfl (AWops.nil (AW.seq ?_))
       refine AW.cond_no rfl rfl (AW.exit ?_)
       exact ⟨⟨64, (upd 64 (upd 64 topF 2 (ds_ e_u8 a2)) 11 (rf 0 0)), [(some (AObj.cells true [np, np, (C.ref 1 0), (C.ref 2 0)])), (some (AObj.cells true [(C.mp 3), (ci r8.2.1.room), (ci r8.2.1.used), np, (cb r8.2.1.dead)])), (some (AObj.cells true [(C.own 4 0 r8.2.2.L.length 3), (ci r8.2.2.Most), (ci r8.2.2.Burns), (cb r8.2.2.Off)])), (om_ e_vdisk_file r8.2.1.files), (or_ e_dossierref03_File r8.2.2.L)]⟩, (wg 0 [4, 0, 2, 1, 9] [] hx (le_upd (le_upd (le_top _) (o1 .same)) (o1 (.ref rfl))) (ac (.cells (fun _ => rfl) (ac .sc (ac .sc (ac (.ref rfl) (ac (.ref rfl) an))))) (ac (.cells (fun _ => rfl) (ac (.mp rfl) (ac .sc (ac .sc (ac .sc (ac .sc an)))))) (ac (.cells (fun _ => rfl) (ac (.own rfl) (ac .sc (ac .sc (ac .sc an))))) (ac .map (ac (.cells id (all2_row _)) an)))))), r8.2.1.room, r8.2.1.used, r8.2.1.dead, r8.2.2.Most, r8.2.2.Burns, r8.2.2.Off, r8.2.1.files, r8.2.2.L, h, rfl⟩
      ·refine AW.cond_yes rfl (by rw [c9] <;> rfl) (AW.seq (AW.region ?_))
       refine s_assign (d := (sb false)) rfl (AWops.nil (AW.ret ?_))
       obtain rfl := Option.some.inj h
       exact ⟨_, rfl, (wg 0 [] [] rfl (le_upd (le_top _) (o1 .sc)) an)⟩
     ·iterate 5 refine AWops.guard_no rfl (nl rfl) rfl c7 ?_
      refine s_pick_no (d := (sb false)) rfl c7 rfl (AWops.nil ?_)
      refine AW.cond_no rfl rfl (AW.skip (AW.region ?_))
      refine s_binI (v := (.int .i64 2)) rfl rfl (by rfl) (s_move (d := (si 2)) rfl (AWops.nil ?_))
      refine U.step (AW.seq (AW.region ?_))
      refine s_binI (v := (.bool false)) rfl rfl rfl (AWops.nil (AW.seq ?_))
      refine AW.cond_no rfl rfl (AW.exit ?_)
      exact ⟨⟨64, (upd 64 (upd 64 topF 2 (ds_ e_u8 a2)) 11 (rf 0 0)), [(some (AObj.cells true [np, np, (C.ref 1 0), (C.ref 2 0)])), (some (AObj.cells true [(C.mp 3), (ci r5.2.1.room), (ci r5.2.1.used), np, (cb r5.2.1.dead)])), (some (AObj.cells true [(C.own 4 0 r5.2.2.L.length 3), (ci r5.2.2.Most), (ci r5.2.2.Burns), (cb r5.2.2.Off)])), (om_ e_vdisk_file r5.2.1.files), (or_ e_dossierref03_File r5.2.2.L)]⟩, (wg 0 [4, 0, 2, 1, 7] [] hx (le_upd (le_upd (le_top _) (o1 .same)) (o1 (.ref rfl))) (ac (.cells (fun _ => rfl) (ac .sc (ac .sc (ac (.ref rfl) (ac (.ref rfl) an))))) (ac (.cells (fun _ => rfl) (ac (.mp rfl) (ac .sc (ac .sc (ac .sc (ac .sc an)))))) (ac (.cells (fun _ => rfl) (ac (.own rfl) (ac .sc (ac .sc (ac .sc an))))) (ac .map (ac (.cells id (all2_row _)) an)))))), r5.2.1.room, r5.2.1.used, r5.2.1.dead, r5.2.2.Most, r5.2.2.Burns, r5.2.2.Off, r5.2.1.files, r5.2.2.L, h, rfl⟩
    ·refine AW.cond_yes rfl (by rw [c6] <;> rfl) (AW.seq (AW.region ?_))
     refine s_assign (d := (sb false)) rfl (AWops.nil (AW.ret ?_))
     obtain rfl := Option.some.inj h
     exact ⟨_, rfl, (wg 0 [] [] rfl (le_upd (le_top _) (o1 .sc)) an)⟩
   ·iterate 5 refine AWops.guard_no rfl (nl rfl) rfl c4 ?_
    refine s_pick_no (d := (sb false)) rfl c4 rfl (AWops.nil ?_)
    refine AW.cond_no rfl rfl (AW.skip (AW.region ?_))
    refine s_binI (v := (.int .i64 1)) rfl rfl (by rfl) (s_move (d := (si 1)) rfl (AWops.nil ?_))
    refine U.step (AW.seq (AW.region ?_))
    refine s_binI (v := (.bool true)) rfl rfl rfl (AWops.nil (AW.seq ?_))
    refine AW.cond_yes rfl rfl (AW.skip (AW.seq (AW.block (AW.seq (AW.region ?_)))))
    refine s_indexOwn (d := (rf 5 6)) F.u_60 F.sz_59 rfl rfl (by decide) (by decide) rfl (s_loadN (ds := [(ci 0), (ci 0), (ct (⟨#[106, 111, 117, 114, 110, 97, 108, 46, 110, 101, 119]⟩ : ByteArray)), (ct (⟨#[]⟩ : ByteArray)), (cl_ e_u8 a1), (C.p true (.v (.slice none 0 0)))]) F.ag_59 F.sz_59 rfl rfl rfl (s_alloc (cs := [(ci 0), (ci 0), (ct (⟨#[]⟩ : ByteArray)), (ct (⟨#[]⟩ : ByteArray)), (C.p true (.v (.slice none 0 0))), (C.p true (.v (.slice none 0 0)))]) F.z_59 rfl rfl (s_store (cs' := [(ci 0), (ci 0), (ct (⟨#[106, 111, 117, 114, 110, 97, 108, 46, 110, 101, 119]⟩ : ByteArray)), (ct (⟨#[]⟩ : ByteArray)), (cl_ e_u8 a1), (C.p true (.v (.slice none 0 0)))]) rfl rfl rfl (List.cons_ne_nil _ _) rfl F.sz_59 (nl rfl) rfl (AWops.nil (AW.seq (AW.region (s_fieldRef F.fo_59_4 (by decide) rfl (s_load1 (c' := (cl_ e_u8 a1)) F.ag_22 rfl rfl ?_))))))))
    refine s_len (n := a1.length) F.u_22 rfl (.inr ⟨(fun _ _ h => by cases h), ⟨_, rfl⟩⟩) (s_binI (v := (.bool (decide ((a1.length : Int) > 0)))) rfl rfl rfl (s_move (d := (sb (decide ((a1.length : Int) > 0)))) rfl ?_))
    rcases itH h with ⟨c10, h⟩ | ⟨c10, h⟩
    ·refine AWops.guard_yes rfl (nl rfl) rfl c10 ?_
     refine s_loadN (ds := [(ci 0), (ci 0), (ct (⟨#[106, 111, 117, 114, 110, 97, 108, 46, 110, 101, 119]⟩ : ByteArray)), (ct (⟨#[]⟩ : ByteArray)), (cl_ e_u8 a1), (C.p true (.v (.slice none 0 0)))]) F.ag_59 F.sz_59 rfl rfl rfl ?_
     refine AWops.guard_yes rfl (nl rfl) rfl c10 ?_
     refine s_move (d := (rf 0 0)) rfl ?_
     refine AWops.guard_yes rfl (nl rfl) rfl c10 ?_
     refine s_move (d := (rf 2 0)) rfl ?_
     refine AWops.guard_yes rfl (nl rfl) rfl c10 ?_
     obtain ⟨r11, er11, h⟩ := bnd h
     refine cc [0, 2, 1, 3] [(o_vdisk_Disk_03 true (C.mp 1) np r11.2.1), (om_ e_vdisk_file r11.2.1.files), (o_dossierref03_Disk_0 true (C.own 8 0 r11.2.2.L.length 3) r11.2.2), none, (some (AObj.cells true [np, np, (C.ref 0 0), (C.ref 2 0)])), (some (AObj.cells true [(ci 0), (ci 0), (ct (⟨#[106, 111, 117, 114, 110, 97, 108]⟩ : ByteArray)), (ct (⟨#[]⟩ : ByteArray)), (cl_ e_u8 a0), (C.p true (.v (.slice none 0 0))), (ci 0), (ci 0), (ct (⟨#[106, 111, 117, 114, 110, 97, 108, 46, 110, 101, 119]⟩ : ByteArray)), (ct (⟨#[]⟩ : ByteArray)), (cl_ e_u8 a1), (C.p true (.v (.slice none 0 0)))])), (some (AObj.cells true [(ci 0), (ci 0), (ct (⟨#[106, 111, 117, 114, 110, 97, 108]⟩ : ByteArray)), (ct (⟨#[]⟩ : ByteArray)), (cl_ e_u8 a0), (C.p true (.v (.slice none 0 0)))])), (some (AObj.cells true [(ci 0), (ci 0), (ct (⟨#[106, 111, 117, 114, 110, 97, 108, 46, 110, 101, 119]⟩ : ByteArray)), (ct (⟨#[]⟩ : ByteArray)), (cl_ e_u8 a1), (C.p true (.v (.slice none 0 0)))])), (or_ e_dossierref03_File r11.2.2.L)] (sb r11.1) F.ca_20 rfl rfl (ac (LendT.aggL (ac .sc (ac .sc (ac .sc (ac .sc (ac .imm (ac .sc an))))))) (ac (.one (.ref rfl)) (ac (.one (.ref rfl)) an))) (ac (.cells (ac (.mp rfl) (ac .sc (ac .sc (ac .sc (ac .sc an)))))) (ac (.cells (ac (.own rfl) (ac .sc (ac .sc (ac .sc an))))) (ac .map (ac (.cells (lend_row _)) an)))) (dossierplain_Step_Do_20xx.meets _ (⟨0, 0, (⟨#[106, 111, 117, 114, 110, 97, 108, 46, 110, 101, 119]⟩ : ByteArray), (⟨#[]⟩ : ByteArray), a1, ([] : List Int)⟩ : dossierplain_Step) r1.1 r2.1 r11 er11) ?_
     refine AWops.guard_yes rfl (nl rfl) rfl c10 ?_
     refine s_not rfl (s_pick_yes (d := (sb (!r11.1))) rfl c10 rfl (AWops.nil ?_))
     rcases itH h with ⟨c12, h⟩ | ⟨c12, h⟩
     ·refine AW.cond_no rfl (by rw [c12] <;> rfl) (AW.skip (AW.region ?_))
      refine s_binI (v := (.int .i64 2)) rfl rfl (by rfl) (s_move (d := (si 2)) rfl (AWops.nil ?_))
      refine U.step (AW.seq (AW.region ?_))
      refine s_binI (v := (.bool false)) rfl rfl rfl (AWops.nil (AW.seq ?_))
      refine AW.cond_no rfl rfl (AW.exit ?_)
      exact ⟨⟨64, (upd 64 (upd 64 topF 2 (ds_ e_u8 a2)) 11 (rf 0 0)), [(some (AObj.cells true [np, np, (C.ref 1 0), (C.ref 2 0)])), (some (AObj.cells true [(C.mp 3), (ci r11.2.1.room), (ci r11.2.1.used), np, (cb r11.2.1.dead)])), (some (AObj.cells true [(C.own 4 0 r11.2.2.L.length 3), (ci r11.2.2.Most), (ci r11.2.2.Burns), (cb r11.2.2.Off)])), (om_ e_vdisk_file r11.2.1.files), (or_ e_dossierref03_File r11.2.2.L)]⟩, (wg 0 [4, 0, 2, 1, 8] [] hx (le_upd (le_upd (le_top _) (o1 .same)) (o1 (.ref rfl))) (ac (.cells (fun _ => rfl) (ac .sc (ac .sc (ac (.ref rfl) (ac (.ref rfl) an))))) (ac (.cells (fun _ => rfl) (ac (.mp rfl) (ac .sc (ac .sc (ac .sc (ac .sc an)))))) (ac (.cells (fun _ => rfl) (ac (.own rfl) (ac .sc (ac .sc (ac .sc an))))) (ac .map (ac (.cells id (all2_row _)) an)))))), r11.2.1.room, r11.2.1.used, r11.2.1.dead, r11.2.2.Most, r11.2.2.Burns, r11.2.2.Off, r11.2.1.files, r11.2.2.L, h, rfl⟩
     ·refine AW.cond_yes rfl (by rw [c12] <;> rfl) (AW.seq (AW.region ?_))
      refine s_assign (d := (sb false)) rfl (AWops.nil (AW.ret ?_))
      obtain rfl := Option.some.inj h
      exact ⟨_, rfl, (wg 0 [] [] rfl (le_upd (le_top _) (o1 .sc)) an)⟩
    ·iterate 5 refine AWops.guard_no rfl (nl rfl) rfl c10 ?_
     refine s_pick_no (d := (sb false)) rfl c10 rfl (AWops.nil ?_)
     refine AW.cond_no rfl rfl (AW.skip (AW.region ?_))
     refine s_binI (v := (.int .i64 2)) rfl rfl (by rfl) (s_move (d := (si 2)) rfl (AWops.nil ?_))
     refine U.step (AW.seq (AW.region ?_))
     refine s_binI (v := (.bool false)) rfl rfl rfl (AWops.nil (AW.seq ?_))
     refine AW.cond_no rfl rfl (AW.exit ?_)
     exact ⟨⟨64, (upd 64 (upd 64 topF 2 (ds_ e_u8 a2)) 11 (rf 0 0)), [(some (AObj.cells true [np, np, (C.ref 1 0), (C.ref 2 0)])), (some (AObj.cells true [(C.mp 3), (ci r1.1.room), (ci r1.1.used), np, (cb r1.1.dead)])), (some (AObj.cells true [(C.own 4 0 r2.1.L.length 3), (ci r2.1.Most), (ci r2.1.Burns), (cb r2.1.Off)])), (om_ e_vdisk_file r1.1.files), (or_ e_dossierref03_File r2.1.L)]⟩, (wg 0 [4, 0, 2, 1, 3] [] hx (le_upd (le_upd (le_top _) (o1 .same)) (o1 (.ref rfl))) (ac (.cells (fun _ => rfl) (ac .sc (ac .sc (ac (.ref rfl) (ac (.ref rfl) an))))) (ac (.cells (fun _ => rfl) (ac (.mp rfl) (ac .sc (ac .sc (ac .sc (ac .sc an)))))) (ac (.cells (fun _ => rfl) (ac (.own rfl) (ac .sc (ac .sc (ac .sc an))))) (ac .map (ac (.cells (fun _ => rfl) (all2_row _)) an)))))), r1.1.room, r1.1.used, r1.1.dead, r2.1.Most, r2.1.Burns, r2.1.Off, r1.1.files, r2.1.L, h, rfl⟩
  ·rintro st ⟨x13, x14, x15, x16, x17, x18, x19, x20, h, rfl⟩
   cases k with
   | zero => exact absurd h (by simp [dossierlaw04_JournalOpens.j0])
   | succ qj0 =>
    replace h := (dossierlaw04_JournalOpens.j0.eq_2 _ _ _ _ _ _ _ _ _ _).symm.trans h
    refine AW.seq (AW.region ?_)
    refine s_move (d := (rf 0 0)) rfl (s_move (d := (ds_ e_u8 a2)) rfl ?_)
    obtain ⟨r21, er21, h⟩ := bnd h
    rcases optH h with ⟨c22, h⟩ | ⟨y23, c22, h⟩
    ·rcases optH h with ⟨c24, h⟩ | ⟨y25, c24, h⟩
     ·refine cc [0, 1, 2, 3, 4] [(some (AObj.cells true [np, np, (C.ref 1 0), (C.ref 2 0)])), (o_vdisk_Disk_03 true (C.mp 3) np r21.2.2.1), (o_dossierref03_Disk_0 true (C.own 5 0 r21.2.2.2.1.L.length 3) r21.2.2.2.1), (om_ e_vdisk_file r21.2.2.1.files), none, (or_ e_dossierref03_File r21.2.2.2.1.L)] (sb r21.1) F.ca_21 rfl rfl (ac (.one (.ref rfl)) (ac (.one .imm) an)) (ac (.cells (ac .sc (ac .sc (ac (.ref rfl) (ac (.ref rfl) an))))) (ac (.cells (ac (.mp rfl) (ac .sc (ac .sc (ac .sc (ac .sc an)))))) (ac (.cells (ac (.own rfl) (ac .sc (ac .sc (ac .sc an))))) (ac .map (ac (.cells (lend_row _)) an))))) (Meets.eqs ((optE_none c22).trans ((optE_none c24))) ((optE_none c22).trans ((optE_none c24))) (dossierlaw04_pair_open_21.meets _ (⟨(), (), (), ()⟩ : dossierlaw04_pair) a2 (⟨x19, x13, x14, (), x15⟩ : vdisk_Disk) (⟨x20, x16, x17, x18⟩ : dossierref03_Disk) r21 er21)) (s_move (d := (sb r21.1)) rfl ?_)
      rcases itH h with ⟨c26, h⟩ | ⟨c26, h⟩
      ·refine AWops.guard_yes rfl (nl rfl) rfl c26 ?_
       refine s_move (d := (rf 0 0)) rfl ?_
       refine AWops.guard_yes rfl (nl rfl) rfl c26 ?_
       obtain ⟨r27, er27, h⟩ := bnd h
       refine cc [0, 1, 2, 3, 5] [(some (AObj.cells true [np, np, (C.ref 1 0), (C.ref 2 0)])), (o_vdisk_Disk_03 true (C.mp 3) np r21.2.2.1), (o_dossierref03_Disk_0 true (C.own 5 0 r21.2.2.2.1.L.length 3) r21.2.2.2.1), (om_ e_vdisk_file r21.2.2.1.files), none, (or_ e_dossierref03_File r21.2.2.2.1.L)] (sb r27.1) F.ca_22 rfl rfl (ac (.one (.ref rfl)) an) (ac (.cells (ac .sc (ac .sc (ac (.ref rfl) (ac (.ref rfl) an))))) (ac (.cells (ac (.mp rfl) (ac .sc (ac .sc (ac .sc (ac .sc an)))))) (ac (.cells (ac (.own rfl) (ac .sc (ac .sc (ac .sc an))))) (ac .map (ac (.cells (lend_row _)) an))))) (dossierlaw04_pair_same.meets _ (⟨(), (), (), ()⟩ : dossierlaw04_pair) r21.2.2.1 r21.2.2.2.1 r27 er27) (s_pick_yes (d := (sb r27.1)) rfl c26 rfl (s_move (d := (sb r27.1)) rfl ?_))
       rcases itH h with ⟨c28, h⟩ | ⟨c28, h⟩
       ·refine AWops.guard_yes rfl (nl rfl) rfl c28 ?_
        obtain ⟨r29, er29, h⟩ := bnd h
        refine cc [] [(some (AObj.cells true [np, np, (C.ref 1 0), (C.ref 2 0)])), (o_vdisk_Disk_03 true (C.mp 3) np r21.2.2.1), (o_dossierref03_Disk_0 true (C.own 5 0 r21.2.2.2.1.L.length 3) r21.2.2.2.1), (om_ e_vdisk_file r21.2.2.1.files), none, (or_ e_dossierref03_File r21.2.2.2.1.L)] (sb r29) F.ca_13 rfl rfl an an (dossierlaw04_awake.meets _  r29 er29) (s_pick_yes (d := (sb r29)) rfl c28 rfl (s_assign (d := (sb r29)) rfl (AWops.nil (AW.ret ?_))))
        obtain rfl := Option.some.inj h
        exact ⟨_, rfl, (wg 0 [] [] rfl (le_upd (le_top _) (o1 .sc)) an)⟩
       ·refine AWops.guard_no rfl (nl rfl) rfl c28 ?_
        refine s_pick_no (d := (sb false)) rfl c28 rfl (s_assign (d := (sb false)) rfl (AWops.nil (AW.ret ?_)))
        obtain rfl := Option.some.inj h
        exact ⟨_, rfl, (wg 0 [] [] rfl (le_upd (le_top _) (o1 .sc)) an)⟩
      ·refine AWops.guard_no rfl (nl rfl) rfl c26 ?_
       refine AWops.guard_no rfl (nl rfl) rfl c26 ?_
       refine s_pick_no (d := (sb false)) rfl c26 rfl (s_move (d := (sb false)) rfl ?_)
       refine AWops.guard_no rfl (nl rfl) rfl rfl ?_
       refine s_pick_no (d := (sb false)) rfl rfl rfl (s_assign (d := (sb false)) rfl (AWops.nil (AW.ret ?_)))
       obtain rfl := Option.some.inj h
       exact ⟨_, rfl, (wg 0 [] [] rfl (le_upd (le_top _) (o1 .sc)) an)⟩
     ·refine cc [0, 1, 2, 3, 4] [(some (AObj.cells true [np, (C.ref 5 0), (C.ref 1 0), (C.ref 2 0)])), (o_vdisk_Disk_03 true (C.mp 3) np r21.2.2.1), (o_dossierref03_Disk_0 true (C.own 6 0 r21.2.2.2.1.L.length 3) r21.2.2.2.1), (om_ e_vdisk_file r21.2.2.1.files), none, (o_dossierref04_Journal_0 false (C.ref 2 0) y25), (or_ e_dossierref03_File r21.2.2.2.1.L)] (sb r21.1) F.ca_21 rfl rfl (ac (.one (.ref rfl)) (ac (.one .imm) an)) (ac (.cells (ac .sc (ac .sc (ac (.ref rfl) (ac (.ref rfl) an))))) (ac (.cells (ac (.mp rfl) (ac .sc (ac .sc (ac .sc (ac .sc an)))))) (ac (.cells (ac (.own rfl) (ac .sc (ac .sc (ac .sc an))))) (ac .map (ac (.cells (lend_row _)) an))))) (Meets.eqs ((optE_none c22).trans ((optE_some c24))) ((optE_none c22).trans ((optE_some c24))) (dossierlaw04_pair_open_21.meets _ (⟨(), (), (), ()⟩ : dossierlaw04_pair) a2 (⟨x19, x13, x14, (), x15⟩ : vdisk_Disk) (⟨x20, x16, x17, x18⟩ : dossierref03_Disk) r21 er21)) (s_move (d := (sb r21.1)) rfl ?_)
      rcases itH h with ⟨c30, h⟩ | ⟨c30, h⟩
      ·refine AWops.guard_yes rfl (nl rfl) rfl c30 ?_
       refine s_move (d := (rf 0 0)) rfl ?_
       refine AWops.guard_yes rfl (nl rfl) rfl c30 ?_
       obtain ⟨r31, er31, h⟩ := bnd h
       refine cc [0, 5, 1, 2, 3, 6] [(some (AObj.cells true [np, (C.ref 5 0), (C.ref 1 0), (C.ref 2 0)])), (o_vdisk_Disk_03 true (C.mp 3) np r21.2.2.1), (o_dossierref03_Disk_0 true (C.own 6 0 r21.2.2.2.1.L.length 3) r21.2.2.2.1), (om_ e_vdisk_file r21.2.2.1.files), none, (o_dossierref04_Journal_0 false (C.ref 2 0) r31.2.2), (or_ e_dossierref03_File r21.2.2.2.1.L)] (sb r31.1) F.ca_22 rfl rfl (ac (.one (.ref rfl)) an) (ac (.cells (ac .sc (ac (.ref rfl) (ac (.ref rfl) (ac (.ref rfl) an))))) (ac (.cells (ac (.ref rfl) (ac .imm (ac .imm (ac .sc an))))) (ac (.cells (ac (.mp rfl) (ac .sc (ac .sc (ac .sc (ac .sc an)))))) (ac (.cells (ac (.own rfl) (ac .sc (ac .sc (ac .sc an))))) (ac .map (ac (.cells (lend_row _)) an)))))) (dossierlaw04_pair_same_22.meets _ (⟨(), (), (), ()⟩ : dossierlaw04_pair) (⟨(), y25.Snap, y25.L, y25.Stop⟩ : dossierref04_Journal) r21.2.2.1 r21.2.2.2.1 r31 er31) (s_pick_yes (d := (sb r31.1)) rfl c30 rfl (s_move (d := (sb r31.1)) rfl ?_))
       rcases itH h with ⟨c32, h⟩ | ⟨c32, h⟩
       ·refine AWops.guard_yes rfl (nl rfl) rfl c32 ?_
        obtain ⟨r33, er33, h⟩ := bnd h
        refine cc [] [(some (AObj.cells true [np, (C.ref 5 0), (C.ref 1 0), (C.ref 2 0)])), (o_vdisk_Disk_03 true (C.mp 3) np r21.2.2.1), (o_dossierref03_Disk_0 true (C.own 6 0 r21.2.2.2.1.L.length 3) r21.2.2.2.1), (om_ e_vdisk_file r21.2.2.1.files), none, (o_dossierref04_Journal_0 false (C.ref 2 0) r31.2.2), (or_ e_dossierref03_File r21.2.2.2.1.L)] (sb r33) F.ca_13 rfl rfl an an (dossierlaw04_awake.meets _  r33 er33) (s_pick_yes (d := (sb r33)) rfl c32 rfl (s_assign (d := (sb r33)) rfl (AWops.nil (AW.ret ?_))))
        obtain rfl := Option.some.inj h
        exact ⟨_, rfl, (wg 0 [] [] rfl (le_upd (le_top _) (o1 .sc)) an)⟩
       ·refine AWops.guard_no rfl (nl rfl) rfl c32 ?_
        refine s_pick_no (d := (sb false)) rfl c32 rfl (s_assign (d := (sb false)) rfl (AWops.nil (AW.ret ?_)))
        obtain rfl := Option.some.inj h
        exact ⟨_, rfl, (wg 0 [] [] rfl (le_upd (le_top _) (o1 .sc)) an)⟩
      ·refine AWops.guard_no rfl (nl rfl) rfl c30 ?_
       refine AWops.guard_no rfl (nl rfl) rfl c30 ?_
       refine s_pick_no (d := (sb false)) rfl c30 rfl (s_move (d := (sb false)) rfl ?_)
       refine AWops.guard_no rfl (nl rfl) rfl rfl ?_
       refine s_pick_no (d := (sb false)) rfl rfl rfl (s_assign (d := (sb false)) rfl (AWops.nil (AW.ret ?_)))
       obtain rfl := Option.some.inj h
       exact ⟨_, rfl, (wg 0 [] [] rfl (le_upd (le_top _) (o1 .sc)) an)⟩
    ·rcases optH h with ⟨c34, h⟩ | ⟨y35, c34, h⟩
     ·refine cc [0, 1, 2, 3, 4] [(some (AObj.cells true [(C.ref 5 0), np, (C.ref 1 0), (C.ref 2 0)])), (o_vdisk_Disk_03 true (C.mp 3) np r21.2.2.1), (o_dossierref03_Disk_0 true (C.own 6 0 r21.2.2.2.1.L.length 3) r21.2.2.2.1), (om_ e_vdisk_file r21.2.2.1.files), none, (o_journal_Journal_0 false (C.ref 1 0) y23), (or_ e_dossierref03_File r21.2.2.2.1.L)] (sb r21.1) F.ca_21 rfl rfl (ac (.one (.ref rfl)) (ac (.one .imm) an)) (ac (.cells (ac .sc (ac .sc (ac (.ref rfl) (ac (.ref rfl) an))))) (ac (.cells (ac (.mp rfl) (ac .sc (ac .sc (ac .sc (ac .sc an)))))) (ac (.cells (ac (.own rfl) (ac .sc (ac .sc (ac .sc an))))) (ac .map (ac (.cells (lend_row _)) an))))) (Meets.eqs ((optE_some c22).trans ((optE_none c34))) ((optE_some c22).trans ((optE_none c34))) (dossierlaw04_pair_open_21.meets _ (⟨(), (), (), ()⟩ : dossierlaw04_pair) a2 (⟨x19, x13, x14, (), x15⟩ : vdisk_Disk) (⟨x20, x16, x17, x18⟩ : dossierref03_Disk) r21 er21)) (s_move (d := (sb r21.1)) rfl ?_)
      rcases itH h with ⟨c36, h⟩ | ⟨c36, h⟩
      ·refine AWops.guard_yes rfl (nl rfl) rfl c36 ?_
       refine s_move (d := (rf 0 0)) rfl ?_
       refine AWops.guard_yes rfl (nl rfl) rfl c36 ?_
       obtain ⟨r37, er37, h⟩ := bnd h
       refine cc [0, 5, 1, 2, 3, 6] [(some (AObj.cells true [(C.ref 5 0), np, (C.ref 1 0), (C.ref 2 0)])), (o_vdisk_Disk_03 true (C.mp 3) np r21.2.2.1), (o_dossierref03_Disk_0 true (C.own 6 0 r21.2.2.2.1.L.length 3) r21.2.2.2.1), (om_ e_vdisk_file r21.2.2.1.files), none, (o_journal_Journal_0 false (C.ref 1 0) r37.2.2), (or_ e_dossierref03_File r21.2.2.2.1.L)] (sb r37.1) F.ca_22 rfl rfl (ac (.one (.ref rfl)) an) (ac (.cells (ac (.ref rfl) (ac .sc (ac (.ref rfl) (ac (.ref rfl) an))))) (ac (.cells (ac (.ref rfl) (ac .imm (ac .imm (ac .sc an))))) (ac (.cells (ac (.mp rfl) (ac .sc (ac .sc (ac .sc (ac .sc an)))))) (ac (.cells (ac (.own rfl) (ac .sc (ac .sc (ac .sc an))))) (ac .map (ac (.cells (lend_row _)) an)))))) (dossierlaw04_pair_same_22x.meets _ (⟨(), (), (), ()⟩ : dossierlaw04_pair) (⟨(), y23.snap, y23.l, y23.stopped⟩ : journal_Journal) r21.2.2.1 r21.2.2.2.1 r37 er37) (s_pick_yes (d := (sb r37.1)) rfl c36 rfl (s_move (d := (sb r37.1)) rfl ?_))
       rcases itH h with ⟨c38, h⟩ | ⟨c38, h⟩
       ·refine AWops.guard_yes rfl (nl rfl) rfl c38 ?_
        obtain ⟨r39, er39, h⟩ := bnd h
        refine cc [] [(some (AObj.cells true [(C.ref 5 0), np, (C.ref 1 0), (C.ref 2 0)])), (o_vdisk_Disk_03 true (C.mp 3) np r21.2.2.1), (o_dossierref03_Disk_0 true (C.own 6 0 r21.2.2.2.1.L.length 3) r21.2.2.2.1), (om_ e_vdisk_file r21.2.2.1.files), none, (o_journal_Journal_0 false (C.ref 1 0) r37.2.2), (or_ e_dossierref03_File r21.2.2.2.1.L)] (sb r39) F.ca_13 rfl rfl an an (dossierlaw04_awake.meets _  r39 er39) (s_pick_yes (d := (sb r39)) rfl c38 rfl (s_assign (d := (sb r39)) rfl (AWops.nil (AW.ret ?_))))
        obtain rfl := Option.some.inj h
        exact ⟨_, rfl, (wg 0 [] [] rfl (le_upd (le_top _) (o1 .sc)) an)⟩
       ·refine AWops.guard_no rfl (nl rfl) rfl c38 ?_
        refine s_pick_no (d := (sb false)) rfl c38 rfl (s_assign (d := (sb false)) rfl (AWops.nil (AW.ret ?_)))
        obtain rfl := Option.some.inj h
        exact ⟨_, rfl, (wg 0 [] [] rfl (le_upd (le_top _) (o1 .sc)) an)⟩
      ·refine AWops.guard_no rfl (nl rfl) rfl c36 ?_
       refine AWops.guard_no rfl (nl rfl) rfl c36 ?_
       refine s_pick_no (d := (sb false)) rfl c36 rfl (s_move (d := (sb false)) rfl ?_)
       refine AWops.guard_no rfl (nl rfl) rfl rfl ?_
       refine s_pick_no (d := (sb false)) rfl rfl rfl (s_assign (d := (sb false)) rfl (AWops.nil (AW.ret ?_)))
       obtain rfl := Option.some.inj h
       exact ⟨_, rfl, (wg 0 [] [] rfl (le_upd (le_top _) (o1 .sc)) an)⟩
     ·refine cc [0, 1, 2, 3, 4] [(some (AObj.cells true [(C.ref 5 0), (C.ref 6 0), (C.ref 1 0), (C.ref 2 0)])), (o_vdisk_Disk_03 true (C.mp 3) np r21.2.2.1), (o_dossierref03_Disk_0 true (C.own 7 0 r21.2.2.2.1.L.length 3) r21.2.2.2.1), (om_ e_vdisk_file r21.2.2.1.files), none, (o_journal_Journal_0 false (C.ref 1 0) y23), (o_dossierref04_Journal_0 false (C.ref 2 0) y35), (or_ e_dossierref03_File r21.2.2.2.1.L)] (sb r21.1) F.ca_21 rfl rfl (ac (.one (.ref rfl)) (ac (.one .imm) an)) (ac (.cells (ac .sc (ac .sc (ac (.ref rfl) (ac (.ref rfl) an))))) (ac (.cells (ac (.mp rfl) (ac .sc (ac .sc (ac .sc (ac .sc an)))))) (ac (.cells (ac (.own rfl) (ac .sc (ac .sc (ac .sc an))))) (ac .map (ac (.cells (lend_row _)) an))))) (Meets.eqs ((optE_some c22).trans ((optE_some c34))) ((optE_some c22).trans ((optE_some c34))) (dossierlaw04_pair_open_21.meets _ (⟨(), (), (), ()⟩ : dossierlaw04_pair) a2 (⟨x19, x13, x14, (), x15⟩ : vdisk_Disk) (⟨x20, x16, x17, x18⟩ : dossierref03_Disk) r21 er21)) (s_move (d := (sb r21.1)) rfl ?_)
      rcases itH h with ⟨c40, h⟩ | ⟨c40, h⟩
      ·refine AWops.guard_yes rfl (nl rfl) rfl c40 ?_
       refine s_move (d := (rf 0 0)) rfl ?_
       refine AWops.guard_yes rfl (nl rfl) rfl c40 ?_
       obtain ⟨r41, er41, h⟩ := bnd h
       refine cc [0, 5, 6, 1, 2, 3, 7] [(some (AObj.cells true [(C.ref 5 0), (C.ref 6 0), (C.ref 1 0), (C.ref 2 0)])), (o_vdisk_Disk_03 true (C.mp 3) np r21.2.2.1), (o_dossierref03_Disk_0 true (C.own 7 0 r21.2.2.2.1.L.length 3) r21.2.2.2.1), (om_ e_vdisk_file r21.2.2.1.files), none, (o_journal_Journal_0 false (C.ref 1 0) r41.2.2.1), (o_dossierref04_Journal_0 false (C.ref 2 0) r41.2.2.2), (or_ e_dossierref03_File r21.2.2.2.1.L)] (sb r41.1) F.ca_22 rfl rfl (ac (.one (.ref rfl)) an) (ac (.cells (ac (.ref rfl) (ac (.ref rfl) (ac (.ref rfl) (ac (.ref rfl) an))))) (ac (.cells (ac (.ref rfl) (ac .imm (ac .imm (ac .sc an))))) (ac (.cells (ac (.ref rfl) (ac .imm (ac .imm (ac .sc an))))) (ac (.cells (ac (.mp rfl) (ac .sc (ac .sc (ac .sc (ac .sc an)))))) (ac (.cells (ac (.own rfl) (ac .sc (ac .sc (ac .sc an))))) (ac .map (ac (.cells (lend_row _)) an))))))) (dossierlaw04_pair_same_22xx.meets _ (⟨(), (), (), ()⟩ : dossierlaw04_pair) (⟨(), y23.snap, y23.l, y23.stopped⟩ : journal_Journal) (⟨(), y35.Snap, y35.L, y35.Stop⟩ : dossierref04_Journal) r21.2.2.1 r21.2.2.2.1 r41 er41) (s_pick_yes (d := (sb r41.1)) rfl c40 rfl (s_move (d := (sb r41.1)) rfl ?_))
       rcases itH h with ⟨c42, h⟩ | ⟨c42, h⟩
       ·refine AWops.guard_yes rfl (nl rfl) rfl c42 ?_
        obtain ⟨r43, er43, h⟩ := bnd h
        refine cc [] [(some (AObj.cells true [(C.ref 5 0), (C.ref 6 0), (C.ref 1 0), (C.ref 2 0)])), (o_vdisk_Disk_03 true (C.mp 3) np r21.2.2.1), (o_dossierref03_Disk_0 true (C.own 7 0 r21.2.2.2.1.L.length 3) r21.2.2.2.1), (om_ e_vdisk_file r21.2.2.1.files), none, (o_journal_Journal_0 false (C.ref 1 0) r41.2.2.1), (o_dossierref04_Journal_0 false (C.ref 2 0) r41.2.2.2), (or_ e_dossierref03_File r21.2.2.2.1.L)] (sb r43) F.ca_13 rfl rfl an an (dossierlaw04_awake.meets _  r43 er43) (s_pick_yes (d := (sb r43)) rfl c42 rfl (s_assign (d := (sb r43)) rfl (AWops.nil (AW.ret ?_))))
        obtain rfl := Option.some.inj h
        exact ⟨_, rfl, (wg 0 [] [] rfl (le_upd (le_top _) (o1 .sc)) an)⟩
       ·refine AWops.guard_no rfl (nl rfl) rfl c42 ?_
        refine s_pick_no (d := (sb false)) rfl c42 rfl (s_assign (d := (sb false)) rfl (AWops.nil (AW.ret ?_)))
        obtain rfl := Option.some.inj h
        exact ⟨_, rfl, (wg 0 [] [] rfl (le_upd (le_top _) (o1 .sc)) an)⟩
      ·refine AWops.guard_no rfl (nl rfl) rfl c40 ?_
       refine AWops.guard_no rfl (nl rfl) rfl c40 ?_
       refine s_pick_no (d := (sb false)) rfl c40 rfl (s_move (d := (sb false)) rfl ?_)
       refine AWops.guard_no rfl (nl rfl) rfl rfl ?_
       refine s_pick_no (d := (sb false)) rfl rfl rfl (s_assign (d := (sb false)) rfl (AWops.nil (AW.ret ?_)))
       obtain rfl := Option.some.inj h
       exact ⟨_, rfl, (wg 0 [] [] rfl (le_upd (le_top _) (o1 .sc)) an)⟩
end Go.Abs.GenO
