import Derived.Test.YtgeieafnnlmfdaaGenOd
set_option linter.unusedVariables false
set_option linter.unusedSimpArgs false
set_option maxRecDepth 100000
set_option maxHeartbeats 4000000
namespace Go.Abs.GenO
open Go.Abs Go.Proofs
def dossierlaw04_pair_same.f (k : Nat) (p0 : dossierlaw04_pair) (p1 : vdisk_Disk) (p2 : dossierref03_Disk) : Option (Bool × dossierlaw04_pair) := (dossierplain_Same.f k p1 p2).bind fun r1 => if r1 = true then (some (true, (⟨(), (), (), ()⟩ : dossierlaw04_pair))) else (some (false, (⟨(), (), (), ()⟩ : dossierlaw04_pair)))
theorem dossierlaw04_pair_same.meets (k : Nat) (p0 : dossierlaw04_pair) (p1 : vdisk_Disk) (p2 : dossierref03_Disk) (r : Bool × dossierlaw04_pair) (h : dossierlaw04_pair_same.f k p0 p1 p2 = some r) : Meets Try.prog 22 [(rf 0 0)] [(some (AObj.cells false [np, np, (C.ref 1 0), (C.ref 2 0)])), (o_vdisk_Disk_03 false (C.mp 3) np p1), (o_dossierref03_Disk_0 false (C.own 4 0 p2.L.length 3) p2), (om_ e_vdisk_file p1.files), (or_ e_dossierref03_File p2.L)] (sb r.1) [(some (AObj.cells false [np, np, (C.ref 1 0), (C.ref 2 0)])), (o_vdisk_Disk_03 false (C.mp 3) np p1), (o_dossierref03_Disk_0 false (C.own 4 0 p2.L.length 3) p2), (om_ e_vdisk_file p1.files), (or_ e_dossierref03_File p2.L)] := by
 unfold dossierlaw04_pair_same.f at h
 refine Meets.of_body (n := 76) Try.func22 rfl rfl (nl rfl) fun x hx => ?_
 replace hx : x.k = 5 := hx
 show AW _ x _ _ ⟨76, fr0 [(rf 0 0)], [(some (AObj.cells false [np, np, (C.ref 1 0), (C.ref 2 0)])), (o_vdisk_Disk_03 false (C.mp 3) np p1), (o_dossierref03_Disk_0 false (C.own 4 0 p2.L.length 3) p2), (om_ e_vdisk_file p1.files), (or_ e_dossierref03_File p2.L)]⟩
 refine AW.seq (AW.region ?_)
 refine s_assign (d := (sb false)) rfl (AWops.nil (AW.seq (AW.seq ?_)))
 refine AW.weak (st' := ⟨76, (upd 76 topF 0 (rf 0 0)), [(some (AObj.cells false [np, np, (C.ref 1 0), (C.ref 2 0)])), (o_vdisk_Disk_03 false (C.mp 3) np p1), (o_dossierref03_Disk_0 false (C.own 4 0 p2.L.length 3) p2), (om_ e_vdisk_file p1.files), (or_ e_dossierref03_File p2.L)]⟩) (wg 5 [0, 1, 2, 3, 4] [] hx (le_upd (le_top _) (o1 (.ref rfl))) (ac (.cells id (ac .sc (ac .sc (ac (.ref rfl) (ac (.ref rfl) an))))) (ac (qs rfl) (ac (qo rfl) (ac .map (ac (.cells id (all2_row _)) an)))))) ?_
 obtain ⟨r1, er1, h⟩ := bnd h
 rcases itH h with ⟨c2, h⟩ | ⟨c2, h⟩
 ·refine AW.draw (n := 76) (L := 6) [(ft 0 3 (rf 0 0) [(0, (rf 0 0))]), (ft 1 4 (rf 0 0) [(3, (rf 0 0))]), (ft 2 5 (rf 0 2) [(4, (rf 0 0))]), (3, ⟨some 6, (rf 1 0), [(5, (rf 0 2))], [(0, (some (AObj.cells false [np, np, (C.ref 1 0), (C.ref 2 0)])))], [], none⟩), (ft 4 7 (rf 0 0) [(0, (rf 0 0))]), (ft 5 8 (rf 0 0) [(7, (rf 0 0))]), (ft 6 9 (rf 0 3) [(8, (rf 0 0))]), (7, ⟨some 10, (rf 2 0), [(9, (rf 0 3))], [(0, (some (AObj.cells false [np, np, (C.ref 1 0), (C.ref 2 0)])))], [], none⟩), (8, ⟨some 11, (sb r1), [(6, (rf 1 0)), (10, (rf 2 0))], [(1, (o_vdisk_Disk_03 false (C.mp 3) np p1)), (2, (o_dossierref03_Disk_0 false (C.own 4 0 p2.L.length 3) p2)), (3, (om_ e_vdisk_file p1.files)), (4, (or_ e_dossierref03_File p2.L))], [], none⟩), (ft 9 12 (sb (!r1)) [(11, (sb r1))]), (ft 10 13 (sb (!r1)) [(12, (sb (!r1)))]), (ft 11 14 (rf 0 0) [(0, (rf 0 0)), (13, (sb (!r1)))]), (ft 12 15 (rf 0 0) [(13, (sb (!r1))), (14, (rf 0 0))]), (ft 13 16 (rf 0 0) [(13, (sb (!r1))), (15, (rf 0 0))]), (14, ⟨some 17, (sc (.pointer none)), [(13, (sb (!r1))), (16, (rf 0 0))], [(0, (some (AObj.cells false [np, np, (C.ref 1 0), (C.ref 2 0)])))], [], none⟩), (ft 15 18 (sb true) [(13, (sb (!r1))), (17, (sc (.pointer none)))]), (ft 16 19 (rf 0 0) [(0, (rf 0 0)), (13, (sb (!r1)))]), (ft 17 20 (rf 0 0) [(13, (sb (!r1))), (19, (rf 0 0))]), (ft 18 21 (rf 0 1) [(13, (sb (!r1))), (20, (rf 0 0))]), (19, ⟨some 22, (sc (.pointer none)), [(13, (sb (!r1))), (21, (rf 0 1))], [(0, (some (AObj.cells false [np, np, (C.ref 1 0), (C.ref 2 0)])))], [], none⟩), (ft 20 23 (sb true) [(13, (sb (!r1))), (22, (sc (.pointer none)))]), (ft 21 24 (sb false) [(13, (sb (!r1))), (18, (sb true)), (23, (sb true))]), (ft 22 25 (sb false) [(13, (sb (!r1))), (24, (sb false))])] [[], [0], [0, 1], [0, 1, 2], [], [4], [4, 5], [4, 5, 6], (.range 8), (.range 9), (.range 10), (.range 11), (.range 12), (.range 13), (.range 14), (.range 15), (.range 11), (.range 11 ++ [16]), (.range 11 ++ [16, 17]), (.range 11 ++ [16, 17, 18]), (.range 11 ++ [16, 17, 18, 19]), (.range 21), (.range 22)] (nl rfl) [0, 1, 2, 3, 0, 1, 2, 3, 4, 5, 6, 7, 8, 9, 10, 11, 7, 8, 9, 10, 11, 12, 13] rfl (TK := []) rfl AllK.nil' (by repeat (first | refine fC ⟨?_, ?_⟩ ?_ | refine sC rfl ?_ | refine hC rfl ?_ | trivial)) ?_ ?_
  ·refine y8 ?_ ?_ ?_ ?_ ?_ ?_ ?_ ?_ (y8 ?_ ?_ ?_ ?_ ?_ ?_ ?_ ?_ (y4 ?_ ?_ ?_ ?_ (y2 ?_ ?_ (pC ?_ yN))))
   ·intro K _ f w u k
    show Wp K ⟨76, (upd 76 f 0 (rf 0 0)), _⟩
    refine s_move (d := (rf 0 0)) rfl k
   ·intro K _ f w u k
    show Wp K ⟨76, (upd 76 f 3 (rf 0 0)), [_, _, _, _, _, _]⟩
    refine s_nilCheck (d := (rf 0 0)) rfl (.inl ⟨_, _, rfl⟩) k
   ·intro K _ f w u k
    show Wp K ⟨76, (upd 76 f 4 (rf 0 0)), [_, _, _, _, _, _]⟩
    refine s_fieldRef F.fo_57_2 (by decide) rfl k
   ·intro K _ f w u k
    show Wp K ⟨76, (upd 76 f 5 (rf 0 2)), [(some (AObj.cells false [np, np, (C.ref 1 0), (C.ref 2 0)])), _, _, _, _, _]⟩
    refine s_load1 (c' := (C.ref 1 0)) F.ag_24 rfl rfl k
   ·intro K _ f w u k
    show Wp K ⟨76, (upd 76 f 0 (rf 0 0)), _⟩
    refine s_move (d := (rf 0 0)) rfl k
   ·intro K _ f w u k
    show Wp K ⟨76, (upd 76 f 7 (rf 0 0)), [_, _, _, _, _, _]⟩
    refine s_nilCheck (d := (rf 0 0)) rfl (.inl ⟨_, _, rfl⟩) k
   ·intro K _ f w u k
    show Wp K ⟨76, (upd 76 f 8 (rf 0 0)), [_, _, _, _, _, _]⟩
    refine s_fieldRef F.fo_57_3 (by decide) rfl k
   ·intro K _ f w u k
    show Wp K ⟨76, (upd 76 f 9 (rf 0 3)), [(some (AObj.cells false [np, np, (C.ref 1 0), (C.ref 2 0)])), _, _, _, _, _]⟩
    refine s_load1 (c' := (C.ref 2 0)) F.ag_51 rfl rfl k
   ·intro K _ f w u k
    show Wp K ⟨76, (upd 76 (upd 76 f 10 (rf 2 0)) 6 (rf 1 0)), [_, (o_vdisk_Disk_03 false (C.mp 3) np p1), (o_dossierref03_Disk_0 false (C.own 4 0 p2.L.length 3) p2), (om_ e_vdisk_file p1.files), (or_ e_dossierref03_File p2.L), _]⟩
    refine cc [1, 2, 3, 4] [(w 0), (o_vdisk_Disk_03 false (C.mp 3) np p1), (o_dossierref03_Disk_0 false (C.own 4 0 p2.L.length 3) p2), (om_ e_vdisk_file p1.files), (or_ e_dossierref03_File p2.L), (w 5)] (sb r1) F.ca_52 rfl rfl (ac (.one (.ref rfl)) (ac (.one (.ref rfl)) an)) (ac (.cells (ac (.mp rfl) (ac .sc (ac .sc (ac .sc (ac .sc an)))))) (ac (.cells (ac (.own rfl) (ac .sc (ac .sc (ac .sc an))))) (ac .map (ac (.cells (lend_row _)) an)))) (dossierplain_Same.meets _ p1 p2 r1 er1) k
   ·intro K _ f w u k
    show Wp K ⟨76, (upd 76 f 11 (sb r1)), [_, _, _, _, _, _]⟩
    refine s_not rfl k
   ·intro K _ f w u k
    show Wp K ⟨76, (upd 76 f 12 (sb (!r1))), _⟩
    refine s_move (d := (sb (!r1))) rfl k
   ·intro K _ f w u k
    show Wp K ⟨76, (upd 76 (upd 76 f 13 (sb (!r1))) 0 (rf 0 0)), _⟩
    refine AWops.guard_yes rfl (nl rfl) rfl (by rw [c2] <;> rfl) ?_
    refine s_move (d := (rf 0 0)) rfl k
   ·intro K _ f w u k
    show Wp K ⟨76, (upd 76 (upd 76 f 14 (rf 0 0)) 13 (sb (!r1))), [_, _, _, _, _, _]⟩
    refine AWops.guard_yes rfl (nl rfl) rfl (by rw [c2] <;> rfl) ?_
    refine s_nilCheck (d := (rf 0 0)) rfl (.inl ⟨_, _, rfl⟩) k
   ·intro K _ f w u k
    show Wp K ⟨76, (upd 76 (upd 76 f 15 (rf 0 0)) 13 (sb (!r1))), [_, _, _, _, _, _]⟩
    refine AWops.guard_yes rfl (nl rfl) rfl (by rw [c2] <;> rfl) ?_
    refine s_fieldRef F.fo_57_0 (by decide) rfl k
   ·intro K _ f w u k
    show Wp K ⟨76, (upd 76 (upd 76 f 16 (rf 0 0)) 13 (sb (!r1))), [(some (AObj.cells false [np, np, (C.ref 1 0), (C.ref 2 0)])), _, _, _, _, _]⟩
    refine AWops.guard_yes rfl (nl rfl) rfl (by rw [c2] <;> rfl) ?_
    refine s_load1 (c' := np) F.ag_23 rfl rfl k
   ·intro K _ f w u k
    show Wp K ⟨76, (upd 76 (upd 76 f 17 (sc (.pointer none))) 13 (sb (!r1))), [_, _, _, _, _, _]⟩
    refine AWops.guard_yes rfl (nl rfl) rfl (by rw [c2] <;> rfl) ?_
    refine s_ptrNil (b := true) F.u_23 rfl (.inr ⟨⟨_, rfl⟩, rfl⟩) (.inl rfl) k
   ·intro K _ f w u k
    show Wp K ⟨76, (upd 76 (upd 76 f 13 (sb (!r1))) 0 (rf 0 0)), _⟩
    refine AWops.guard_yes rfl (nl rfl) rfl (by rw [c2] <;> rfl) ?_
    refine s_move (d := (rf 0 0)) rfl k
   ·intro K _ f w u k
    show Wp K ⟨76, (upd 76 (upd 76 f 19 (rf 0 0)) 13 (sb (!r1))), [_, _, _, _, _, _]⟩
    refine AWops.guard_yes rfl (nl rfl) rfl (by rw [c2] <;> rfl) ?_
    refine s_nilCheck (d := (rf 0 0)) rfl (.inl ⟨_, _, rfl⟩) k
   ·intro K _ f w u k
    show Wp K ⟨76, (upd 76 (upd 76 f 20 (rf 0 0)) 13 (sb (!r1))), [_, _, _, _, _, _]⟩
    refine AWops.guard_yes rfl (nl rfl) rfl (by rw [c2] <;> rfl) ?_
    refine s_fieldRef F.fo_57_1 (by decide) rfl k
   ·intro K _ f w u k
    show Wp K ⟨76, (upd 76 (upd 76 f 21 (rf 0 1)) 13 (sb (!r1))), [(some (AObj.cells false [np, np, (C.ref 1 0), (C.ref 2 0)])), _, _, _, _, _]⟩
    refine AWops.guard_yes rfl (nl rfl) rfl (by rw [c2] <;> rfl) ?_
    refine s_load1 (c' := np) F.ag_55 rfl rfl k
   ·intro K _ f w u k
    show Wp K ⟨76, (upd 76 (upd 76 f 22 (sc (.pointer none))) 13 (sb (!r1))), [_, _, _, _, _, _]⟩
    refine AWops.guard_yes rfl (nl rfl) rfl (by rw [c2] <;> rfl) ?_
    refine s_ptrNil (b := true) F.u_55 rfl (.inr ⟨⟨_, rfl⟩, rfl⟩) (.inl rfl) k
   ·intro K _ f w u k
    show Wp K ⟨76, (upd 76 (upd 76 (upd 76 f 23 (sb true)) 18 (sb true)) 13 (sb (!r1))), _⟩
    refine AWops.guard_yes rfl (nl rfl) rfl (by rw [c2] <;> rfl) ?_
    refine s_binB (b := false) F.u_4 rfl rfl (.inr ⟨rfl, rfl⟩) k
   ·intro K _ f w u k
    show Wp K ⟨76, (upd 76 (upd 76 f 24 (sb false)) 13 (sb (!r1))), _⟩
    refine s_pick_no (d := (sb false)) rfl (by rw [c2] <;> rfl) rfl k
  ·refine AWops.weak (st' := ⟨76, (upd 76 (upd 76 topF 0 (rf 0 0)) 25 (sb false)), [(some (AObj.cells false [np, np, (C.ref 1 0), (C.ref 2 0)])), (o_vdisk_Disk_03 false (C.mp 3) np p1), (o_dossierref03_Disk_0 false (C.own 4 0 p2.L.length 3) p2), (om_ e_vdisk_file p1.files), (or_ e_dossierref03_File p2.L)]⟩) (wg 5 [0, 1, 2, 3, 4] [] hx (le_upd (le_upd (le_top _) (o1 (.ref rfl))) (o1 .sc)) (ac (.cells id (ac .sc (ac .sc (ac (.ref rfl) (ac (.ref rfl) an))))) (ac (qs rfl) (ac (qo rfl) (ac .map (ac (.cells id (all2_row _)) an)))))) (AWops.nil ?_)
   refine AW.cond_no rfl rfl (AW.skip (AW.seq ?_))
   refine AW.weak (st' := ⟨76, (upd 76 topF 0 (rf 0 0)), [(some (AObj.cells false [np, np, (C.ref 1 0), (C.ref 2 0)])), (o_vdisk_Disk_03 false (C.mp 3) np p1), (o_dossierref03_Disk_0 false (C.own 4 0 p2.L.length 3) p2), (om_ e_vdisk_file p1.files), (or_ e_dossierref03_File p2.L)]⟩) (wg 5 [0, 1, 2, 3, 4] [] hx (le_upd (le_top _) (o1 (.ref rfl))) (ac (.cells id (ac .sc (ac .sc (ac (.ref rfl) (ac (.ref rfl) an))))) (ac (qs rfl) (ac (qo rfl) (ac .map (ac (.cells id (all2_row _)) an)))))) ?_
   refine AW.draw (n := 76) (L := 10) [(ft 0 26 (rf 0 0) [(0, (rf 0 0))]), (ft 1 27 (rf 0 0) [(26, (rf 0 0))]), (ft 2 28 (rf 0 1) [(27, (rf 0 0))]), (3, ⟨some 29, (sc (.pointer none)), [(28, (rf 0 1))], [(0, (some (AObj.cells false [np, np, (C.ref 1 0), (C.ref 2 0)])))], [], none⟩), (ft 4 30 (sb true) [(29, (sc (.pointer none)))]), (ft 5 31 (sb true) [(30, (sb true))]), (ft 6 32 (D.tup []) [(31, (sb true))]), (ft 7 33 (D.tup []) [(31, (sb true))]), (ft 8 34 (D.tup []) [(31, (sb true))]), (ft 9 35 (D.tup []) [(31, (sb true))]), (ft 10 36 (D.tup []) [(31, (sb true))]), (ft 11 37 (D.tup []) [(31, (sb true))]), (ft 12 38 (D.tup []) [(31, (sb true))]), (ft 13 39 (D.tup []) [(31, (sb true))]), (ft 14 40 (D.tup []) [(31, (sb true))]), (ft 15 41 (D.tup []) [(31, (sb true))]), (ft 16 42 (D.tup []) [(31, (sb true))]), (ft 17 43 (D.tup []) [(31, (sb true))]), (ft 18 44 (D.tup []) [(31, (sb true))]), (ft 19 45 (D.tup []) [(31, (sb true))]), (ft 20 46 (D.tup []) [(45, (D.tup []))]), (ft 21 47 (D.tup []) [(45, (D.tup []))]), (ft 22 48 (D.tup []) [(45, (D.tup []))]), (ft 23 49 (D.tup []) [(45, (D.tup []))]), (ft 24 50 (D.tup []) [(45, (D.tup []))]), (ft 25 51 (D.tup []) [(45, (D.tup []))]), (ft 26 52 (D.tup []) [(45, (D.tup []))]), (ft 27 53 (D.tup []) [(45, (D.tup []))]), (ft 28 54 (D.tup []) [(45, (D.tup []))]), (ft 29 55 (D.tup []) [(45, (D.tup []))]), (ft 30 56 (D.tup []) [(45, (D.tup []))]), (ft 31 57 (D.tup []) [(45, (D.tup []))]), (ft 32 58 (D.tup []) [(45, (D.tup []))]), (ft 33 59 (D.tup []) [(31, (sb true))]), (ft 34 60 (D.tup []) [(31, (sb true))]), (ft 35 61 (D.tup []) [(60, (D.tup []))]), (ft 36 62 (D.tup []) [(60, (D.tup []))]), (ft 37 63 (D.tup []) [(60, (D.tup []))]), (ft 38 64 (D.tup []) [(60, (D.tup []))]), (ft 39 65 (D.tup []) [(60, (D.tup []))]), (ft 40 66 (D.tup []) [(60, (D.tup []))]), (ft 41 67 (D.tup []) [(60, (D.tup []))]), (ft 42 68 (D.tup []) [(60, (D.tup []))]), (ft 43 69 (D.tup []) [(60, (D.tup []))]), (ft 44 70 (D.tup []) [(60, (D.tup []))]), (ft 45 71 (D.tup []) [(60, (D.tup []))]), (ft 46 72 (D.tup []) [(60, (D.tup []))]), (ft 47 73 (D.tup []) [(60, (D.tup []))]), (ft 48 74 (D.tup []) [(31, (sb true))]), (ft 49 75 (sb true) [(31, (sb true))]), (ft 50 2 (sb true) [(75, (sb true))])] [[], [0], [0, 1], [0, 1, 2], [0, 1, 2, 3], (.range 5), (.range 6), (.range 7), (.range 8), (.range 9), (.range 10), (.range 6), [0, 1, 2, 3, 4, 5, 11], [0, 1, 2, 3, 4, 5, 11, 12], [0, 1, 2, 3, 4, 5, 11, 12, 13], [0, 1, 2, 3, 4, 5, 11, 12, 13, 14], [0, 1, 2, 3, 4, 5, 11, 12, 13, 14, 15], [0, 1, 2, 3, 4, 5, 11, 12, 13, 14, 15, 16], (.range 18), (.range 19), (.range 20), (.range 21), (.range 22), (.range 23), (.range 24), (.range 20), (.range 20 ++ [25]), (.range 20 ++ [25, 26]), (.range 20 ++ [25, 26, 27]), (.range 20 ++ [25, 26, 27, 28]), (.range 20 ++ [25, 26, 27, 28, 29]), (.range 20 ++ [25, 26, 27, 28, 29, 30]), (.range 32), (.range 33), (.range 34), (.range 35), (.range 36), (.range 37), (.range 38), (.range 39), (.range 35), (.range 35 ++ [40]), (.range 35 ++ [40, 41]), (.range 35 ++ [40, 41, 42]), (.range 35 ++ [40, 41, 42, 43]), (.range 35 ++ [40, 41, 42, 43, 44]), (.range 35 ++ [40, 41, 42, 43, 44, 45]), (.range 47), (.range 48), (.range 49), (.range 50)] (nl rfl) (.range 11 ++ [6, 7, 8, 9, 10, 11, 12, 13, 14, 15, 16, 17, 18, 19, 15, 16, 17, 18, 19, 20, 21, 22, 23, 24, 25, 26, 27, 28, 29, 25, 26, 27, 28, 29, 30, 31, 32, 33, 34, 35]) rfl (TK := []) rfl AllK.nil' (by repeat (first | refine fC ⟨?_, ?_⟩ ?_ | refine sC rfl ?_ | refine hC rfl ?_ | trivial)) ?_ ?_
   ·refine y8 ?_ ?_ ?_ ?_ ?_ ?_ ?_ ?_ (y8 ?_ ?_ ?_ ?_ ?_ ?_ ?_ ?_ (y8 ?_ ?_ ?_ ?_ ?_ ?_ ?_ ?_ (y8 ?_ ?_ ?_ ?_ ?_ ?_ ?_ ?_ (y8 ?_ ?_ ?_ ?_ ?_ ?_ ?_ ?_ (y8 ?_ ?_ ?_ ?_ ?_ ?_ ?_ ?_ (y2 ?_ ?_ (pC ?_ yN)))))))
    ·intro K _ f w u k
     show Wp K ⟨76, (upd 76 f 0 (rf 0 0)), _⟩
     refine s_move (d := (rf 0 0)) rfl k
    ·intro K _ f w u k
     show Wp K ⟨76, (upd 76 f 26 (rf 0 0)), [_, _, _, _, _, _, _, _, _, _]⟩
     refine s_nilCheck (d := (rf 0 0)) rfl (.inl ⟨_, _, rfl⟩) k
    ·intro K _ f w u k
     show Wp K ⟨76, (upd 76 f 27 (rf 0 0)), [_, _, _, _, _, _, _, _, _, _]⟩
     refine s_fieldRef F.fo_57_1 (by decide) rfl k
    ·intro K _ f w u k
     show Wp K ⟨76, (upd 76 f 28 (rf 0 1)), [(some (AObj.cells false [np, np, (C.ref 1 0), (C.ref 2 0)])), _, _, _, _, _, _, _, _, _]⟩
     refine s_load1 (c' := np) F.ag_55 rfl rfl k
    ·intro K _ f w u k
     show Wp K ⟨76, (upd 76 f 29 (sc (.pointer none))), [_, _, _, _, _, _, _, _, _, _]⟩
     refine s_ptrNil (b := true) F.u_55 rfl (.inr ⟨⟨_, rfl⟩, rfl⟩) (.inl rfl) k
    ·intro K _ f w u k
     show Wp K ⟨76, (upd 76 f 30 (sb true)), _⟩
     refine s_move (d := (sb true)) rfl k
    ·intro K _ f w u k
     show Wp K ⟨76, (upd 76 f 31 (sb true)), _⟩
     refine AWops.guard_no rfl (nl rfl) rfl rfl k
    ·intro K _ f w u k
     show Wp K ⟨76, (upd 76 f 31 (sb true)), _⟩
     refine AWops.guard_no rfl (nl rfl) rfl rfl k
    ·intro K _ f w u k
     show Wp K ⟨76, (upd 76 f 31 (sb true)), _⟩
     refine AWops.guard_no rfl (nl rfl) rfl rfl k
    ·intro K _ f w u k
     show Wp K ⟨76, (upd 76 f 31 (sb true)), _⟩
     refine AWops.guard_no rfl (nl rfl) rfl rfl k
    ·intro K _ f w u k
     show Wp K ⟨76, (upd 76 f 31 (sb true)), _⟩
     refine AWops.guard_no rfl (nl rfl) rfl rfl k
    ·intro K _ f w u k
     show Wp K ⟨76, (upd 76 f 31 (sb true)), _⟩
     refine AWops.guard_no rfl (nl rfl) rfl rfl k
    ·intro K _ f w u k
     show Wp K ⟨76, (upd 76 f 31 (sb true)), _⟩
     refine AWops.guard_no rfl (nl rfl) rfl rfl k
    ·intro K _ f w u k
     show Wp K ⟨76, (upd 76 f 31 (sb true)), _⟩
     refine AWops.guard_no rfl (nl rfl) rfl rfl k
    ·intro K _ f w u k
     show Wp K ⟨76, (upd 76 f 31 (sb true)), _⟩
     refine AWops.guard_no rfl (nl rfl) rfl rfl k
    ·intro K _ f w u k
     show Wp K ⟨76, (upd 76 f 31 (sb true)), _⟩
     refine AWops.guard_no rfl (nl rfl) rfl rfl k
    ·intro K _ f w u k
     show Wp K ⟨76, (upd 76 f 31 (sb true)), _⟩
     refine AWops.guard_no rfl (nl rfl) rfl rfl k
    ·intro K _ f w u k
     show Wp K ⟨76, (upd 76 f 31 (sb true)), _⟩
     refine AWops.guard_no rfl (nl rfl) rfl rfl k
    ·intro K _ f w u k
     show Wp K ⟨76, (upd 76 f 31 (sb true)), _⟩
     refine AWops.guard_no rfl (nl rfl) rfl rfl k
    ·intro K _ f w u k
     show Wp K ⟨76, (upd 76 f 31 (sb true)), _⟩
     refine AWops.guard_no rfl (nl rfl) rfl rfl k
    ·intro K _ f w u k
     show Wp K ⟨76, (upd 76 f 45 (D.tup [])), [_, _, _, _, _, _, _, _, _, _]⟩
     refine AWops.guard_undef rfl rfl k
    ·intro K _ f w u k
     show Wp K ⟨76, (upd 76 f 45 (D.tup [])), [_, _, _, _, _, _, _, _, _, _]⟩
     refine AWops.guard_undef rfl rfl k
    ·intro K _ f w u k
     show Wp K ⟨76, (upd 76 f 45 (D.tup [])), [_, _, _, _, _, _, _, _, _, _]⟩
     refine AWops.guard_undef rfl rfl k
    ·intro K _ f w u k
     show Wp K ⟨76, (upd 76 f 45 (D.tup [])), [_, _, _, _, _, _, _, _, _, _]⟩
     refine AWops.guard_undef rfl rfl k
    ·intro K _ f w u k
     show Wp K ⟨76, (upd 76 f 45 (D.tup [])), [_, _, _, _, _, _, _, _, _, _]⟩
     refine AWops.guard_undef rfl rfl k
    ·intro K _ f w u k
     show Wp K ⟨76, (upd 76 f 45 (D.tup [])), [_, _, _, _, _, _, _, _, _, _]⟩
     refine AWops.guard_undef rfl rfl k
    ·intro K _ f w u k
     show Wp K ⟨76, (upd 76 f 45 (D.tup [])), [_, _, _, _, _, _, _, _, _, _]⟩
     refine AWops.guard_undef rfl rfl k
    ·intro K _ f w u k
     show Wp K ⟨76, (upd 76 f 45 (D.tup [])), [_, _, _, _, _, _, _, _, _, _]⟩
     refine AWops.guard_undef rfl rfl k
    ·intro K _ f w u k
     show Wp K ⟨76, (upd 76 f 45 (D.tup [])), [_, _, _, _, _, _, _, _, _, _]⟩
     refine AWops.guard_undef rfl rfl k
    ·intro K _ f w u k
     show Wp K ⟨76, (upd 76 f 45 (D.tup [])), [_, _, _, _, _, _, _, _, _, _]⟩
     refine AWops.guard_undef rfl rfl k
    ·intro K _ f w u k
     show Wp K ⟨76, (upd 76 f 45 (D.tup [])), [_, _, _, _, _, _, _, _, _, _]⟩
     refine AWops.guard_undef rfl rfl k
    ·intro K _ f w u k
     show Wp K ⟨76, (upd 76 f 45 (D.tup [])), [_, _, _, _, _, _, _, _, _, _]⟩
     refine AWops.guard_undef rfl rfl k
    ·intro K _ f w u k
     show Wp K ⟨76, (upd 76 f 45 (D.tup [])), [_, _, _, _, _, _, _, _, _, _]⟩
     refine AWops.guard_undef rfl rfl k
    ·intro K _ f w u k
     show Wp K ⟨76, (upd 76 f 31 (sb true)), _⟩
     refine AWops.guard_no rfl (nl rfl) rfl rfl k
    ·intro K _ f w u k
     show Wp K ⟨76, (upd 76 f 31 (sb true)), _⟩
     refine AWops.guard_no rfl (nl rfl) rfl rfl k
    ·intro K _ f w u k
     show Wp K ⟨76, (upd 76 f 60 (D.tup [])), [_, _, _, _, _, _, _, _, _, _]⟩
     refine AWops.guard_undef rfl rfl k
    ·intro K _ f w u k
     show Wp K ⟨76, (upd 76 f 60 (D.tup [])), [_, _, _, _, _, _, _, _, _, _]⟩
     refine AWops.guard_undef rfl rfl k
    ·intro K _ f w u k
     show Wp K ⟨76, (upd 76 f 60 (D.tup [])), [_, _, _, _, _, _, _, _, _, _]⟩
     refine AWops.guard_undef rfl rfl k
    ·intro K _ f w u k
     show Wp K ⟨76, (upd 76 f 60 (D.tup [])), [_, _, _, _, _, _, _, _, _, _]⟩
     refine AWops.guard_undef rfl rfl k
    ·intro K _ f w u k
     show Wp K ⟨76, (upd 76 f 60 (D.tup [])), [_, _, _, _, _, _, _, _, _, _]⟩
     refine AWops.guard_undef rfl rfl k
    ·intro K _ f w u k
     show Wp K ⟨76, (upd 76 f 60 (D.tup [])), [_, _, _, _, _, _, _, _, _, _]⟩
     refine AWops.guard_undef rfl rfl k
    ·intro K _ f w u k
     show Wp K ⟨76, (upd 76 f 60 (D.tup [])), [_, _, _, _, _, _, _, _, _, _]⟩
     refine AWops.guard_undef rfl rfl k
    ·intro K _ f w u k
     show Wp K ⟨76, (upd 76 f 60 (D.tup [])), [_, _, _, _, _, _, _, _, _, _]⟩
     refine AWops.guard_undef rfl rfl k
    ·intro K _ f w u k
     show Wp K ⟨76, (upd 76 f 60 (D.tup [])), [_, _, _, _, _, _, _, _, _, _]⟩
     refine AWops.guard_undef rfl rfl k
    ·intro K _ f w u k
     show Wp K ⟨76, (upd 76 f 60 (D.tup [])), [_, _, _, _, _, _, _, _, _, _]⟩
     refine AWops.guard_undef rfl rfl k
    ·intro K _ f w u k
     show Wp K ⟨76, (upd 76 f 60 (D.tup [])), [_, _, _, _, _, _, _, _, _, _]⟩
     refine AWops.guard_undef rfl rfl k
    ·intro K _ f w u k
     show Wp K ⟨76, (upd 76 f 60 (D.tup [])), [_, _, _, _, _, _, _, _, _, _]⟩
     refine AWops.guard_undef rfl rfl k
    ·intro K _ f w u k
     show Wp K ⟨76, (upd 76 f 60 (D.tup [])), [_, _, _, _, _, _, _, _, _, _]⟩
     refine AWops.guard_undef rfl rfl k
    ·intro K _ f w u k
     show Wp K ⟨76, (upd 76 f 31 (sb true)), _⟩
     refine AWops.guard_no rfl (nl rfl) rfl rfl k
    ·intro K _ f w u k
     show Wp K ⟨76, (upd 76 f 31 (sb true)), _⟩
     refine s_pick_yes (d := (sb true)) rfl rfl rfl k
    ·intro K _ f w u k
     show Wp K ⟨76, (upd 76 f 75 (sb true)), _⟩
     refine s_assign (d := (sb true)) rfl k
   ·refine AWops.weak (st' := ⟨76, (upd 76 topF 2 (sb true)), [(some (AObj.cells false [np, np, (C.ref 1 0), (C.ref 2 0)])), (o_vdisk_Disk_03 false (C.mp 3) np p1), (o_dossierref03_Disk_0 false (C.own 4 0 p2.L.length 3) p2), (om_ e_vdisk_file p1.files), (or_ e_dossierref03_File p2.L)]⟩) (wg 5 [0, 1, 2, 3, 4] [] hx (le_upd (le_top _) (o1 .sc)) (ac (.cells id (ac .sc (ac .sc (ac (.ref rfl) (ac (.ref rfl) an))))) (ac (qs rfl) (ac (qo rfl) (ac .map (ac (.cells id (all2_row _)) an)))))) (AWops.nil (AW.ret ?_))
    obtain rfl := Option.some.inj h
    exact ⟨_, rfl, (wg 5 [0, 1, 2, 3, 4] [] rfl (le_upd (le_top _) (o1 .sc)) (ac (.cells id (ac .sc (ac .sc (ac (.ref rfl) (ac (.ref rfl) an))))) (ac (qs rfl) (ac (qo rfl) (ac .map (ac (.cells id (all2_row _)) an))))))⟩
 ·refine AW.draw (n := 76) (L := 6) [(ft 0 3 (rf 0 0) [(0, (rf 0 0))]), (ft 1 4 (rf 0 0) [(3, (rf 0 0))]), (ft 2 5 (rf 0 2) [(4, (rf 0 0))]), (3, ⟨some 6, (rf 1 0), [(5, (rf 0 2))], [(0, (some (AObj.cells false [np, np, (C.ref 1 0), (C.ref 2 0)])))], [], none⟩), (ft 4 7 (rf 0 0) [(0, (rf 0 0))]), (ft 5 8 (rf 0 0) [(7, (rf 0 0))]), (ft 6 9 (rf 0 3) [(8, (rf 0 0))]), (7, ⟨some 10, (rf 2 0), [(9, (rf 0 3))], [(0, (some (AObj.cells false [np, np, (C.ref 1 0), (C.ref 2 0)])))], [], none⟩), (8, ⟨some 11, (sb r1), [(6, (rf 1 0)), (10, (rf 2 0))], [(1, (o_vdisk_Disk_03 false (C.mp 3) np p1)), (2, (o_dossierref03_Disk_0 false (C.own 4 0 p2.L.length 3) p2)), (3, (om_ e_vdisk_file p1.files)), (4, (or_ e_dossierref03_File p2.L))], [], none⟩), (ft 9 12 (sb (!r1)) [(11, (sb r1))]), (ft 10 13 (sb (!r1)) [(12, (sb (!r1)))]), (ft 11 14 (D.tup []) [(0, (rf 0 0)), (13, (sb (!r1)))]), (ft 12 15 (D.tup []) [(13, (sb (!r1)))]), (ft 13 16 (D.tup []) [(13, (sb (!r1)))]), (ft 14 17 (D.tup []) [(13, (sb (!r1)))]), (ft 15 18 (D.tup []) [(13, (sb (!r1)))]), (ft 16 19 (D.tup []) [(13, (sb (!r1)))]), (ft 17 20 (D.tup []) [(13, (sb (!r1)))]), (ft 18 21 (D.tup []) [(13, (sb (!r1)))]), (ft 19 22 (D.tup []) [(13, (sb (!r1)))]), (ft 20 23 (D.tup []) [(13, (sb (!r1)))]), (ft 21 24 (D.tup []) [(13, (sb (!r1)))]), (ft 22 25 (sb true) [(13, (sb (!r1)))])] [[], [0], [0, 1], [0, 1, 2], [], [4], [4, 5], [4, 5, 6], (.range 8), (.range 9), (.range 10), (.range 11), (.range 12), (.range 13), (.range 14), (.range 15), (.range 11), (.range 11 ++ [16]), (.range 11 ++ [16, 17]), (.range 11 ++ [16, 17, 18]), (.range 11 ++ [16, 17, 18, 19]), (.range 21), (.range 22)] (nl rfl) [0, 1, 2, 3, 0, 1, 2, 3, 4, 5, 6, 7, 8, 9, 10, 11, 7, 8, 9, 10, 11, 12, 13] rfl (TK := []) rfl AllK.nil' (by repeat (first | refine fC ⟨?_, ?_⟩ ?_ | refine sC rfl ?_ | refine hC rfl ?_ | trivial)) ?_ ?_
  ·refine y8 ?_ ?_ ?_ ?_ ?_ ?_ ?_ ?_ (y8 ?_ ?_ ?_ ?_ ?_ ?_ ?_ ?_ (y4 ?_ ?_ ?_ ?_ (y2 ?_ ?_ (pC ?_ yN))))
   ·intro K _ f w u k
    show Wp K ⟨76, (upd 76 f 0 (rf 0 0)), _⟩
    refine s_move (d := (rf 0 0)) rfl k
   ·intro K _ f w u k
    show Wp K ⟨76, (upd 76 f 3 (rf 0 0)), [_, _, _, _, _, _]⟩
    refine s_nilCheck (d := (rf 0 0)) rfl (.inl ⟨_, _, rfl⟩) k
   ·intro K _ f w u k
    show Wp K ⟨76, (upd 76 f 4 (rf 0 0)), [_, _, _, _, _, _]⟩
    refine s_fieldRef F.fo_57_2 (by decide) rfl k
   ·intro K _ f w u k
    show Wp K ⟨76, (upd 76 f 5 (rf 0 2)), [(some (AObj.cells false [np, np, (C.ref 1 0), (C.ref 2 0)])), _, _, _, _, _]⟩
    refine s_load1 (c' := (C.ref 1 0)) F.ag_24 rfl rfl k
   ·intro K _ f w u k
    show Wp K ⟨76, (upd 76 f 0 (rf 0 0)), _⟩
    refine s_move (d := (rf 0 0)) rfl k
   ·intro K _ f w u k
    show Wp K ⟨76, (upd 76 f 7 (rf 0 0)), [_, _, _, _, _, _]⟩
    refine s_nilCheck (d := (rf 0 0)) rfl (.inl ⟨_, _, rfl⟩) k
   ·intro K _ f w u k
    show Wp K ⟨76, (upd 76 f 8 (rf 0 0)), [_, _, _, _, _, _]⟩
    refine s_fieldRef F.fo_57_3 (by decide) rfl k
   ·intro K _ f w u k
    show Wp K ⟨76, (upd 76 f 9 (rf 0 3)), [(some (AObj.cells false [np, np, (C.ref 1 0), (C.ref 2 0)])), _, _, _, _, _]⟩
    refine s_load1 (c' := (C.ref 2 0)) F.ag_51 rfl rfl k
   ·intro K _ f w u k
    show Wp K ⟨76, (upd 76 (upd 76 f 10 (rf 2 0)) 6 (rf 1 0)), [_, (o_vdisk_Disk_03 false (C.mp 3) np p1), (o_dossierref03_Disk_0 false (C.own 4 0 p2.L.length 3) p2), (om_ e_vdisk_file p1.files), (or_ e_dossierref03_File p2.L), _]⟩
    refine cc [1, 2, 3, 4] [(w 0), (o_vdisk_Disk_03 false (C.mp 3) np p1), (o_dossierref03_Disk_0 false (C.own 4 0 p2.L.length 3) p2), (om_ e_vdisk_file p1.files), (or_ e_dossierref03_File p2.L), (w 5)] (sb r1) F.ca_52 rfl rfl (ac (.one (.ref rfl)) (ac (.one (.ref rfl)) an)) (ac (.cells (ac (.mp rfl) (ac .sc (ac .sc (ac .sc (ac .sc an)))))) (ac (.cells (ac (.own rfl) (ac .sc (ac .sc (ac .sc an))))) (ac .map (ac (.cells (lend_row _)) an)))) (dossierplain_Same.meets _ p1 p2 r1 er1) k
   ·intro K _ f w u k
    show Wp K ⟨76, (upd 76 f 11 (sb r1)), [_, _, _, _, _, _]⟩
    refine s_not rfl k
   ·intro K _ f w u k
    show Wp K ⟨76, (upd 76 f 12 (sb (!r1))), _⟩
    refine s_move (d := (sb (!r1))) rfl k
   ·intro K _ f w u k
    show Wp K ⟨76, (upd 76 (upd 76 f 13 (sb (!r1))) 0 (rf 0 0)), _⟩
    refine AWops.guard_no rfl (nl rfl) rfl (by rw [c2] <;> rfl) k
   ·intro K _ f w u k
    show Wp K ⟨76, (upd 76 f 13 (sb (!r1))), _⟩
    refine AWops.guard_no rfl (nl rfl) rfl (by rw [c2] <;> rfl) k
   ·intro K _ f w u k
    show Wp K ⟨76, (upd 76 f 13 (sb (!r1))), _⟩
    refine AWops.guard_no rfl (nl rfl) rfl (by rw [c2] <;> rfl) k
   ·intro K _ f w u k
    show Wp K ⟨76, (upd 76 f 13 (sb (!r1))), _⟩
    refine AWops.guard_no rfl (nl rfl) rfl (by rw [c2] <;> rfl) k
   ·intro K _ f w u k
    show Wp K ⟨76, (upd 76 f 13 (sb (!r1))), _⟩
    refine AWops.guard_no rfl (nl rfl) rfl (by rw [c2] <;> rfl) k
   ·intro K _ f w u k
    show Wp K ⟨76, (upd 76 f 13 (sb (!r1))), _⟩
    refine AWops.guard_no rfl (nl rfl) rfl (by rw [c2] <;> rfl) k
   ·intro K _ f w u k
    show Wp K ⟨76, (upd 76 f 13 (sb (!r1))), _⟩
    refine AWops.guard_no rfl (nl rfl) rfl (by rw [c2] <;> rfl) k
   ·intro K _ f w u k
    show Wp K ⟨76, (upd 76 f 13 (sb (!r1))), _⟩
    refine AWops.guard_no rfl (nl rfl) rfl (by rw [c2] <;> rfl) k
   ·intro K _ f w u k
    show Wp K ⟨76, (upd 76 f 13 (sb (!r1))), _⟩
    refine AWops.guard_no rfl (nl rfl) rfl (by rw [c2] <;> rfl) k
   ·intro K _ f w u k
    show Wp K ⟨76, (upd 76 f 13 (sb (!r1))), _⟩
    refine AWops.guard_no rfl (nl rfl) rfl (by rw [c2] <;> rfl) k
   ·intro K _ f w u k
    show Wp K ⟨76, (upd 76 f 13 (sb (!r1))), _⟩
    refine AWops.guard_no rfl (nl rfl) rfl (by rw [c2] <;> rfl) k
   ·intro K _ f w u k
    show Wp K ⟨76, (upd 76 f 13 (sb (!r1))), _⟩
    refine s_pick_yes (d := (sb true)) rfl (by rw [c2] <;> rfl) rfl k
  ·refine AWops.weak (st' := ⟨76, (upd 76 (upd 76 topF 0 (rf 0 0)) 25 (sb true)), [(some (AObj.cells false [np, np, (C.ref 1 0), (C.ref 2 0)])), (o_vdisk_Disk_03 false (C.mp 3) np p1), (o_dossierref03_Disk_0 false (C.own 4 0 p2.L.length 3) p2), (om_ e_vdisk_file p1.files), (or_ e_dossierref03_File p2.L)]⟩) (wg 5 [0, 1, 2, 3, 4] [] hx (le_upd (le_upd (le_top _) (o1 (.ref rfl))) (o1 .sc)) (ac (.cells id (ac .sc (ac .sc (ac (.ref rfl) (ac (.ref rfl) an))))) (ac (qs rfl) (ac (qo rfl) (ac .map (ac (.cells id (all2_row _)) an)))))) (AWops.nil ?_)
   refine AW.cond_yes rfl rfl (AW.seq (AW.region ?_))
   refine s_assign (d := (sb false)) rfl (AWops.nil (AW.ret ?_))
   obtain rfl := Option.some.inj h
   exact ⟨_, rfl, (wg 5 [0, 1, 2, 3, 4] [] rfl (le_upd (le_top _) (o1 .sc)) (ac (.cells id (ac .sc (ac .sc (ac (.ref rfl) (ac (.ref rfl) an))))) (ac (qs rfl) (ac (qo rfl) (ac .map (ac (.cells id (all2_row _)) an))))))⟩
mutual
def journal_Open_fresh.j0 : Nat → Bool → (List Int) → (Int × vdisk_Disk) → Option (journal_Journal × Int × vdisk_Disk)
 | 0, _, _, _ => none
 | k + 1, x3, a1, r1 => if x3 = true then ((vdisk_Disk_Read.f k r1.2 (⟨#[106, 111, 117, 114, 110, 97, 108]⟩ : ByteArray)).bind fun r5 => if (r5.2 == 0) = true then (none) else (if (r5.2 != 33) = true then (none) else (if (decide ((a1.length : Int) > 4194304)) = true then (none) else ((journal_replace.f k r1.2 a1).bind fun r9 => if (r9.1 != 0) = true then (none) else ((slices_Clone_byte_byte.f k a1).bind fun r11 => some ((⟨(), r11, ([] : List (List Int)), false⟩ : journal_Journal), 0, r9.2)))))) else (none)
end
def journal_Open_fresh.f (k : Nat) (p0 : vdisk_Disk) (a1 : List Int) : Option (journal_Journal × Int × vdisk_Disk) := (vdisk_Disk_Remove.f k p0 (⟨#[106, 111, 117, 114, 110, 97, 108, 46, 110, 101, 119]⟩ : ByteArray)).bind fun r1 => if (r1.1 == 0) = true then (journal_Open_fresh.j0 k (r1.1 == 0) a1 r1) else (journal_Open_fresh.j0 k (r1.1 == 33) a1 r1)
theorem journal_Open_fresh.meets (k : Nat) (p0 : vdisk_Disk) (a1 : List Int) (r : journal_Journal × Int × vdisk_Disk) (h : journal_Open_fresh.f k p0 a1 = some r) : Meets Try.prog 12 [(rf 0 0), (ds_ e_u8 a1)] [(o_vdisk_Disk_03 false (C.mp 1) np p0), (om_ e_vdisk_file p0.files)] (D.tup [(rf 2 0), (si r.2.1)]) [(o_vdisk_Disk_03 false (C.mp 1) np r.2.2), (om_ e_vdisk_file r.2.2.files), (o_journal_Journal_02 true (C.ref 0 0) (C.own 3 0 r.1.l.length 1) r.1), (some (AObj.cells false (rowC (e_sl e_u8) r.1.l)))] := by
 unfold journal_Open_fresh.f at h
 refine Meets.of_body (n := 54) Try.func12 rfl rfl (nl rfl) fun x hx => ?_
 replace hx : x.k = 2 := hx
 show AW _ x _ _ ⟨54, fr0 [(rf 0 0), (ds_ e_u8 a1)], [(o_vdisk_Disk_03 false (C.mp 1) np p0), (om_ e_vdisk_file p0.files)]⟩
 refine AW.seq (AW.region ?_)
 refine s_assign (d := (sc (.pointer none))) rfl (s_assign (d := (si 0)) rfl (AWops.nil (AW.seq (AW.seq (AW.region (s_move (d := (rf 0 0)) rfl ?_))))))
 obtain ⟨r1, er1, h⟩ := bnd h
 refine cc [0, 1] [(o_vdisk_Disk_03 false (C.mp 1) np r1.2), (om_ e_vdisk_file r1.2.files)] (si r1.1) F.ca_31 rfl rfl (ac (.one (.ref rfl)) (ac (.one .sc) an)) (ac (.cells (ac (.mp rfl) (ac .sc (ac .sc (ac .sc (ac .sc an)))))) (ac .map an)) (vdisk_Disk_Remove.meets _ p0 (⟨#[106, 111, 117, 114, 110, 97, 108, 46, 110, 101, 119]⟩ : ByteArray) r1 er1) (s_assign (d := (si r1.1)) rfl (AWops.nil (AW.seq (AW.region (s_move (d := (si r1.1)) rfl (AWops.nil (AW.block ?_)))))))
 refine AW.seqJ (fun st => ∃ (x3 : Bool), journal_Open_fresh.j0 k x3 a1 r1 = some r ∧ st = ⟨54, (upd 54 (upd 54 (upd 54 (upd 54 topF 0 (rf 0 0)) 1 (ds_ e_u8 a1)) 6 (si r1.1)) 15 (sb x3)), [(o_vdisk_Disk_03 false (C.mp 1) np r1.2), (om_ e_vdisk_file r1.2.files)]⟩) ?_ ?_
 ·refine AW.seq (AW.region ?_)
  refine s_binI (v := (.bool (r1.1 == 0))) rfl rfl rfl (s_assign (d := (sb (r1.1 == 0))) rfl (AWops.nil ?_))
  rcases itH h with ⟨c2, h⟩ | ⟨c2, h⟩
  ·refine AW.cond_yes rfl c2 (AW.skip ?_)
   exact ⟨⟨54, (upd 54 (upd 54 (upd 54 (upd 54 topF 0 (rf 0 0)) 1 (ds_ e_u8 a1)) 6 (si r1.1)) 15 (sb (r1.1 == 0))), [(o_vdisk_Disk_03 false (C.mp 1) np r1.2), (om_ e_vdisk_file r1.2.files)]⟩, (wg 2 [0, 1] [] hx (le_upd (le_upd (le_upd (le_upd (le_top _) (o1 (.ref rfl))) (o1 .same)) (o1 .sc)) (o1 .sc)) (ac (qs rfl) (ac .map an))), (r1.1 == 0), h, rfl⟩
  ·refine AW.cond_no rfl c2 (AW.region ?_)
   refine s_binI (v := (.bool (r1.1 == 33))) rfl rfl rfl (s_assign (d := (sb (r1.1 == 33))) rfl (AWops.nil ?_))
   exact ⟨⟨54, (upd 54 (upd 54 (upd 54 (upd 54 topF 0 (rf 0 0)) 1 (ds_ e_u8 a1)) 6 (si r1.1)) 15 (sb (r1.1 == 33))), [(o_vdisk_Disk_03 false (C.mp 1) np r1.2), (om_ e_vdisk_file r1.2.files)]⟩, (wg 2 [0, 1] [] hx (le_upd (le_upd (le_upd (le_upd (le_top _) (o1 (.ref rfl))) (o1 .same)) (o1 .sc)) (o1 .sc)) (ac (qs rfl) (ac .map an))), (r1.1 == 33), h, rfl⟩
 ·rintro st ⟨x3, h, rfl⟩
  cases k with
  | zero => exact absurd h (by simp [journal_Open_fresh.j0])
  | succ qj0 =>
   replace h := (journal_Open_fresh.j0.eq_2 _ _ _ _).symm.trans h
   rcases itH h with ⟨c4, h⟩ | ⟨c4, h⟩
   ·refine AW.cond_yes rfl c4 (AW.skip (AW.seq (AW.region ?_)))
    refine s_move (d := (rf 0 0)) rfl (s_build (ps := [(0, (rf 0 0))]) (cs := [(C.ref 0 0), (C.p true (.v (.slice none 0 0))), (C.p true (.v (.slice none 0 0))), (cb false)]) F.z_27 rfl F.so_27 rfl rfl (s_box (cs := [(C.ref 0 0), (C.p true (.v (.slice none 0 0))), (C.p true (.v (.slice none 0 0))), (cb false)]) rfl (List.cons_ne_nil _ _) rfl (s_assign (d := (rf 2 0)) rfl (AWops.nil (AW.seq (AW.region (s_move (d := (rf 0 0)) rfl ?_)))))))
    obtain ⟨r5, er5, h⟩ := bnd h
    refine cc [0, 1] [(o_vdisk_Disk_03 false (C.mp 1) np r1.2), (om_ e_vdisk_file r1.2.files), (some (AObj.cells true [(C.ref 0 0), (C.p true (.v (.slice none 0 0))), (C.p true (.v (.slice none 0 0))), (cb false)]))] (D.tup [(ds_ e_u8 r5.1), (si r5.2)]) F.ca_32 rfl rfl (ac (.one (.ref rfl)) (ac (.one .sc) an)) (ac (.cells (ac (.mp rfl) (ac .sc (ac .sc (ac .sc (ac .sc an)))))) (ac .map an)) (vdisk_Disk_Read.meets _ r1.2 (⟨#[106, 111, 117, 114, 110, 97, 108]⟩ : ByteArray) r5 er5) (s_move (d := (D.tup [(ds_ e_u8 r5.1), (si r5.2)])) rfl (s_extract (d := (ds_ e_u8 r5.1)) rfl rfl (s_extract (d := (si r5.2)) rfl rfl (s_assign (d := (ds_ e_u8 r5.1)) rfl (s_assign (d := (si r5.2)) rfl (AWops.nil (AW.seq (AW.block (AW.seq (AW.region ?_))))))))))
    refine s_move (d := (si r5.2)) rfl (s_binI (v := (.bool (r5.2 == 0))) rfl rfl rfl (s_assign (d := (sb (r5.2 == 0))) rfl (AWops.nil ?_)))
    rcases itH h with ⟨c6, h⟩ | ⟨c6, h⟩
    ·refine AW.cond_yes rfl c6 (AW.seq (AW.region ?_))
     refine s_move (d := (rf 2 0)) rfl (s_move (d := (ds_ e_u8 r5.1)) rfl ?_)
     cases h
    ·refine AW.cond_no rfl c6 (AW.seq (AW.region ?_))
     refine s_move (d := (si r5.2)) rfl (s_binI (v := (.bool (r5.2 != 33))) rfl rfl rfl (s_assign (d := (sb (r5.2 != 33))) rfl (AWops.nil ?_)))
     rcases itH h with ⟨c7, h⟩ | ⟨c7, h⟩
     ·refine AW.cond_yes rfl c7 (AW.seq (AW.region ?_))
      refine s_move (d := (si r5.2)) rfl (s_assign (d := (sc (.pointer none))) rfl (s_assign (d := (si r5.2)) rfl (AWops.nil (AW.ret ?_))))
      cases h
     ·refine AW.cond_no rfl c7 (AW.seq (AW.region ?_))
      refine s_move (d := (ds_ e_u8 a1)) rfl (s_len (n := a1.length) F.u_22 rfl (.inr ⟨(fun _ _ h => by cases h), ⟨_, rfl⟩⟩) (s_binI (v := (.bool (decide ((a1.length : Int) > 4194304)))) rfl rfl rfl (s_assign (d := (sb (decide ((a1.length : Int) > 4194304)))) rfl (AWops.nil ?_))))
      rcases itH h with ⟨c8, h⟩ | ⟨c8, h⟩
      ·refine AW.cond_yes rfl c8 (AW.seq (AW.region ?_))
       refine s_assign (d := (sc (.pointer none))) rfl (s_assign (d := (si 1)) rfl (AWops.nil (AW.ret ?_)))
       cases h
      ·refine AW.cond_no rfl c8 (AW.skip (AW.seq (AW.seq (AW.region ?_))))
       refine s_move (d := (rf 0 0)) rfl (s_move (d := (ds_ e_u8 a1)) rfl ?_)
       obtain ⟨r9, er9, h⟩ := bnd h
       refine cc [0, 1] [(o_vdisk_Disk_03 false (C.mp 1) np r9.2), (om_ e_vdisk_file r9.2.files), (some (AObj.cells true [(C.ref 0 0), (C.p true (.v (.slice none 0 0))), (C.p true (.v (.slice none 0 0))), (cb false)]))] (si r9.1) F.ca_29 rfl rfl (ac (.one (.ref rfl)) (ac (.one .imm) an)) (ac (.cells (ac (.mp rfl) (ac .sc (ac .sc (ac .sc (ac .sc an)))))) (ac .map an)) (journal_replace.meets _ r1.2 a1 r9 er9) (s_assign (d := (si r9.1)) rfl (AWops.nil (AW.seq (AW.region (s_move (d := (si r9.1)) rfl (s_binI (v := (.bool (r9.1 != 0))) rfl rfl rfl (AWops.nil ?_)))))))
       rcases itH h with ⟨c10, h⟩ | ⟨c10, h⟩
       ·refine AW.cond_yes rfl c10 (AW.seq (AW.region ?_))
        refine s_move (d := (si r9.1)) rfl (s_assign (d := (sc (.pointer none))) rfl (s_assign (d := (si r9.1)) rfl (AWops.nil (AW.ret ?_))))
        cases h
       ·refine AW.cond_no rfl c10 (AW.skip (AW.seq (AW.region ?_)))
        refine s_move (d := (rf 2 0)) rfl (s_move (d := (ds_ e_u8 a1)) rfl ?_)
        obtain ⟨r11, er11, h⟩ := bnd h
        refine cc [] [(o_vdisk_Disk_03 false (C.mp 1) np r9.2), (om_ e_vdisk_file r9.2.files), (some (AObj.cells true [(C.ref 0 0), (C.p true (.v (.slice none 0 0))), (C.p true (.v (.slice none 0 0))), (cb false)])), (ow_ e_u8 r11)] (D.one (C.own 3 0 r11.length 1)) F.ca_28 rfl rfl (ac (.one .imm) an) an (slices_Clone_byte_byte.meets _ a1 r11 er11) (s_nilCheck (d := (rf 2 0)) rfl (.inl ⟨_, _, rfl⟩) (s_fieldRef F.fo_27_1 (by decide) rfl (s_store (cs' := [(C.ref 0 0), (C.own 3 0 r11.length 1), (C.p true (.v (.slice none 0 0))), (cb false)]) rfl rfl rfl (List.cons_ne_nil _ _) rfl F.sz_22 (nl rfl) rfl (AWops.nil (AW.seq (AW.region (s_move (d := (rf 2 0)) rfl (s_assign (d := (rf 2 0)) rfl ?_))))))))
        refine s_assign (d := (si 0)) rfl (AWops.nil (AW.ret ?_))
        obtain rfl := Option.some.inj h
        exact ⟨_, rfl, (Weak.trans (Weak.nilC (t := 2) (j := 2) (sz := 1) rfl rfl rfl) (wg 2 [0, 1, 2, 4] [3] rfl (le_upd (le_top _) (DLe.tup (ac (TLe.one (.ref rfl)) (ac (TLe.one .sc) an)))) (ac (qs rfl) (ac .map (ac (.cells (fun _ => rfl) (ac (.ref rfl) (ac (CLe.frz e_u8_len rfl rfl rfl) (ac (.own rfl) (ac .sc an))))) (ac (.cells (fun _ => rfl) an) an))))))⟩
   ·refine AW.cond_no rfl c4 (AW.seq (AW.region ?_))
    refine s_move (d := (si r1.1)) rfl (s_assign (d := (sc (.pointer none))) rfl (s_assign (d := (si r1.1)) rfl (AWops.nil (AW.ret ?_))))
    cases h
def journal_Journal_none_fresh.f (k : Nat) (p0 : journal_Journal) (p1 : vdisk_Disk) : Option (Bool × journal_Journal) := some (false, (⟨(), p0.snap, p0.l, p0.stopped⟩ : journal_Journal))
theorem journal_Journal_none_fresh.meets (k : Nat) (p0 : journal_Journal) (p1 : vdisk_Disk) (r : Bool × journal_Journal) (h : journal_Journal_none_fresh.f k p0 p1 = some r) : Meets Try.prog 30 [(rf 0 0)] [(o_journal_Journal_02 false (C.ref 1 0) (C.own 2 0 p0.l.length 1) p0), (o_vdisk_Disk_03 false (C.mp 3) np p1), (some (AObj.cells false (rowC (e_sl e_u8) p0.l))), (om_ e_vdisk_file p1.files)] (sb r.1) [(o_journal_Journal_02 false (C.ref 1 0) (C.own 2 0 r.2.l.length 1) r.2), (o_vdisk_Disk_03 false (C.mp 3) np p1), (some (AObj.cells false (rowC (e_sl e_u8) r.2.l))), (om_ e_vdisk_file p1.files)] := by
 unfold journal_Journal_none_fresh.f at h
 refine Meets.of_body (n := 12) Try.func30 rfl rfl (nl rfl) fun x hx => ?_
 replace hx : x.k = 4 := hx
 show AW _ x _ _ ⟨12, fr0 [(rf 0 0)], [(o_journal_Journal_02 false (C.ref 1 0) (C.own 2 0 p0.l.length 1) p0), (o_vdisk_Disk_03 false (C.mp 3) np p1), (some (AObj.cells false (rowC (e_sl e_u8) p0.l))), (om_ e_vdisk_file p1.files)]⟩
 refine AW.seq (AW.region ?_)
 refine s_assign (d := (sb false)) rfl (AWops.nil (AW.seq (AW.region ?_)))
 refine s_move (d := (rf 0 0)) rfl (s_ptrNil (b := false) F.u_23 rfl (.inl ⟨⟨_, _, rfl⟩, rfl⟩) (.inl rfl) (s_move (d := (sb false)) rfl ?_))
 refine AWops.guard_yes rfl (nl rfl) rfl rfl ?_
 refine s_move (d := (rf 0 0)) rfl ?_
 refine AWops.guard_yes rfl (nl rfl) rfl rfl ?_
 refine s_nilCheck (d := (rf 0 0)) rfl (.inl ⟨_, _, rfl⟩) ?_
 refine AWops.guard_yes rfl (nl rfl) rfl rfl ?_
 refine s_fieldRef F.fo_27_0 (by decide) rfl ?_
 refine AWops.guard_yes rfl (nl rfl) rfl rfl ?_
 refine s_load1 (c' := (C.ref 1 0)) F.ag_24 rfl rfl ?_
 refine AWops.guard_yes rfl (nl rfl) rfl rfl ?_
 refine s_ptrNil (b := false) F.u_24 rfl (.inl ⟨⟨_, _, rfl⟩, rfl⟩) (.inl rfl) (s_pick_no (d := (sb false)) rfl rfl rfl (s_assign (d := (sb false)) rfl (AWops.nil (AW.ret ?_))))
 obtain rfl := Option.some.inj h
 exact ⟨_, rfl, (wg 4 [0, 1, 2, 3] [] rfl (le_upd (le_top _) (o1 .sc)) (ac (.cells id (ac (.ref rfl) (ac .same (ac (.own rfl) (ac .sc an))))) (ac (qs rfl) (ac (.cells id (all2_row _)) (ac .map an)))))⟩
def journal_Journal_may_fresh.f (k : Nat) (p0 : journal_Journal) (a1 : Bool) (p1 : vdisk_Disk) : Option (Int × journal_Journal) := (journal_Journal_none_fresh.f k (⟨(), p0.snap, p0.l, p0.stopped⟩ : journal_Journal) p1).bind fun r1 => if r1.1 = true then (some (2, (⟨(), r1.2.snap, r1.2.l, r1.2.stopped⟩ : journal_Journal))) else (if a1 = true then (if r1.2.stopped = true then (some (70, (⟨(), r1.2.snap, r1.2.l, r1.2.stopped⟩ : journal_Journal))) else (some (0, (⟨(), r1.2.snap, r1.2.l, r1.2.stopped⟩ : journal_Journal)))) else (some (1, (⟨(), r1.2.snap, r1.2.l, r1.2.stopped⟩ : journal_Journal))))
theorem journal_Journal_may_fresh.meets (k : Nat) (p0 : journal_Journal) (a1 : Bool) (p1 : vdisk_Disk) (r : Int × journal_Journal) (h : journal_Journal_may_fresh.f k p0 a1 p1 = some r) : Meets Try.prog 24 [(rf 0 0), (sb a1)] [(o_journal_Journal_02 false (C.ref 1 0) (C.own 2 0 p0.l.length 1) p0), (o_vdisk_Disk_03 false (C.mp 3) np p1), (some (AObj.cells false (rowC (e_sl e_u8) p0.l))), (om_ e_vdisk_file p1.files)] (si r.1) [(o_journal_Journal_02 false (C.ref 1 0) (C.own 2 0 r.2.l.length 1) r.2), (o_vdisk_Disk_03 false (C.mp 3) np p1), (some (AObj.cells false (rowC (e_sl e_u8) r.2.l))), (om_ e_vdisk_file p1.files)] := by
 unfold journal_Journal_may_fresh.f at h
 refine Meets.of_body (n := 16) Try.func24 rfl rfl (nl rfl) fun x hx => ?_
 replace hx : x.k = 4 := hx
 show AW _ x _ _ ⟨16, fr0 [(rf 0 0), (sb a1)], [(o_journal_Journal_02 false (C.ref 1 0) (C.own 2 0 p0.l.length 1) p0), (o_vdisk_Disk_03 false (C.mp 3) np p1), (some (AObj.cells false (rowC (e_sl e_u8) p0.l))), (om_ e_vdisk_file p1.files)]⟩
 refine AW.seq (AW.region ?_)
 refine s_assign (d := (si 0)) rfl (AWops.nil (AW.seq (AW.block (AW.seq (AW.region ?_)))))
 refine s_move (d := (rf 0 0)) rfl ?_
 obtain ⟨r1, er1, h⟩ := bnd h
 refine cc [0, 1, 2, 3] [(o_journal_Journal_02 false (C.ref 1 0) (C.own 2 0 r1.2.l.length 1) r1.2), (o_vdisk_Disk_03 false (C.mp 3) np p1), (some (AObj.cells false (rowC (e_sl e_u8) r1.2.l))), (om_ e_vdisk_file p1.files)] (sb r1.1) F.ca_30 rfl rfl (ac (.one (.ref rfl)) an) (ac (.cells (ac (.ref rfl) (ac .imm (ac (.own rfl) (ac .sc an))))) (ac (.cells (ac (.mp rfl) (ac .sc (ac .sc (ac .sc (ac .sc an)))))) (ac (.cells (lend_row _)) (ac .map an)))) (journal_Journal_none_fresh.meets _ (⟨(), p0.snap, p0.l, p0.stopped⟩ : journal_Journal) p1 r1 er1) (s_assign (d := (sb r1.1)) rfl (AWops.nil ?_))
 rcases itH h with ⟨c2, h⟩ | ⟨c2, h⟩
 ·refine AW.cond_yes rfl c2 (AW.seq (AW.region ?_))
  refine s_assign (d := (si 2)) rfl (AWops.nil (AW.ret ?_))
  obtain rfl := Option.some.inj h
  exact ⟨_, rfl, (wg 4 [0, 1, 2, 3] [] rfl (le_upd (le_top _) (o1 .sc)) (ac (.cells id (ac (.ref rfl) (ac .same (ac (.own rfl) (ac .sc an))))) (ac (qs rfl) (ac (.cells id (all2_row _)) (ac .map an)))))⟩
 ·refine AW.cond_no rfl c2 (AW.seq (AW.region ?_))
  refine s_move (d := (sb a1)) rfl (s_not rfl (s_assign (d := (sb (!a1))) rfl (AWops.nil ?_)))
  rcases itH h with ⟨c3, h⟩ | ⟨c3, h⟩
  ·refine AW.cond_no rfl (by rw [c3] <;> rfl) (AW.seq (AW.region ?_))
   refine s_move (d := (rf 0 0)) rfl (s_nilCheck (d := (rf 0 0)) rfl (.inl ⟨_, _, rfl⟩) (s_fieldRef F.fo_27_3 (by decide) rfl (s_load1 (c' := (cb r1.2.stopped)) F.ag_4 rfl rfl (s_assign (d := (sb r1.2.stopped)) rfl (AWops.nil ?_)))))
   rcases itH h with ⟨c4, h⟩ | ⟨c4, h⟩
   ·refine AW.cond_yes rfl c4 (AW.seq (AW.region ?_))
    refine s_assign (d := (si 70)) rfl (AWops.nil (AW.ret ?_))
    obtain rfl := Option.some.inj h
    exact ⟨_, rfl, (wg 4 [0, 1, 2, 3] [] rfl (le_upd (le_top _) (o1 .sc)) (ac (.cells id (ac (.ref rfl) (ac .same (ac (.own rfl) (ac .sc an))))) (ac (qs rfl) (ac (.cells id (all2_row _)) (ac .map an)))))⟩
   ·refine AW.cond_no rfl c4 (AW.skip (AW.seq (AW.region ?_)))
    refine s_assign (d := (si 0)) rfl (AWops.nil (AW.ret ?_))
    obtain rfl := Option.some.inj h
    exact ⟨_, rfl, (wg 4 [0, 1, 2, 3] [] rfl (le_upd (le_top _) (o1 .sc)) (ac (.cells id (ac (.ref rfl) (ac .same (ac (.own rfl) (ac .sc an))))) (ac (qs rfl) (ac (.cells id (all2_row _)) (ac .map an)))))⟩
  ·refine AW.cond_yes rfl (by rw [c3] <;> rfl) (AW.seq (AW.region ?_))
   refine s_assign (d := (si 1)) rfl (AWops.nil (AW.ret ?_))
   obtain rfl := Option.some.inj h
   exact ⟨_, rfl, (wg 4 [0, 1, 2, 3] [] rfl (le_upd (le_top _) (o1 .sc)) (ac (.cells id (ac (.ref rfl) (ac .same (ac (.own rfl) (ac .sc an))))) (ac (qs rfl) (ac (.cells id (all2_row _)) (ac .map an)))))⟩
mutual
def journal_Journal_Append_fresh_7.j0 : Nat → Int → Int → Bool → (List (ByteArray × vdisk_file)) → Int → (List Int) → (Int × journal_Journal) → Option (Int × journal_Journal × vdisk_Disk)
 | 0, _, _, _, _, _, _, _ => none
 | k + 1, x9, x10, x11, x12, x13, a1, r2 => if (x13 != 0) = true then (none) else ((slices_Clone_byte_byte.f k a1).bind fun r15 => if (decide (r2.2.l.length + ([r15] : List (List Int)).length ≤ 5864062014805)) = true then (some (0, (⟨(), r2.2.snap, r2.2.l ++ ([r15] : List (List Int)), r2.2.stopped⟩ : journal_Journal), (⟨x12, x9, x10, (), x11⟩ : vdisk_Disk))) else none)
def journal_Journal_Append_fresh_7.j1 : Nat → Int → Int → Bool → (List (ByteArray × vdisk_file)) → Int → (List Int) → (Int × journal_Journal) → Option (Int × journal_Journal × vdisk_Disk)
 | 0, _, _, _, _, _, _, _ => none
 | k + 1, x24, x25, x26, x27, x28, a1, r17 => if (x28 != 0) = true then (none) else ((slices_Clone_byte_byte.f k a1).bind fun r30 => if (decide (r17.2.l.length + ([r30] : List (List Int)).length ≤ 5864062014805)) = true then (some (0, (⟨(), r17.2.snap, r17.2.l ++ ([r30] : List (List Int)), r17.2.stopped⟩ : journal_Journal), (⟨x27, x24, x25, (), x26⟩ : vdisk_Disk))) else none)
end
def journal_Journal_Append_fresh_7.f (k : Nat) (p0 : journal_Journal) (a1 : List Int) (p1 : vdisk_Disk) : Option (Int × journal_Journal × vdisk_Disk) := if (decide ((a1.length : Int) > 0)) = true then ((journal_Journal_may_fresh.f k (⟨(), p0.snap, p0.l, p0.stopped⟩ : journal_Journal) (decide ((a1.length : Int) ≤ 4194304)) p1).bind fun r2 => if (r2.1 != 0) = true then (none) else ((journal_frame.f k a1).bind fun r4 => (vdisk_Disk_Append.f k p1 (⟨#[106, 111, 117, 114, 110, 97, 108]⟩ : ByteArray) r4).bind fun r5 => if (r5.1 == 71) = true then (none) else (if (r5.1 == 0) = true then ((vdisk_Disk_Sync.f k r5.2 (⟨#[106, 111, 117, 114, 110, 97, 108]⟩ : ByteArray)).bind fun r8 => journal_Journal_Append_fresh_7.j0 k r8.2.room r8.2.used r8.2.dead r8.2.files r8.1 a1 r2) else (journal_Journal_Append_fresh_7.j0 k r5.2.room r5.2.used r5.2.dead r5.2.files r5.1 a1 r2)))) else ((journal_Journal_may_fresh.f k (⟨(), p0.snap, p0.l, p0.stopped⟩ : journal_Journal) false p1).bind fun r17 => if (r17.1 != 0) = true then (none) else ((journal_frame.f k a1).bind fun r19 => (vdisk_Disk_Append.f k p1 (⟨#[106, 111, 117, 114, 110, 97, 108]⟩ : ByteArray) r19).bind fun r20 => if (r20.1 == 71) = true then (none) else (if (r20.1 == 0) = true then ((vdisk_Disk_Sync.f k r20.2 (⟨#[106, 111, 117, 114, 110, 97, 108]⟩ : ByteArray)).bind fun r23 => journal_Journal_Append_fresh_7.j1 k r23.2.room r23.2.used r23.2.dead r23.2.files r23.1 a1 r17) else (journal_Journal_Append_fresh_7.j1 k r20.2.room r20.2.used r20.2.dead r20.2.files r20.1 a1 r17))))
theorem journal_Journal_Append_fresh_7.meets (k : Nat) (p0 : journal_Journal) (a1 : List Int) (p1 : vdisk_Disk) (r : Int × journal_Journal × vdisk_Disk) (h : journal_Journal_Append_fresh_7.f k p0 a1 p1 = some r) : Meets Try.prog 7 [(rf 0 0), (ds_ e_u8 a1)] [(o_journal_Journal_02 false (C.ref 1 0) (C.own 3 0 p0.l.length 1) p0), (o_vdisk_Disk_03 false (C.mp 2) np p1), (om_ e_vdisk_file p1.files), (some (AObj.cells false (rowC (e_sl e_u8) p0.l)))] (si r.1) [(o_journal_Journal_02 false (C.ref 1 0) (C.own 4 0 r.2.1.l.length 1) r.2.1), (o_vdisk_Disk_03 false (C.mp 2) np r.2.2), (om_ e_vdisk_file r.2.2.files), none, (some (AObj.cells false (rowC (e_sl e_u8) r.2.1.l)))] := by
 unfold journal_Journal_Append_fresh_7.f at h
 refine Meets.of_body (n := 54) Try.func7 rfl rfl (nl rfl) fun x hx => ?_
 replace hx : x.k = 4 := hx
 show AW _ x _ _ ⟨54, fr0 [(rf 0 0), (ds_ e_u8 a1)], [(o_journal_Journal_02 false (C.ref 1 0) (C.own 3 0 p0.l.length 1) p0), (o_vdisk_Disk_03 false (C.mp 2) np p1), (om_ e_vdisk_file p1.files), (some (AObj.cells false (rowC (e_sl e_u8) p0.l)))]⟩
 refine AW.weak (st' := ⟨54, (upd 54 (upd 54 topF 0 (rf 0 0)) 1 (ds_ e_u8 a1)), [(o_journal_Journal_02 false (C.ref 1 0) (C.own 4 0 p0.l.length 1) p0), (o_vdisk_Disk_03 false (C.mp 2) np p1), (om_ e_vdisk_file p1.files), none, (some (AObj.cells false (rowC (e_sl e_u8) p0.l)))]⟩) (Weak.genL (kk := 4) [0, 1, 2, 3, 3] [] hx rfl (by decide) rfl rfl rfl rfl (le_upd (le_upd (le_top _) (o1 (.ref rfl))) (o1 .same)) (ac (.cells id (ac (.ref rfl) (ac .same (ac (.own rfl) (ac .sc an))))) (ac (qs rfl) (ac .map (ac (.none _) (ac (.cells id (all2_row _)) an)))))) (AW.seq (AW.region ?_))
 refine s_assign (d := (si 0)) rfl (AWops.nil (AW.seq (AW.seq (AW.region ?_))))
 refine s_move (d := (rf 0 0)) rfl (s_move (d := (ds_ e_u8 a1)) rfl (s_len (n := a1.length) F.u_22 rfl (.inr ⟨(fun _ _ h => by cases h), ⟨_, rfl⟩⟩) (s_binI (v := (.bool (decide ((a1.length : Int) > 0)))) rfl rfl rfl (s_move (d := (sb (decide ((a1.length : Int) > 0)))) rfl ?_))))
 rcases itH h with ⟨c1, h⟩ | ⟨c1, h⟩
 ·refine AWops.guard_yes rfl (nl rfl) rfl c1 ?_
  refine s_move (d := (ds_ e_u8 a1)) rfl ?_
  refine AWops.guard_yes rfl (nl rfl) rfl c1 ?_
  refine s_len (n := a1.length) F.u_22 rfl (.inr ⟨(fun _ _ h => by cases h), ⟨_, rfl⟩⟩) ?_
  refine AWops.guard_yes rfl (nl rfl) rfl c1 ?_
  refine s_binI (v := (.bool (decide ((a1.length : Int) ≤ 4194304)))) rfl rfl rfl (s_pick_yes (d := (sb (decide ((a1.length : Int) ≤ 4194304)))) rfl c1 rfl ?_)
  obtain ⟨r2, er2, h⟩ := bnd h
  refine cc [0, 1, 4, 2] [(o_journal_Journal_02 false (C.ref 1 0) (C.own 4 0 r2.2.l.length 1) r2.2), (o_vdisk_Disk_03 false (C.mp 2) np p1), (om_ e_vdisk_file p1.files), none, (some (AObj.cells false (rowC (e_sl e_u8) r2.2.l)))] (si r2.1) F.ca_24 rfl rfl (ac (.one (.ref rfl)) (ac (.one .sc) an)) (ac (.cells (ac (.ref rfl) (ac .imm (ac (.own rfl) (ac .sc an))))) (ac (.cells (ac (.mp rfl) (ac .sc (ac .sc (ac .sc (ac .sc an)))))) (ac (.cells (lend_row _)) (ac .map an)))) (journal_Journal_may_fresh.meets _ (⟨(), p0.snap, p0.l, p0.stopped⟩ : journal_Journal) (decide ((a1.length : Int) ≤ 4194304)) p1 r2 er2) (s_assign (d := (si r2.1)) rfl (AWops.nil (AW.seq (AW.region (s_move (d := (si r2.1)) rfl (s_binI (v := (.bool (r2.1 != 0))) rfl rfl rfl (AWops.nil ?_)))))))
  rcases itH h with ⟨c3, h⟩ | ⟨c3, h⟩
  ·refine AW.cond_yes rfl c3 (AW.seq (AW.region ?_))
   refine s_move (d := (si r2.1)) rfl (s_assign (d := (si r2.1)) rfl (AWops.nil (AW.ret ?_)))
   cases h
  ·refine AW.cond_no rfl c3 (AW.skip (AW.seq ?_))
   refine AW.weak (st' := ⟨54, (upd 54 (upd 54 topF 0 (rf 0 0)) 1 (ds_ e_u8 a1)), [(o_journal_Journal_02 false (C.ref 1 0) (C.own 4 0 r2.2.l.length 1) r2.2), (o_vdisk_Disk_03 false (C.mp 2) np p1), (om_ e_vdisk_file p1.files), none, (some (AObj.cells false (rowC (e_sl e_u8) r2.2.l)))]⟩) (wg 4 [0, 1, 2, 3, 4] [] hx (le_upd (le_upd (le_top _) (o1 (.ref rfl))) (o1 .same)) (ac (.cells id (ac (.ref rfl) (ac .same (ac (.own rfl) (ac .sc an))))) (ac (qs rfl) (ac .map (ac (.none _) (ac (.cells id (all2_row _)) an)))))) ?_
   obtain ⟨r4, er4, h⟩ := bnd h
   obtain ⟨r5, er5, h⟩ := bnd h
   refine AW.draw (n := 54) (L := 7) [(ft 0 20 (rf 0 0) [(0, (rf 0 0))]), (ft 1 21 (rf 0 0) [(20, (rf 0 0))]), (ft 2 22 (rf 0 0) [(21, (rf 0 0))]), (3, ⟨some 23, (rf 1 0), [(22, (rf 0 0))], [(0, (o_journal_Journal_02 false (C.ref 1 0) (C.own 4 0 r2.2.l.length 1) r2.2))], [], none⟩), (ft 4 24 (ds_ e_u8 a1) [(1, (ds_ e_u8 a1))]), (5, ⟨some 25, (D.one (C.own 5 0 r4.length 1)), [(24, (ds_ e_u8 a1))], [], [(5, (ow_ e_u8 r4))], some 5⟩), (6, ⟨some 26, (si r5.1), [(23, (rf 1 0)), (25, (D.one (C.own 5 0 r4.length 1)))], [(1, (o_vdisk_Disk_03 false (C.mp 2) np p1)), (2, (om_ e_vdisk_file p1.files)), (5, (ow_ e_u8 r4))], [(1, (o_vdisk_Disk_03 false (C.mp 2) np r5.2)), (2, (om_ e_vdisk_file r5.2.files))], none⟩), (ft 7 6 (si r5.1) [(26, (si r5.1))])] [[], [0], [0, 1], [0, 1, 2], [], [4], (.range 6), (.range 7)] (nl rfl) [0, 1, 2, 3, 0, 1, 4, 5] rfl (TK := [(5, 5)]) rfl (AllK.cons' ⟨(tk_upd (tk_upd tk_top rfl) rfl), (tC rfl (tC rfl (tC rfl (tC rfl (tC (tkO_row _) AllT.nil'))))), (fC (.inr rfl) (fC (.inr rfl) (fC (.inr rfl) (fC (.inr rfl) (fC (.inr rfl) (fC (.inl rfl) (fC (.inl rfl) (fC (.inl rfl) AllF.nil'))))))))⟩ AllK.nil') (by repeat (first | refine fC ⟨?_, ?_⟩ ?_ | refine sC rfl ?_ | refine hC rfl ?_ | trivial)) ?_ ?_
   ·refine y8 ?_ ?_ ?_ ?_ ?_ ?_ ?_ ?_ yN
    ·intro K _ f w u k
     show Wp K ⟨54, (upd 54 f 0 (rf 0 0)), _⟩
     refine s_move (d := (rf 0 0)) rfl k
    ·intro K _ f w u k
     show Wp K ⟨54, (upd 54 f 20 (rf 0 0)), [_, _, _, _, _, _, _]⟩
     refine s_nilCheck (d := (rf 0 0)) rfl (.inl ⟨_, _, rfl⟩) k
    ·intro K _ f w u k
     show Wp K ⟨54, (upd 54 f 21 (rf 0 0)), [_, _, _, _, _, _, _]⟩
     refine s_fieldRef F.fo_27_0 (by decide) rfl k
    ·intro K _ f w u k
     show Wp K ⟨54, (upd 54 f 22 (rf 0 0)), [(o_journal_Journal_02 false (C.ref 1 0) (C.own 4 0 r2.2.l.length 1) r2.2), _, _, _, _, _, _]⟩
     refine s_load1 (c' := (C.ref 1 0)) F.ag_24 rfl rfl k
    ·intro K _ f w u k
     show Wp K ⟨54, (upd 54 f 1 (ds_ e_u8 a1)), _⟩
     refine s_move (d := (ds_ e_u8 a1)) rfl k
    ·intro K _ f w u k
     show Wp K ⟨54, (upd 54 f 24 (ds_ e_u8 a1)), [_, _, _, _, _, _, _]⟩
     refine cc [] [(w 0), (w 1), (w 2), (w 3), (w 4), (w 5), (w 6), (ow_ e_u8 r4)] (D.one (C.own 7 0 r4.length 1)) F.ca_26 rfl rfl (ac (.one .imm) an) an (journal_frame.meets _ a1 r4 er4) ?_
     refine AWops.weak (st' := ⟨54, (upd 54 (upd 54 f 24 (ds_ e_u8 a1)) 25 (D.one (C.own 5 0 r4.length 1))), [(w 0), (w 1), (w 2), (w 3), (w 4), (ow_ e_u8 r4), (w 6)]⟩) (wg 4 [0, 1, 2, 3, 4, 7, 6] [] hx (le_upd2 (le_ok (p := 5) (L := 7) rfl (u 5 rfl).1) (o1 (.own rfl))) (ac (oq 5 7 (u 5 rfl) 0) (ac (oq 5 7 (u 5 rfl) 1) (ac (oq 5 7 (u 5 rfl) 2) (ac (oq 5 7 (u 5 rfl) 3) (ac (oq 5 7 (u 5 rfl) 4) (ac (.cells (fun _ => rfl) (all2_row _)) (ac (oq 5 7 (u 5 rfl) 6) an)))))))) k
    ·intro K _ f w u k
     show Wp K ⟨54, (upd 54 (upd 54 f 25 (D.one (C.own 5 0 r4.length 1))) 23 (rf 1 0)), [_, (o_vdisk_Disk_03 false (C.mp 2) np p1), (om_ e_vdisk_file p1.files), _, _, (ow_ e_u8 r4), _]⟩
     refine cc [1, 5, 2] [(w 0), (o_vdisk_Disk_03 false (C.mp 2) np r5.2), (om_ e_vdisk_file r5.2.files), (w 3), (w 4), (ow_ e_u8 r4), (w 6)] (si r5.1) F.ca_25 rfl rfl (ac (.one (.ref rfl)) (ac (.one .sc) (ac (.one (.own rfl)) an))) (ac (.cells (ac (.mp rfl) (ac .sc (ac .sc (ac .sc (ac .sc an)))))) (ac (.cells (lend_row _)) (ac .map an))) (vdisk_Disk_Append.meets _ p1 (⟨#[106, 111, 117, 114, 110, 97, 108]⟩ : ByteArray) r4 r5 er5) k
    ·intro K _ f w u k
     show Wp K ⟨54, (upd 54 f 26 (si r5.1)), _⟩
     refine s_assign (d := (si r5.1)) rfl k
   ·refine AWops.weak (st' := ⟨54, (upd 54 (upd 54 (upd 54 topF 0 (rf 0 0)) 1 (ds_ e_u8 a1)) 6 (si r5.1)), [(o_journal_Journal_02 false (C.ref 1 0) (C.own 4 0 r2.2.l.length 1) r2.2), (o_vdisk_Disk_03 false (C.mp 2) np r5.2), (om_ e_vdisk_file r5.2.files), none, (some (AObj.cells false (rowC (e_sl e_u8) r2.2.l)))]⟩) (wg 4 [0, 1, 2, 3, 4] [] hx (le_upd (le_upd (le_upd (le_top _) (o1 (.ref rfl))) (o1 .same)) (o1 .sc)) (ac (.cells id (ac (.ref rfl) (ac .same (ac (.own rfl) (ac .sc an))))) (ac (qs rfl) (ac .map (ac (.none _) (ac (.cells id (all2_row _)) an)))))) (AWops.nil (AW.seq (AW.seq (AW.region ?_))))
    refine s_move (d := (si r5.1)) rfl (s_binI (v := (.bool (r5.1 == 71))) rfl rfl rfl (AWops.nil ?_))
    rcases itH h with ⟨c6, h⟩ | ⟨c6, h⟩
    ·refine AW.cond_yes rfl c6 (AW.seq (AW.region ?_))
     refine s_move (d := (si r5.1)) rfl (s_assign (d := (si r5.1)) rfl (AWops.nil (AW.ret ?_)))
     cases h
    ·refine AW.cond_no rfl c6 (AW.skip ?_)
     refine AW.seqJ (fun st => ∃ (x9 : Int) (x10 : Int) (x11 : Bool) (x12 : List (ByteArray × vdisk_file)) (x13 : Int), journal_Journal_Append_fresh_7.j0 k x9 x10 x11 x12 x13 a1 r2 = some r ∧ st = ⟨54, (upd 54 (upd 54 (upd 54 topF 0 (rf 0 0)) 1 (ds_ e_u8 a1)) 6 (si x13)), [(o_journal_Journal_02 false (C.ref 1 0) (C.own 4 0 r2.2.l.length 1) r2.2), (some (AObj.cells false [(C.mp 2), (ci x9), (ci x10), np, (cb x11)])), (om_ e_vdisk_file x12), none, (some (AObj.cells false (rowC (e_sl e_u8) r2.2.l)))]⟩) ?_ ?_
     ·refine AW.seq (AW.region ?_)
      refine s_move (d := (si r5.1)) rfl (s_binI (v := (.bool (r5.1 == 0))) rfl rfl rfl (AWops.nil ?_))
      rcases itH h with ⟨c7, h⟩ | ⟨c7, h⟩
      ·refine AW.cond_yes rfl c7 (AW.region ?_)
       refine s_move (d := (rf 0 0)) rfl (s_nilCheck (d := (rf 0 0)) rfl (.inl ⟨_, _, rfl⟩) (s_fieldRef F.fo_27_0 (by decide) rfl (s_load1 (c' := (C.ref 1 0)) F.ag_24 rfl rfl ?_)))
       obtain ⟨r8, er8, h⟩ := bnd h
       refine cc [1, 2] [(o_journal_Journal_02 false (C.ref 1 0) (C.own 4 0 r2.2.l.length 1) r2.2), (o_vdisk_Disk_03 false (C.mp 2) np r8.2), (om_ e_vdisk_file r8.2.files), none, (some (AObj.cells false (rowC (e_sl e_u8) r2.2.l)))] (si r8.1) F.ca_27 rfl rfl (ac (.one (.ref rfl)) (ac (.one .sc) an)) (ac (.cells (ac (.mp rfl) (ac .sc (ac .sc (ac .sc (ac .sc an)))))) (ac .map an)) (vdisk_Disk_Sync.meets _ r5.2 (⟨#[106, 111, 117, 114, 110, 97, 108]⟩ : ByteArray) r8 er8) (s_assign (d := (si r8.1)) rfl (AWops.nil ?_))
       exact ⟨⟨54, (upd 54 (upd 54 (upd 54 topF 0 (rf 0 0)) 1 (ds_ e_u8 a1)) 6 (si r8.1)), [(o_journal_Journal_02 false (C.ref 1 0) (C.own 4 0 r2.2.l.length 1) r2.2), (some (AObj.cells false [(C.mp 2), (ci r8.2.room), (ci r8.2.used), np, (cb r8.2.dead)])), (om_ e_vdisk_file r8.2.files), none, (some (AObj.cells false (rowC (e_sl e_u8) r2.2.l)))]⟩, (wg 4 [0, 1, 2, 3, 4] [] hx (le_upd (le_upd (le_upd (le_top _) (o1 (.ref rfl))) (o1 .same)) (o1 .sc)) (ac (.cells id (ac (.ref rfl) (ac .same (ac (.own rfl) (ac .sc an))))) (ac (qs rfl) (ac .map (ac (.none _) (ac (.cells id (all2_row _)) an)))))), r8.2.room, r8.2.used, r8.2.dead, r8.2.files, r8.1, h, rfl⟩
      ·refine AW.cond_no rfl c7 (AW.skip ?_)
       exact ⟨⟨54, (upd 54 (upd 54 (upd 54 topF 0 (rf 0 0)) 1 (ds_ e_u8 a1)) 6 (si r5.1)), [(o_journal_Journal_02 false (C.ref 1 0) (C.own 4 0 r2.2.l.length 1) r2.2), (some (AObj.cells false [(C.mp 2), (ci r5.2.room), (ci r5.2.used), np, (cb r5.2.dead)])), (om_ e_vdisk_file r5.2.files), none, (some (AObj.cells false (rowC (e_sl e_u8) r2.2.l)))]⟩, (wg 4 [0, 1, 2, 3, 4] [] hx (le_upd (le_upd (le_upd (le_top _) (o1 (.ref rfl))) (o1 .same)) (o1 .sc)) (ac (.cells id (ac (.ref rfl) (ac .same (ac (.own rfl) (ac .sc an))))) (ac (qs rfl) (ac .map (ac (.none _) (ac (.cells id (all2_row _)) an)))))), r5.2.room, r5.2.used, r5.2.dead, r5.2.files, r5.1, h, rfl⟩
     ·rintro st ⟨x9, x10, x11, x12, x13, h, rfl⟩
      cases k with
      | zero => exact absurd h (by simp [journal_Journal_Append_fresh_7.j0])
      | succ qj0 =>
       replace h := (journal_Journal_Append_fresh_7.j0.eq_2 _ _ _ _ _ _ _ _).symm.trans h
       refine AW.seq (AW.seq (AW.region ?_))
       refine s_move (d := (si x13)) rfl (s_binI (v := (.bool (x13 != 0))) rfl rfl rfl (AWops.nil ?_))
       rcases itH h with ⟨c14, h⟩ | ⟨c14, h⟩
       ·refine AW.cond_yes rfl c14 (AW.seq (AW.region ?_))
        refine s_move (d := (rf 0 0)) rfl (s_nilCheck (d := (rf 0 0)) rfl (.inl ⟨_, _, rfl⟩) (s_fieldRef F.fo_27_3 (by decide) rfl (s_store (cs' := [(C.ref 1 0), (cl_ e_u8 r2.2.snap), (C.own 4 0 r2.2.l.length 1), (cb true)]) rfl rfl rfl (List.cons_ne_nil _ _) rfl F.sz_4 (nl rfl) rfl (AWops.nil (AW.seq (AW.region (s_move (d := (si x13)) rfl (s_assign (d := (si x13)) rfl (AWops.nil (AW.ret ?_))))))))))
        cases h
       ·refine AW.cond_no rfl c14 (AW.skip (AW.seq ?_))
        refine AW.weak (st' := ⟨54, (upd 54 (upd 54 topF 0 (rf 0 0)) 1 (ds_ e_u8 a1)), [(o_journal_Journal_02 false (C.ref 1 0) (C.own 4 0 r2.2.l.length 1) r2.2), (some (AObj.cells false [(C.mp 2), (ci x9), (ci x10), np, (cb x11)])), (om_ e_vdisk_file x12), none, (some (AObj.cells false (rowC (e_sl e_u8) r2.2.l)))]⟩) (wg 4 [0, 1, 2, 3, 4] [] hx (le_upd (le_upd (le_top _) (o1 (.ref rfl))) (o1 .same)) (ac (.cells id (ac (.ref rfl) (ac .same (ac (.own rfl) (ac .sc an))))) (ac (qs rfl) (ac .map (ac (.none _) (ac (.cells id (all2_row _)) an)))))) ?_
        obtain ⟨r15, er15, h⟩ := bnd h
        obtain ⟨c16, h⟩ := gdH h
        have dc16 := of_decide_eq_true c16
        refine AW.draw (n := 54) (L := 8) [(ft 0 43 (rf 0 0) [(0, (rf 0 0))]), (ft 1 44 (rf 0 0) [(0, (rf 0 0))]), (ft 2 45 (rf 0 0) [(44, (rf 0 0))]), (ft 3 46 (rf 0 2) [(45, (rf 0 0))]), (4, ⟨some 47, (D.one (C.own 4 0 r2.2.l.length 1)), [(46, (rf 0 2))], [(0, (o_journal_Journal_02 false (C.ref 1 0) (C.own 4 0 r2.2.l.length 1) r2.2))], [], none⟩), (ft 5 48 (ds_ e_u8 a1) [(1, (ds_ e_u8 a1))]), (6, ⟨some 49, (ds_ e_u8 r15), [(48, (ds_ e_u8 a1))], [], [], some 5⟩), (7, ⟨some 50, (D.one (C.own 6 0 (([r15] : List (List Int)).length) 1)), [(49, (ds_ e_u8 r15))], [], [(6, (some (AObj.cells true (rowC (e_sl e_u8) ([r15] : List (List Int))))))], some 6⟩), (8, ⟨some 51, (D.one (C.own 7 0 ((r2.2.l ++ ([r15] : List (List Int))).length) 1)), [(47, (D.one (C.own 4 0 r2.2.l.length 1))), (50, (D.one (C.own 6 0 (([r15] : List (List Int)).length) 1)))], [(4, (some (AObj.cells false (rowC (e_sl e_u8) r2.2.l)))), (6, (some (AObj.cells true (rowC (e_sl e_u8) ([r15] : List (List Int))))))], [(4, none), (7, (some (AObj.cells false (rowC (e_sl e_u8) (r2.2.l ++ ([r15] : List (List Int)))))))], some 7⟩), (ft 9 52 (rf 0 0) [(43, (rf 0 0))]), (ft 10 53 (rf 0 2) [(52, (rf 0 0))]), (11, ⟨none, (D.one C.top), [(51, (D.one (C.own 7 0 ((r2.2.l ++ ([r15] : List (List Int))).length) 1))), (53, (rf 0 2))], [(0, (o_journal_Journal_02 false (C.ref 1 0) (C.own 4 0 r2.2.l.length 1) r2.2))], [(0, (o_journal_Journal_02 false (C.ref 1 0) (C.own 7 0 ((r2.2.l ++ ([r15] : List (List Int))).length) 1) r2.2))], none⟩)] [[], [], [1], [1, 2], [1, 2, 3], [], [5], [5, 6], [1, 2, 3, 4, 5, 6, 7], (.range 9), (.range 10), (.range 11)] (nl rfl) [0, 0, 1, 2, 3, 0, 1, 2, 4, 5, 6, 7] rfl (TK := [(6, 5), (7, 6), (8, 7)]) rfl (AllK.cons' ⟨(tk_upd (tk_upd tk_top rfl) rfl), (tC rfl (tC rfl (tC rfl (tC rfl (tC (tkO_row _) AllT.nil'))))), (fC (.inr rfl) (fC (.inr rfl) (fC (.inr rfl) (fC (.inr rfl) (fC (.inr rfl) (fC (.inr rfl) (fC (.inl rfl) (fC (.inl rfl) (fC (.inl rfl) (fC (.inl rfl) (fC (.inl rfl) (fC (.inl rfl) AllF.nil'))))))))))))⟩ (AllK.cons' ⟨(tk_upd (tk_upd tk_top rfl) rfl), (tC rfl (tC rfl (tC rfl (tC rfl (tC (tkO_row _) AllT.nil'))))), (fC (.inr rfl) (fC (.inr rfl) (fC (.inr rfl) (fC (.inr rfl) (fC (.inr rfl) (fC (.inr rfl) (fC (.inr rfl) (fC (.inl rfl) (fC (.inl rfl) (fC (.inl rfl) (fC (.inl rfl) (fC (.inl rfl) AllF.nil'))))))))))))⟩ (AllK.cons' ⟨(tk_upd (tk_upd tk_top rfl) rfl), (tC rfl (tC rfl (tC rfl (tC rfl (tC (tkO_row _) AllT.nil'))))), (by repeat (first | refine fC (.inl rfl) ?_ | refine fC (.inr rfl) ?_ | refine fC (.inr (by unfold tkFoot; simp only [List.all_cons, List.all_nil, tkO_row, Bool.and_true, Bool.true_and]; rfl)) ?_ | trivial))⟩ AllK.nil'))) (by repeat (first | refine fC ⟨?_, ?_⟩ ?_ | refine sC rfl ?_ | refine hC rfl ?_ | trivial)) ?_ ?_
        ·refine y8 ?_ ?_ ?_ ?_ ?_ ?_ ?_ ?_ (y4 ?_ ?_ ?_ ?_ yN)
         ·intro K _ f w u k
          show Wp K ⟨54, (upd 54 f 0 (rf 0 0)), _⟩
          refine s_move (d := (rf 0 0)) rfl k
         ·intro K _ f w u k
          show Wp K ⟨54, (upd 54 f 0 (rf 0 0)), _⟩
          refine s_move (d := (rf 0 0)) rfl k
         ·intro K _ f w u k
          show Wp K ⟨54, (upd 54 f 44 (rf 0 0)), [_, _, _, _, _, _, _, _]⟩
          refine s_nilCheck (d := (rf 0 0)) rfl (.inl ⟨_, _, rfl⟩) k
         ·intro K _ f w u k
          show Wp K ⟨54, (upd 54 f 45 (rf 0 0)), [_, _, _, _, _, _, _, _]⟩
          refine s_fieldRef F.fo_27_2 (by decide) rfl k
         ·intro K _ f w u k
          show Wp K ⟨54, (upd 54 f 46 (rf 0 2)), [(o_journal_Journal_02 false (C.ref 1 0) (C.own 4 0 r2.2.l.length 1) r2.2), _, _, _, _, _, _, _]⟩
          refine s_load1 (c' := (C.own 4 0 r2.2.l.length 1)) F.ag_25 rfl rfl k
         ·intro K _ f w u k
          show Wp K ⟨54, (upd 54 f 1 (ds_ e_u8 a1)), _⟩
          refine s_move (d := (ds_ e_u8 a1)) rfl k
         ·intro K _ f w u k
          show Wp K ⟨54, (upd 54 f 48 (ds_ e_u8 a1)), [_, _, _, _, _, _, _, _]⟩
          refine cc [] [(w 0), (w 1), (w 2), (w 3), (w 4), (w 5), (w 6), (w 7), (ow_ e_u8 r15)] (D.one (C.own 8 0 r15.length 1)) F.ca_28 rfl rfl (ac (.one .imm) an) an (slices_Clone_byte_byte.meets _ a1 r15 er15) ?_
          refine AWops.weak (st' := ⟨54, (upd 54 (upd 54 f 48 (ds_ e_u8 a1)) 49 (ds_ e_u8 r15)), [(w 0), (w 1), (w 2), (w 3), (w 4), (w 5), (w 6), (w 7)]⟩) (wg 4 [0, 1, 2, 3, 4, 5, 6, 7] [8] hx (le_upd2 (le_ok (p := 5) (L := 8) rfl (u 5 rfl).1) (o1 (CLe.frz e_u8_len rfl rfl rfl))) (ac (oq 5 8 (u 5 rfl) 0) (ac (oq 5 8 (u 5 rfl) 1) (ac (oq 5 8 (u 5 rfl) 2) (ac (oq 5 8 (u 5 rfl) 3) (ac (oq 5 8 (u 5 rfl) 4) (ac (oq 5 8 (u 5 rfl) 5) (ac (oq 5 8 (u 5 rfl) 6) (ac (oq 5 8 (u 5 rfl) 7) an))))))))) k
         ·intro K _ f w u k
          show Wp K ⟨54, (upd 54 f 49 (ds_ e_u8 r15)), [_, _, _, _, _, _, _, _]⟩
          refine s_buildSlice (n := 1) (ps := [(0, (ds_ e_u8 r15))]) (cs := rowC (e_sl e_u8) ([r15] : List (List Int))) F.u_25 F.sz_22 F.z_22 rfl rfl (by decide) (by decide) rfl rfl ?_
          refine AWops.weak (st' := ⟨54, (upd 54 (upd 54 f 49 (ds_ e_u8 r15)) 50 (D.one (C.own 6 0 (([r15] : List (List Int)).length) 1))), [(w 0), (w 1), (w 2), (w 3), (w 4), (w 5), (some (AObj.cells true (rowC (e_sl e_u8) ([r15] : List (List Int))))), (w 7)]⟩) (wg 4 [0, 1, 2, 3, 4, 5, 8, 7] [] hx (le_upd2 (le_ok (p := 6) (L := 8) rfl (u 6 rfl).1) (o1 (.own rfl))) (ac (oq 6 8 (u 6 rfl) 0) (ac (oq 6 8 (u 6 rfl) 1) (ac (oq 6 8 (u 6 rfl) 2) (ac (oq 6 8 (u 6 rfl) 3) (ac (oq 6 8 (u 6 rfl) 4) (ac (oq 6 8 (u 6 rfl) 5) (ac (.cells (fun _ => rfl) (all2_row _)) (ac (oq 6 8 (u 6 rfl) 7) an))))))))) k
         ·intro K _ f w u k
          show Wp K ⟨54, (upd 54 (upd 54 f 50 (D.one (C.own 6 0 (([r15] : List (List Int)).length) 1))) 47 (D.one (C.own 4 0 r2.2.l.length 1))), [_, _, _, _, (some (AObj.cells false (rowC (e_sl e_u8) r2.2.l))), _, (some (AObj.cells true (rowC (e_sl e_u8) ([r15] : List (List Int))))), _]⟩
          refine t_append (xs := r2.2.l) (ys := ([r15] : List (List Int))) (zs := r2.2.l ++ ([r15] : List (List Int))) (H' := [(w 0), (w 1), (w 2), (w 3), none, (w 5), (some (AObj.cells true (rowC (e_sl e_u8) ([r15] : List (List Int))))), (w 7), (some (AObj.cells false (rowC (e_sl e_u8) (r2.2.l ++ ([r15] : List (List Int))))))]) F.u_25 F.in_22 rfl (e_sl_len _) (.own rfl rfl) (.own rfl rfl) F.u_25 (by omega) (by omega) rfl rfl ?_
          refine AWops.weak (st' := ⟨54, (upd 54 (upd 54 (upd 54 f 50 (D.one (C.own 6 0 (([r15] : List (List Int)).length) 1))) 47 (D.one (C.own 4 0 r2.2.l.length 1))) 51 (D.one (C.own 7 0 ((r2.2.l ++ ([r15] : List (List Int))).length) 1))), [(w 0), (w 1), (w 2), (w 3), none, (w 5), (some (AObj.cells true (rowC (e_sl e_u8) ([r15] : List (List Int))))), (some (AObj.cells false (rowC (e_sl e_u8) (r2.2.l ++ ([r15] : List (List Int))))))]⟩) (wg 4 [0, 1, 2, 3, 4, 5, 6, 8] [] hx (le_upd2 (le_ok (p := 7) (L := 8) rfl (u 7 rfl).1) (o1 (.own rfl))) (ac (oq 7 8 (u 7 rfl) 0) (ac (oq 7 8 (u 7 rfl) 1) (ac (oq 7 8 (u 7 rfl) 2) (ac (oq 7 8 (u 7 rfl) 3) (ac (.none _) (ac (oq 7 8 (u 7 rfl) 5) (ac (.cells (fun _ => rfl) (all2_row _)) (ac (.cells id (all2_row _)) an))))))))) k
         ·intro K _ f w u k
          show Wp K ⟨54, (upd 54 f 43 (rf 0 0)), [_, _, _, _, _, _, _, _]⟩
          refine s_nilCheck (d := (rf 0 0)) rfl (.inl ⟨_, _, rfl⟩) k
         ·intro K _ f w u k
          show Wp K ⟨54, (upd 54 f 52 (rf 0 0)), [_, _, _, _, _, _, _, _]⟩
          refine s_fieldRef F.fo_27_2 (by decide) rfl k
         ·intro K _ f w u k
          show Wp K ⟨54, (upd 54 (upd 54 f 53 (rf 0 2)) 51 (D.one (C.own 7 0 ((r2.2.l ++ ([r15] : List (List Int))).length) 1))), [(o_journal_Journal_02 false (C.ref 1 0) (C.own 4 0 r2.2.l.length 1) r2.2), _, _, _, _, _, _, _]⟩
          refine s_store (cs' := [(C.ref 1 0), (cl_ e_u8 r2.2.snap), (C.own 7 0 ((r2.2.l ++ ([r15] : List (List Int))).length) 1), (cb r2.2.stopped)]) rfl rfl rfl (List.cons_ne_nil _ _) rfl F.sz_25 (nl rfl) rfl k
        ·refine AWops.weak (st' := ⟨54, topF, [(o_journal_Journal_02 false (C.ref 1 0) (C.own 4 0 ((r2.2.l ++ ([r15] : List (List Int))).length) 1) r2.2), (some (AObj.cells false [(C.mp 2), (ci x9), (ci x10), np, (cb x11)])), (om_ e_vdisk_file x12), none, (some (AObj.cells false (rowC (e_sl e_u8) (r2.2.l ++ ([r15] : List (List Int))))))]⟩) (wg 4 [0, 1, 2, 3, 7] [] hx (le_top _) (ac (.cells id (ac (.ref rfl) (ac .same (ac (.own rfl) (ac .sc an))))) (ac (qs rfl) (ac .map (ac (.none _) (ac (.cells id (all2_row _)) an)))))) (AWops.nil (AW.seq (AW.region ?_)))
         refine s_assign (d := (si 0)) rfl (AWops.nil (AW.ret ?_))
         obtain rfl := Option.some.inj h
         exact ⟨_, rfl, (wg 4 [0, 1, 2, 3, 4] [] rfl (le_upd (le_top _) (o1 .sc)) (ac (.cells id (ac (.ref rfl) (ac .same (ac (.own rfl) (ac .sc an))))) (ac (qs rfl) (ac .map (ac (.none _) (ac (.cells id (all2_row _)) an))))))⟩
 ·iterate 3 refine AWops.guard_no rfl (nl rfl) rfl c1 ?_
  refine s_pick_no (d := (sb false)) rfl c1 rfl ?_
  obtain ⟨r17, er17, h⟩ := bnd h
  refine cc [0, 1, 4, 2] [(o_journal_Journal_02 false (C.ref 1 0) (C.own 4 0 r17.2.l.length 1) r17.2), (o_vdisk_Disk_03 false (C.mp 2) np p1), (om_ e_vdisk_file p1.files), none, (some (AObj.cells false (rowC (e_sl e_u8) r17.2.l)))] (si r17.1) F.ca_24 rfl rfl (ac (.one (.ref rfl)) (ac (.one .sc) an)) (ac (.cells (ac (.ref rfl) (ac .imm (ac (.own rfl) (ac .sc an))))) (ac (.cells (ac (.mp rfl) (ac .sc (ac .sc (ac .sc (ac .sc an)))))) (ac (.cells (lend_row _)) (ac .map an)))) (journal_Journal_may_fresh.meets _ (⟨(), p0.snap, p0.l, p0.stopped⟩ : journal_Journal) false p1 r17 er17) (s_assign (d := (si r17.1)) rfl (AWops.nil (AW.seq (AW.region (s_move (d := (si r17.1)) rfl (s_binI (v := (.bool (r17.1 != 0))) rfl rfl rfl (AWops.nil ?_)))))))
  rcases itH h with ⟨c18, h⟩ | ⟨c18, h⟩
  ·refine AW.cond_yes rfl c18 (AW.seq (AW.region ?_))
   refine s_move (d := (si r17.1)) rfl (s_assign (d := (si r17.1)) rfl (AWops.nil (AW.ret ?_)))
   cases h
  ·refine AW.cond_no rfl c18 (AW.skip (AW.seq ?_))
   refine AW.weak (st' := ⟨54, (upd 54 (upd 54 topF 0 (rf 0 0)) 1 (ds_ e_u8 a1)), [(o_journal_Journal_02 false (C.ref 1 0) (C.own 4 0 r17.2.l.length 1) r17.2), (o_vdisk_Disk_03 false (C.mp 2) np p1), (om_ e_vdisk_file p1.files), none, (some (AObj.cells false (rowC (e_sl e_u8) r17.2.l)))]⟩) (wg 4 [0, 1, 2, 3, 4] [] hx (le_upd (le_upd (le_top _) (o1 (.ref rfl))) (o1 .same)) (ac (.cells id (ac (.ref rfl) (ac .same (ac (.own rfl) (ac .sc an))))) (ac (qs rfl) (ac .map (ac (.none _) (ac (.cells id (all2_row _)) an)))))) ?_
   obtain ⟨r19, er19, h⟩ := bnd h
   obtain ⟨r20, er20, h⟩ := bnd h
   refine AW.draw (n := 54) (L := 7) [(ft 0 20 (rf 0 0) [(0, (rf 0 0))]), (ft 1 21 (rf 0 0) [(20, (rf 0 0))]), (ft 2 22 (rf 0 0) [(21, (rf 0 0))]), (3, ⟨some 23, (rf 1 0), [(22, (rf 0 0))], [(0, (o_journal_Journal_02 false (C.ref 1 0) (C.own 4 0 r17.2.l.length 1) r17.2))], [], none⟩), (ft 4 24 (ds_ e_u8 a1) [(1, (ds_ e_u8 a1))]), (5, ⟨some 25, (D.one (C.own 5 0 r19.length 1)), [(24, (ds_ e_u8 a1))], [], [(5, (ow_ e_u8 r19))], some 5⟩), (6, ⟨some 26, (si r20.1), [(23, (rf 1 0)), (25, (D.one (C.own 5 0 r19.length 1)))], [(1, (o_vdisk_Disk_03 false (C.mp 2) np p1)), (2, (om_ e_vdisk_file p1.files)), (5, (ow_ e_u8 r19))], [(1, (o_vdisk_Disk_03 false (C.mp 2) np r20.2)), (2, (om_ e_vdisk_file r20.2.files))], none⟩), (ft 7 6 (si r20.1) [(26, (si r20.1))])] [[], [0], [0, 1], [0, 1, 2], [], [4], (.range 6), (.range 7)] (nl rfl) [0, 1, 2, 3, 0, 1, 4, 5] rfl (TK := [(5, 5)]) rfl (AllK.cons' ⟨(tk_upd (tk_upd tk_top rfl) rfl), (tC rfl (tC rfl (tC rfl (tC rfl (tC (tkO_row _) AllT.nil'))))), (fC (.inr rfl) (fC (.inr rfl) (fC (.inr rfl) (fC (.inr rfl) (fC (.inr rfl) (fC (.inl rfl) (fC (.inl rfl) (fC (.inl rfl) AllF.nil'))))))))⟩ AllK.nil') (by repeat (first | refine fC ⟨?_, ?_⟩ ?_ | refine sC rfl ?_ | refine hC rfl ?_ | trivial)) ?_ ?_
   ·refine y8 ?_ ?_ ?_ ?_ ?_ ?_ ?_ ?_ yN
    ·intro K _ f w u k
     show Wp K ⟨54, (upd 54 f 0 (rf 0 0)), _⟩
     refine s_move (d := (rf 0 0)) rfl k
    ·intro K _ f w u k
     show Wp K ⟨54, (upd 54 f 20 (rf 0 0)), [_, _, _, _, _, _, _]⟩
     refine s_nilCheck (d := (rf 0 0)) rfl (.inl ⟨_, _, rfl⟩) k
    ·intro K _ f w u k
     show Wp K ⟨54, (upd 54 f 21 (rf 0 0)), [_, _, _, _, _, _, _]⟩
     refine s_fieldRef F.fo_27_0 (by decide) rfl k
    ·intro K _ f w u k
     show Wp K ⟨54, (upd 54 f 22 (rf 0 0)), [(o_journal_Journal_02 false (C.ref 1 0) (C.own 4 0 r17.2.l.length 1) r17.2), _, _, _, _, _, _]⟩
     refine s_load1 (c' := (C.ref 1 0)) F.ag_24 rfl rfl k
    ·intro K _ f w u k
     show Wp K ⟨54, (upd 54 f 1 (ds_ e_u8 a1)), _⟩
     refine s_move (d := (ds_ e_u8 a1)) rfl k
    ·intro K _ f w u k
     show Wp K ⟨54, (upd 54 f 24 (ds_ e_u8 a1)), [_, _, _, _, _, _, _]⟩
     refine cc [] [(w 0), (w 1), (w 2), (w 3), (w 4), (w 5), (w 6), (ow_ e_u8 r19)] (D.one (C.own 7 0 r19.length 1)) F.ca_26 rfl rfl (ac (.one .imm) an) an (journal_frame.meets _ a1 r19 er19) ?_
     refine AWops.weak (st' := ⟨54, (upd 54 (upd 54 f 24 (ds_ e_u8 a1)) 25 (D.one (C.own 5 0 r19.length 1))), [(w 0), (w 1), (w 2), (w 3), (w 4), (ow_ e_u8 r19), (w 6)]⟩) (wg 4 [0, 1, 2, 3, 4, 7, 6] [] hx (le_upd2 (le_ok (p := 5) (L := 7) rfl (u 5 rfl).1) (o1 (.own rfl))) (ac (oq 5 7 (u 5 rfl) 0) (ac (oq 5 7 (u 5 rfl) 1) (ac (oq 5 7 (u 5 rfl) 2) (ac (oq 5 7 (u 5 rfl) 3) (ac (oq 5 7 (u 5 rfl) 4) (ac (.cells (fun _ => rfl) (all2_row _)) (ac (oq 5 7 (u 5 rfl) 6) an)))))))) k
    ·intro K _ f w u k
     show Wp K ⟨54, (upd 54 (upd 54 f 25 (D.one (C.own 5 0 r19.length 1))) 23 (rf 1 0)), [_, (o_vdisk_Disk_03 false (C.mp 2) np p1), (om_ e_vdisk_file p1.files), _, _, (ow_ e_u8 r19), _]⟩
     refine cc [1, 5, 2] [(w 0), (o_vdisk_Disk_03 false (C.mp 2) np r20.2), (om_ e_vdisk_file r20.2.files), (w 3), (w 4), (ow_ e_u8 r19), (w 6)] (si r20.1) F.ca_25 rfl rfl (ac (.one (.ref rfl)) (ac (.one .sc) (ac (.one (.own rfl)) an))) (ac (.cells (ac (.mp rfl) (ac .sc (ac .sc (ac .sc (ac .sc an)))))) (ac (.cells (lend_row _)) (ac .map an))) (vdisk_Disk_Append.meets _ p1 (⟨#[106, 111, 117, 114, 110, 97, 108]⟩ : ByteArray) r19 r20 er20) k
    ·intro K _ f w u k
     show Wp K ⟨54, (upd 54 f 26 (si r20.1)), _⟩
     refine s_assign (d := (si r20.1)) rfl k
   ·refine AWops.weak (st' := ⟨54, (upd 54 (upd 54 (upd 54 topF 0 (rf 0 0)) 1 (ds_ e_u8 a1)) 6 (si r20.1)), [(o_journal_Journal_02 false (C.ref 1 0) (C.own 4 0 r17.2.l.length 1) r17.2), (o_vdisk_Disk_03 false (C.mp 2) np r20.2), (om_ e_vdisk_file r20.2.files), none, (some (AObj.cells false (rowC (e_sl e_u8) r17.2.l)))]⟩) (wg 4 [0, 1, 2, 3, 4] [] hx (le_upd (le_upd (le_upd (le_top _) (o1 (.ref rfl))) (o1 .same)) (o1 .sc)) (ac (.cells id (ac (.ref rfl) (ac .same (ac (.own rfl) (ac .sc an))))) (ac (qs rfl) (ac .map (ac (.none _) (ac (.cells id (all2_row _)) an)))))) (AWops.nil (AW.seq (AW.seq (AW.region ?_))))
    refine s_move (d := (si r20.1)) rfl (s_binI (v := (.bool (r20.1 == 71))) rfl rfl rfl (AWops.nil ?_))
    rcases itH h with ⟨c21, h⟩ | ⟨c21, h⟩
    ·refine AW.cond_yes rfl c21 (AW.seq (AW.region ?_))
     refine s_move (d := (si r20.1)) rfl (s_assign (d := (si r20.1)) rfl (AWops.nil (AW.ret ?_)))
     cases h
    ·refine AW.cond_no rfl c21 (AW.skip ?_)
     refine AW.seqJ (fun st => ∃ (x24 : Int) (x25 : Int) (x26 : Bool) (x27 : List (ByteArray × vdisk_file)) (x28 : Int), journal_Journal_Append_fresh_7.j1 k x24 x25 x26 x27 x28 a1 r17 = some r ∧ st = ⟨54, (upd 54 (upd 54 (upd 54 topF 0 (rf 0 0)) 1 (ds_ e_u8 a1)) 6 (si x28)), [(o_journal_Journal_02 false (C.ref 1 0) (C.own 4 0 r17.2.l.length 1) r17.2), (some (AObj.cells false [(C.mp 2), (ci x24), (ci x25), np, (cb x26)])), (om_ e_vdisk_file x27), none, (some (AObj.cells false (rowC (e_sl e_u8) r17.2.l)))]⟩) ?_ ?_
     ·refine AW.seq (AW.region ?_)
      refine s_move (d := (si r20.1)) rfl (s_binI (v := (.bool (r20.1 == 0))) rfl rfl rfl (AWops.nil ?_))
      rcases itH h with ⟨c22, h⟩ | ⟨c22, h⟩
      ·refine AW.cond_yes rfl c22 (AW.region ?_)
       refine s_move (d := (rf 0 0)) rfl (s_nilCheck (d := (rf 0 0)) rfl (.inl ⟨_, _, rfl⟩) (s_fieldRef F.fo_27_0 (by decide) rfl (s_load1 (c' := (C.ref 1 0)) F.ag_24 rfl rfl ?_)))
       obtain ⟨r23, er23, h⟩ := bnd h
       refine cc [1, 2] [(o_journal_Journal_02 false (C.ref 1 0) (C.own 4 0 r17.2.l.length 1) r17.2), (o_vdisk_Disk_03 false (C.mp 2) np r23.2), (om_ e_vdisk_file r23.2.files), none, (some (AObj.cells false (rowC (e_sl e_u8) r17.2.l)))] (si r23.1) F.ca_27 rfl rfl (ac (.one (.ref rfl)) (ac (.one .sc) an)) (ac (.cells (ac (.mp rfl) (ac .sc (ac .sc (ac .sc (ac .sc an)))))) (ac .map an)) (vdisk_Disk_Sync.meets _ r20.2 (⟨#[106, 111, 117, 114, 110, 97, 108]⟩ : ByteArray) r23 er23) (s_assign (d := (si r23.1)) rfl (AWops.nil ?_))
       exact ⟨⟨54, (upd 54 (upd 54 (upd 54 topF 0 (rf 0 0)) 1 (ds_ e_u8 a1)) 6 (si r23.1)), [(o_journal_Journal_02 false (C.ref 1 0) (C.own 4 0 r17.2.l.length 1) r17.2), (some (AObj.cells false [(C.mp 2), (ci r23.2.room), (ci r23.2.used), np, (cb r23.2.dead)])), (om_ e_vdisk_file r23.2.files), none, (some (AObj.cells false (rowC (e_sl e_u8) r17.2.l)))]⟩, (wg 4 [0, 1, 2, 3, 4] [] hx (le_upd (le_upd (le_upd (le_top _) (o1 (.ref rfl))) (o1 .same)) (o1 .sc)) (ac (.cells id (ac (.ref rfl) (ac .same (ac (.own rfl) (ac .sc an))))) (ac (qs rfl) (ac .map (ac (.none _) (ac (.cells id (all2_row _)) an)))))), r23.2.room, r23.2.used, r23.2.dead, r23.2.files, r23.1, h, rfl⟩
      ·refine AW.cond_no rfl c22 (AW.skip ?_)
       exact ⟨⟨54, (upd 54 (upd 54 (upd 54 topF 0 (rf 0 0)) 1 (ds_ e_u8 a1)) 6 (si r20.1)), [(o_journal_Journal_02 false (C.ref 1 0) (C.own 4 0 r17.2.l.length 1) r17.2), (some (AObj.cells false [(C.mp 2), (ci r20.2.room), (ci r20.2.used), np, (cb r20.2.dead)])), (om_ e_vdisk_file r20.2.files), none, (some (AObj.cells false (rowC (e_sl e_u8) r17.2.l)))]⟩, (wg 4 [0, 1, 2, 3, 4] [] hx (le_upd (le_upd (le_upd (le_top _) (o1 (.ref rfl))) (o1 .same)) (o1 .sc)) (ac (.cells id (ac (.ref rfl) (ac .same (ac (.own rfl) (ac .sc an))))) (ac (qs rfl) (ac .map (ac (.none _) (ac (.cells id (all2_row _)) an)))))), r20.2.room, r20.2.used, r20.2.dead, r20.2.files, r20.1, h, rfl⟩
     ·rintro st ⟨x24, x25, x26, x27, x28, h, rfl⟩
      cases k with
      | zero => exact absurd h (by simp [journal_Journal_Append_fresh_7.j1])
      | succ qj1 =>
       replace h := (journal_Journal_Append_fresh_7.j1.eq_2 _ _ _ _ _ _ _ _).symm.trans h
       refine AW.seq (AW.seq (AW.region ?_))
       refine s_move (d := (si x28)) rfl (s_binI (v := (.bool (x28 != 0))) rfl rfl rfl (AWops.nil ?_))
       rcases itH h with ⟨c29, h⟩ | ⟨c29, h⟩
       ·refine AW.cond_yes rfl c29 (AW.seq (AW.region ?_))
        refine s_move (d := (rf 0 0)) rfl (s_nilCheck (d := (rf 0 0)) rfl (.inl ⟨_, _, rfl⟩) (s_fieldRef F.fo_27_3 (by decide) rfl (s_store (cs' := [(C.ref 1 0), (cl_ e_u8 r17.2.snap), (C.own 4 0 r17.2.l.length 1), (cb true)]) rfl rfl rfl (List.cons_ne_nil _ _) rfl F.sz_4 (nl rfl) rfl (AWops.nil (AW.seq (AW.region (s_move (d := (si x28)) rfl (s_assign (d := (si x28)) rfl (AWops.nil (AW.ret ?_))))))))))
        cases h
       ·refine AW.cond_no rfl c29 (AW.skip (AW.seq ?_))
        refine AW.weak (st' := ⟨54, (upd 54 (upd 54 topF 0 (rf 0 0)) 1 (ds_ e_u8 a1)), [(o_journal_Journal_02 false (C.ref 1 0) (C.own 4 0 r17.2.l.length 1) r17.2), (some (AObj.cells false [(C.mp 2), (ci x24), (ci x25), np, (cb x26)])), (om_ e_vdisk_file x27), none, (some (AObj.cells false (rowC (e_sl e_u8) r17.2.l)))]⟩) (wg 4 [0, 1, 2, 3, 4] [] hx (le_upd (le_upd (le_top _) (o1 (.ref rfl))) (o1 .same)) (ac (.cells id (ac (.ref rfl) (ac .same (ac (.own rfl) (ac .sc an))))) (ac (qs rfl) (ac .map (ac (.none _) (ac (.cells id (all2_row _)) an)))))) ?_
        obtain ⟨r30, er30, h⟩ := bnd h
        obtain ⟨c31, h⟩ := gdH h
        have dc31 := of_decide_eq_true c31
        refine AW.draw (n := 54) (L := 8) [(ft 0 43 (rf 0 0) [(0, (rf 0 0))]), (ft 1 44 (rf 0 0) [(0, (rf 0 0))]), (ft 2 45 (rf 0 0) [(44, (rf 0 0))]), (ft 3 46 (rf 0 2) [(45, (rf 0 0))]), (4, ⟨some 47, (D.one (C.own 4 0 r17.2.l.length 1)), [(46, (rf 0 2))], [(0, (o_journal_Journal_02 false (C.ref 1 0) (C.own 4 0 r17.2.l.length 1) r17.2))], [], none⟩), (ft 5 48 (ds_ e_u8 a1) [(1, (ds_ e_u8 a1))]), (6, ⟨some 49, (ds_ e_u8 r30), [(48, (ds_ e_u8 a1))], [], [], some 5⟩), (7, ⟨some 50, (D.one (C.own 6 0 (([r30] : List (List Int)).length) 1)), [(49, (ds_ e_u8 r30))], [], [(6, (some (AObj.cells true (rowC (e_sl e_u8) ([r30] : List (List Int))))))], some 6⟩), (8, ⟨some 51, (D.one (C.own 7 0 ((r17.2.l ++ ([r30] : List (List Int))).length) 1)), [(47, (D.one (C.own 4 0 r17.2.l.length 1))), (50, (D.one (C.own 6 0 (([r30] : List (List Int)).length) 1)))], [(4, (some (AObj.cells false (rowC (e_sl e_u8) r17.2.l)))), (6, (some (AObj.cells true (rowC (e_sl e_u8) ([r30] : List (List Int))))))], [(4, none), (7, (some (AObj.cells false (rowC (e_sl e_u8) (r17.2.l ++ ([r30] : List (List Int)))))))], some 7⟩), (ft 9 52 (rf 0 0) [(43, (rf 0 0))]), (ft 10 53 (rf 0 2) [(52, (rf 0 0))]), (11, ⟨none, (D.one C.top), [(51, (D.one (C.own 7 0 ((r17.2.l ++ ([r30] : List (List Int))).length) 1))), (53, (rf 0 2))], [(0, (o_journal_Journal_02 false (C.ref 1 0) (C.own 4 0 r17.2.l.length 1) r17.2))], [(0, (o_journal_Journal_02 false (C.ref 1 0) (C.own 7 0 ((r17.2.l ++ ([r30] : List (List Int))).length) 1) r17.2))], none⟩)] [[], [], [1], [1, 2], [1, 2, 3], [], [5], [5, 6], [1, 2, 3, 4, 5, 6, 7], (.range 9), (.range 10), (.range 11)] (nl rfl) [0, 0, 1, 2, 3, 0, 1, 2, 4, 5, 6, 7] rfl (TK := [(6, 5), (7, 6), (8, 7)]) rfl (AllK.cons' ⟨(tk_upd (tk_upd tk_top rfl) rfl), (tC rfl (tC rfl (tC rfl (tC rfl (tC (tkO_row _) AllT.nil'))))), (fC (.inr rfl) (fC (.inr rfl) (fC (.inr rfl) (fC (.inr rfl) (fC (.inr rfl) (fC (.inr rfl) (fC (.inl rfl) (fC (.inl rfl) (fC (.inl rfl) (fC (.inl rfl) (fC (.inl rfl) (fC (.inl rfl) AllF.nil'))))))))))))⟩ (AllK.cons' ⟨(tk_upd (tk_upd tk_top rfl) rfl), (tC rfl (tC rfl (tC rfl (tC rfl (tC (tkO_row _) AllT.nil'))))), (fC (.inr rfl) (fC (.inr rfl) (fC (.inr rfl) (fC (.inr rfl) (fC (.inr rfl) (fC (.inr rfl) (fC (.inr rfl) (fC (.inl rfl) (fC (.inl rfl) (fC (.inl rfl) (fC (.inl rfl) (fC (.inl rfl) AllF.nil'))))))))))))⟩ (AllK.cons' ⟨(tk_upd (tk_upd tk_top rfl) rfl), (tC rfl (tC rfl (tC rfl (tC rfl (tC (tkO_row _) AllT.nil'))))), (by repeat (first | refine fC (.inl rfl) ?_ | refine fC (.inr rfl) ?_ | refine fC (.inr (by unfold tkFoot; simp only [List.all_cons, List.all_nil, tkO_row, Bool.and_true, Bool.true_and]; rfl)) ?_ | trivial))⟩ AllK.nil'))) (by repeat (first | refine fC ⟨?_, ?_⟩ ?_ | refine sC rfl ?_ | refine hC rfl ?_ | trivial)) ?_ ?_
        ·refine y8 ?_ ?_ ?_ ?_ ?_ ?_ ?_ ?_ (y4 ?_ ?_ ?_ ?_ yN)
         ·intro K _ f w u k
          show Wp K ⟨54, (upd 54 f 0 (rf 0 0)), _⟩
          refine s_move (d := (rf 0 0)) rfl k
         ·intro K _ f w u k
          show Wp K ⟨54, (upd 54 f 0 (rf 0 0)), _⟩
          refine s_move (d := (rf 0 0)) rfl k
         ·intro K _ f w u k
          show Wp K ⟨54, (upd 54 f 44 (rf 0 0)), [_, _, _, _, _, _, _, _]⟩
          refine s_nilCheck (d := (rf 0 0)) rfl (.inl ⟨_, _, rfl⟩) k
         ·intro K _ f w u k
          show Wp K ⟨54, (upd 54 f 45 (rf 0 0)), [_, _, _, _, _, _, _, _]⟩
          refine s_fieldRef F.fo_27_2 (by decide) rfl k
         ·intro K _ f w u k
          show Wp K ⟨54, (upd 54 f 46 (rf 0 2)), [(o_journal_Journal_02 false (C.ref 1 0) (C.own 4 0 r17.2.l.length 1) r17.2), _, _, _, _, _, _, _]⟩
          refine s_load1 (c' := (C.own 4 0 r17.2.l.length 1)) F.ag_25 rfl rfl k
         ·intro K _ f w u k
          show Wp K ⟨54, (upd 54 f 1 (ds_ e_u8 a1)), _⟩
          refine s_move (d := (ds_ e_u8 a1)) rfl k
         ·intro K _ f w u k
          show Wp K ⟨54, (upd 54 f 48 (ds_ e_u8 a1)), [_, _, _, _, _, _, _, _]⟩
          refine cc [] [(w 0), (w 1), (w 2), (w 3), (w 4), (w 5), (w 6), (w 7), (ow_ e_u8 r30)] (D.one (C.own 8 0 r30.length 1)) F.ca_28 rfl rfl (ac (.one .imm) an) an (slices_Clone_byte_byte.meets _ a1 r30 er30) ?_
          refine AWops.weak (st' := ⟨54, (upd 54 (upd 54 f 48 (ds_ e_u8 a1)) 49 (ds_ e_u8 r30)), [(w 0), (w 1), (w 2), (w 3), (w 4), (w 5), (w 6), (w 7)]⟩) (wg 4 [0, 1, 2, 3, 4, 5, 6, 7] [8] hx (le_upd2 (le_ok (p := 5) (L := 8) rfl (u 5 rfl).1) (o1 (CLe.frz e_u8_len rfl rfl rfl))) (ac (oq 5 8 (u 5 rfl) 0) (ac (oq 5 8 (u 5 rfl) 1) (ac (oq 5 8 (u 5 rfl) 2) (ac (oq 5 8 (u 5 rfl) 3) (ac (oq 5 8 (u 5 rfl) 4) (ac (oq 5 8 (u 5 rfl) 5) (ac (oq 5 8 (u 5 rfl) 6) (ac (oq 5 8 (u 5 rfl) 7) an))))))))) k
         ·intro K _ f w u k
          show Wp K ⟨54, (upd 54 f 49 (ds_ e_u8 r30)), [_, _, _, _, _, _, _, _]⟩
          refine s_buildSlice (n := 1) (ps := [(0, (ds_ e_u8 r30))]) (cs := rowC (e_sl e_u8) ([r30] : List (List Int))) F.u_25 F.sz_22 F.z_22 rfl rfl (by decide) (by decide) rfl rfl ?_
          refine AWops.weak (st' := ⟨54, (upd 54 (upd 54 f 49 (ds_ e_u8 r30)) 50 (D.one (C.own 6 0 (([r30] : List (List Int)).length) 1))), [(w 0), (w 1), (w 2), (w 3), (w 4), (w 5), (some (AObj.cells true (rowC (e_sl e_u8) ([r30] : List (List Int))))), (w 7)]⟩) (wg 4 [0, 1, 2, 3, 4, 5, 8, 7] [] hx (le_upd2 (le_ok (p := 6) (L := 8) rfl (u 6 rfl).1) (o1 (.own rfl))) (ac (oq 6 8 (u 6 rfl) 0) (ac (oq 6 8 (u 6 rfl) 1) (ac (oq 6 8 (u 6 rfl) 2) (ac (oq 6 8 (u 6 rfl) 3) (ac (oq 6 8 (u 6 rfl) 4) (ac (oq 6 8 (u 6 rfl) 5) (ac (.cells (fun _ => rfl) (all2_row _)) (ac (oq 6 8 (u 6 rfl) 7) an))))))))) k
         ·intro K _ f w u k
          show Wp K ⟨54, (upd 54 (upd 54 f 50 (D.one (C.own 6 0 (([r30] : List (List Int)).length) 1))) 47 (D.one (C.own 4 0 r17.2.l.length 1))), [_, _, _, _, (some (AObj.cells false (rowC (e_sl e_u8) r17.2.l))), _, (some (AObj.cells true (rowC (e_sl e_u8) ([r30] : List (List Int))))), _]⟩
          refine t_append (xs := r17.2.l) (ys := ([r30] : List (List Int))) (zs := r17.2.l ++ ([r30] : List (List Int))) (H' := [(w 0), (w 1), (w 2), (w 3), none, (w 5), (some (AObj.cells true (rowC (e_sl e_u8) ([r30] : List (List Int))))), (w 7), (some (AObj.cells false (rowC (e_sl e_u8) (r17.2.l ++ ([r30] : List (List Int))))))]) F.u_25 F.in_22 rfl (e_sl_len _) (.own rfl rfl) (.own rfl rfl) F.u_25 (by omega) (by omega) rfl rfl ?_
          refine AWops.weak (st' := ⟨54, (upd 54 (upd 54 (upd 54 f 50 (D.one (C.own 6 0 (([r30] : List (List Int)).length) 1))) 47 (D.one (C.own 4 0 r17.2.l.length 1))) 51 (D.one (C.own 7 0 ((r17.2.l ++ ([r30] : List (List Int))).length) 1))), [(w 0), (w 1), (w 2), (w 3), none, (w 5), (some (AObj.cells true (rowC (e_sl e_u8) ([r30] : List (List Int))))), (some (AObj.cells false (rowC (e_sl e_u8) (r17.2.l ++ ([r30] : List (List Int))))))]⟩) (wg 4 [0, 1, 2, 3, 4, 5, 6, 8] [] hx (le_upd2 (le_ok (p := 7) (L := 8) rfl (u 7 rfl).1) (o1 (.own rfl))) (ac (oq 7 8 (u 7 rfl) 0) (ac (oq 7 8 (u 7 rfl) 1) (ac (oq 7 8 (u 7 rfl) 2) (ac (oq 7 8 (u 7 rfl) 3) (ac (.none _) (ac (oq 7 8 (u 7 rfl) 5) (ac (.cells (fun _ => rfl) (all2_row _)) (ac (.cells id (all2_row _)) an))))))))) k
         ·intro K _ f w u k
          show Wp K ⟨54, (upd 54 f 43 (rf 0 0)), [_, _, _, _, _, _, _, _]⟩
          refine s_nilCheck (d := (rf 0 0)) rfl (.inl ⟨_, _, rfl⟩) k
         ·intro K _ f w u k
          show Wp K ⟨54, (upd 54 f 52 (rf 0 0)), [_, _, _, _, _, _, _, _]⟩
          refine s_fieldRef F.fo_27_2 (by decide) rfl k
         ·intro K _ f w u k
          show Wp K ⟨54, (upd 54 (upd 54 f 53 (rf 0 2)) 51 (D.one (C.own 7 0 ((r17.2.l ++ ([r30] : List (List Int))).length) 1))), [(o_journal_Journal_02 false (C.ref 1 0) (C.own 4 0 r17.2.l.length 1) r17.2), _, _, _, _, _, _, _]⟩
          refine s_store (cs' := [(C.ref 1 0), (cl_ e_u8 r17.2.snap), (C.own 7 0 ((r17.2.l ++ ([r30] : List (List Int))).length) 1), (cb r17.2.stopped)]) rfl rfl rfl (List.cons_ne_nil _ _) rfl F.sz_25 (nl rfl) rfl k
        ·refine AWops.weak (st' := ⟨54, topF, [(o_journal_Journal_02 false (C.ref 1 0) (C.own 4 0 ((r17.2.l ++ ([r30] : List (List Int))).length) 1) r17.2), (some (AObj.cells false [(C.mp 2), (ci x24), (ci x25), np, (cb x26)])), (om_ e_vdisk_file x27), none, (some (AObj.cells false (rowC (e_sl e_u8) (r17.2.l ++ ([r30] : List (List Int))))))]⟩) (wg 4 [0, 1, 2, 3, 7] [] hx (le_top _) (ac (.cells id (ac (.ref rfl) (ac .same (ac (.own rfl) (ac .sc an))))) (ac (qs rfl) (ac .map (ac (.none _) (ac (.cells id (all2_row _)) an)))))) (AWops.nil (AW.seq (AW.region ?_)))
         refine s_assign (d := (si 0)) rfl (AWops.nil (AW.ret ?_))
         obtain rfl := Option.some.inj h
         exact ⟨_, rfl, (wg 4 [0, 1, 2, 3, 4] [] rfl (le_upd (le_top _) (o1 .sc)) (ac (.cells id (ac (.ref rfl) (ac .same (ac (.own rfl) (ac .sc an))))) (ac (qs rfl) (ac .map (ac (.none _) (ac (.cells id (all2_row _)) an))))))⟩
mutual
def journal_Journal_Records_fresh.l0 : Nat → (List (List Int)) → Int → (Bool × journal_Journal) → Option ((List (List Int)) × journal_Journal)
 | 0, _, _, _ => none
 | k + 1, x3, x4, r1 => if (decide (x4 < (r1.2.l.length : Int))) = true then ((rd r1.2.l x4).bind fun v6 => (slices_Clone_byte_byte.f k v6).bind fun r8 => if (decide (x3.length + ([r8] : List (List Int)).length ≤ 5864062014805)) = true then (journal_Journal_Records_fresh.l0 k (x3 ++ ([r8] : List (List Int))) (IntKind.i64.wrap (x4 + 1)) r1) else none) else (some (x3, (⟨(), r1.2.snap, r1.2.l, r1.2.stopped⟩ : journal_Journal)))
end
def journal_Journal_Records_fresh.f (k : Nat) (p0 : journal_Journal) (p1 : vdisk_Disk) : Option ((List (List Int)) × journal_Journal) := (journal_Journal_none_fresh.f k (⟨(), p0.snap, p0.l, p0.stopped⟩ : journal_Journal) p1).bind fun r1 => if r1.1 = true then (some (([] : List (List Int)), (⟨(), r1.2.snap, r1.2.l, r1.2.stopped⟩ : journal_Journal))) else (journal_Journal_Records_fresh.l0 k ([] : List (List Int)) 0 r1)
theorem journal_Journal_Records_fresh.meets (k : Nat) (p0 : journal_Journal) (p1 : vdisk_Disk) (r : (List (List Int)) × journal_Journal) (h : journal_Journal_Records_fresh.f k p0 p1 = some r) : Meets Try.prog 10 [(rf 0 0)] [(o_journal_Journal_02 false (C.ref 1 0) (C.own 2 0 p0.l.length 1) p0), (o_vdisk_Disk_03 false (C.mp 3) np p1), (some (AObj.cells false (rowC (e_sl e_u8) p0.l))), (om_ e_vdisk_file p1.files)] (D.one (C.own 4 0 r.1.length 1)) [(o_journal_Journal_02 false (C.ref 1 0) (C.own 2 0 r.2.l.length 1) r.2), (o_vdisk_Disk_03 false (C.mp 3) np p1), (some (AObj.cells false (rowC (e_sl e_u8) r.2.l))), (om_ e_vdisk_file p1.files), (some (AObj.cells true (rowC (e_sl e_u8) r.1)))] := by
 unfold journal_Journal_Records_fresh.f at h
 refine Meets.of_body (n := 24) Try.func10 rfl rfl (nl rfl) fun x hx => ?_
 replace hx : x.k = 4 := hx
 show AW _ x _ _ ⟨24, fr0 [(rf 0 0)], [(o_journal_Journal_02 false (C.ref 1 0) (C.own 2 0 p0.l.length 1) p0), (o_vdisk_Disk_03 false (C.mp 3) np p1), (some (AObj.cells false (rowC (e_sl e_u8) p0.l))), (om_ e_vdisk_file p1.files)]⟩
 refine AW.seq (AW.region ?_)
 refine s_assign (d := (sc (.slice none 0 0))) rfl (AWops.nil (AW.seq (AW.seq (AW.region ?_))))
 refine s_move (d := (rf 0 0)) rfl ?_
 obtain ⟨r1, er1, h⟩ := bnd h
 refine cc [0, 1, 2, 3] [(o_journal_Journal_02 false (C.ref 1 0) (C.own 2 0 r1.2.l.length 1) r1.2), (o_vdisk_Disk_03 false (C.mp 3) np p1), (some (AObj.cells false (rowC (e_sl e_u8) r1.2.l))), (om_ e_vdisk_file p1.files)] (sb r1.1) F.ca_30 rfl rfl (ac (.one (.ref rfl)) an) (ac (.cells (ac (.ref rfl) (ac .imm (ac (.own rfl) (ac .sc an))))) (ac (.cells (ac (.mp rfl) (ac .sc (ac .sc (ac .sc (ac .sc an)))))) (ac (.cells (lend_row _)) (ac .map an)))) (journal_Journal_none_fresh.meets _ (⟨(), p0.snap, p0.l, p0.stopped⟩ : journal_Journal) p1 r1 er1) (AWops.nil ?_)
 rcases itH h with ⟨c2, h⟩ | ⟨c2, h⟩
 ·refine AW.cond_yes rfl c2 (AW.seq (AW.region ?_))
  refine s_assign (d := (sc (.slice none 0 0))) rfl (AWops.nil (AW.ret ?_))
  obtain rfl := Option.some.inj h
  exact ⟨_, rfl, (Weak.trans (Weak.nil (sz := 1) (i := 0) rfl) (wg 4 [0, 1, 2, 3, 4] [] rfl (le_upd (le_top _) (o1 (CLe.ownN rfl (by simp)))) (ac (.cells id (ac (.ref rfl) (ac .same (ac (.own rfl) (ac .sc an))))) (ac (qs rfl) (ac (.cells id (all2_row _)) (ac .map (ac (.cells (fun _ => rfl) an) an)))))))⟩
 ·refine AW.cond_no rfl c2 (AW.skip (AW.seq (AW.region ?_)))
  refine s_assign (d := (sc (.slice none 0 0))) rfl (AWops.nil (AW.seq (AW.seq (AW.region ?_))))
  refine s_move (d := (rf 0 0)) rfl (s_nilCheck (d := (rf 0 0)) rfl (.inl ⟨_, _, rfl⟩) (s_fieldRef F.fo_27_2 (by decide) rfl (s_load1 (c' := (C.own 2 0 r1.2.l.length 1)) F.ag_25 rfl rfl (s_len (n := r1.2.l.length) F.u_25 rfl (.inr ⟨(fun _ _ h => by cases h), ⟨_, rfl⟩⟩) (s_move (d := (si 0)) rfl (AWops.nil (AW.block ?_)))))))
  refine AW.loopw (st0 := ⟨24, (upd 24 (upd 24 (upd 24 (upd 24 topF 3 (D.one (C.own 4 0 ([] : List (List Int)).length 1))) 11 (D.one (C.own 2 0 r1.2.l.length 1))) 12 (si (r1.2.l.length : Int))) 13 (si 0)), [(o_journal_Journal_02 false (C.ref 1 0) (C.own 2 0 r1.2.l.length 1) r1.2), (o_vdisk_Disk_03 false (C.mp 3) np p1), (some (AObj.cells false (rowC (e_sl e_u8) r1.2.l))), (om_ e_vdisk_file p1.files), (some (AObj.cells true (rowC (e_sl e_u8) ([] : List (List Int)))))]⟩) (fun kv st => kv ≤ k ∧ ∃ (x3 : List (List Int)) (x4 : Int), journal_Journal_Records_fresh.l0 kv x3 x4 r1 = some r ∧ st = ⟨24, (upd 24 (upd 24 (upd 24 (upd 24 topF 3 (D.one (C.own 4 0 x3.length 1))) 11 (D.one (C.own 2 0 r1.2.l.length 1))) 12 (si (r1.2.l.length : Int))) 13 (si x4)), [(o_journal_Journal_02 false (C.ref 1 0) (C.own 2 0 r1.2.l.length 1) r1.2), (o_vdisk_Disk_03 false (C.mp 3) np p1), (some (AObj.cells false (rowC (e_sl e_u8) r1.2.l))), (om_ e_vdisk_file p1.files), (some (AObj.cells true (rowC (e_sl e_u8) x3)))]⟩) (k := k) (Weak.trans (Weak.nil (sz := 1) (i := 3) rfl) (wg 4 [0, 1, 2, 3, 4] [] hx (le_upd (le_upd (le_upd (le_upd (le_top _) (o1 (.own rfl))) (o1 (.own rfl))) (o1 .sc)) (o1 .sc)) (ac (.cells id (ac (.ref rfl) (ac .same (ac (.own rfl) (ac .sc an))))) (ac (qs rfl) (ac (.cells id (all2_row _)) (ac .map (ac (.cells (fun _ => rfl) an) an))))))) ⟨Nat.le_refl _, ([] : List (List Int)), 0, h, rfl⟩ ?_
  rintro ql0 st ⟨hkl0, x3, x4, h, rfl⟩
  cases ql0 with
  | zero => exact absurd h (by simp [journal_Journal_Records_fresh.l0])
  | succ ql0 =>
   replace h := (journal_Journal_Records_fresh.l0.eq_2 _ _ _ _).symm.trans h
   refine AW.seq (AW.region ?_)
   refine s_binI (v := (.bool (decide (x4 < (r1.2.l.length : Int))))) rfl rfl rfl (AWops.nil (AW.seq ?_))
   rcases itH h with ⟨c5, h⟩ | ⟨c5, h⟩
   ·refine AW.cond_yes rfl c5 (AW.skip (AW.seq (AW.block (AW.seq (AW.region ?_)))))
    obtain ⟨v6, ev6, h⟩ := bnd h
    obtain ⟨pv6, qv6, gv6⟩ := rd_some ev6
    refine s_indexOwn (d := (D.one (C.ref 2 (0 + x4.toNat * 1)))) F.u_25 F.sz_22 rfl rfl pv6 qv6 rfl ?_
    obtain ⟨R7, hR7⟩ := row_at (f := (e_sl e_u8)) (sz := 1) (o := 0) (e_sl_len _) gv6 (e_sl_eq _ v6) (by decide)
    refine s_load1 (c' := (cl_ e_u8 v6)) F.ag_22 (congrArg some hR7) rfl (s_assign (d := (ds_ e_u8 v6)) rfl (AWops.nil (AW.region (s_move (d := (D.one (C.own 4 0 x3.length 1))) rfl (s_move (d := (ds_ e_u8 v6)) rfl ?_)))))
    obtain ⟨r8, er8, h⟩ := bnd h
    refine cc [] [(o_journal_Journal_02 false (C.ref 1 0) (C.own 2 0 r1.2.l.length 1) r1.2), (o_vdisk_Disk_03 false (C.mp 3) np p1), (some (AObj.cells false (rowC (e_sl e_u8) r1.2.l))), (om_ e_vdisk_file p1.files), (some (AObj.cells true (rowC (e_sl e_u8) x3))), (ow_ e_u8 r8)] (D.one (C.own 5 0 r8.length 1)) F.ca_28 rfl rfl (ac (.one .imm) an) an (slices_Clone_byte_byte.meets _ v6 r8 er8) ?_
    refine AWops.weak (st' := ⟨24, (upd 24 (upd 24 (upd 24 (upd 24 (upd 24 (upd 24 (upd 24 (upd 24 (upd 24 (upd 24 (upd 24 topF 3 (D.one (C.own 4 0 x3.length 1))) 5 (ds_ e_u8 v6)) 11 (D.one (C.own 2 0 r1.2.l.length 1))) 12 (si (r1.2.l.length : Int))) 13 (si x4)) 14 (sb (decide (x4 < (r1.2.l.length : Int))))) 15 (D.one (C.ref 2 (0 + x4.toNat * 1)))) 16 (ds_ e_u8 v6)) 17 (D.one (C.own 4 0 x3.length 1))) 18 (ds_ e_u8 v6)) 19 (ds_ e_u8 r8)), [(o_journal_Journal_02 false (C.ref 1 0) (C.own 2 0 r1.2.l.length 1) r1.2), (o_vdisk_Disk_03 false (C.mp 3) np p1), (some (AObj.cells false (rowC (e_sl e_u8) r1.2.l))), (om_ e_vdisk_file p1.files), (some (AObj.cells true (rowC (e_sl e_u8) x3)))]⟩) (wg 4 [0, 1, 2, 3, 4] [5] hx (le_upd (le_upd (le_upd (le_upd (le_upd (le_upd (le_upd (le_upd (le_upd (le_upd (le_upd (le_top _) (o1 (.own rfl))) (o1 .same)) (o1 (.own rfl))) (o1 .sc)) (o1 .sc)) (o1 .sc)) (o1 (.ref rfl))) (o1 .same)) (o1 (.own rfl))) (o1 .same)) (o1 (CLe.frz e_u8_len rfl rfl rfl))) (ac (.cells id (ac (.ref rfl) (ac .same (ac (.own rfl) (ac .sc an))))) (ac (qs rfl) (ac (.cells id (all2_row _)) (ac .map (ac (.cells (fun _ => rfl) (all2_row _)) an)))))) ?_
    refine s_buildSlice (n := 1) (ps := [(0, (ds_ e_u8 r8))]) (cs := rowC (e_sl e_u8) ([r8] : List (List Int))) F.u_25 F.sz_22 F.z_22 rfl rfl (by decide) (by decide) rfl rfl ?_
    obtain ⟨c9, h⟩ := gdH h
    have dc9 := of_decide_eq_true c9
    refine t_append (xs := x3) (ys := ([r8] : List (List Int))) (zs := x3 ++ ([r8] : List (List Int))) (H' := [(o_journal_Journal_02 false (C.ref 1 0) (C.own 2 0 r1.2.l.length 1) r1.2), (o_vdisk_Disk_03 false (C.mp 3) np p1), (some (AObj.cells false (rowC (e_sl e_u8) r1.2.l))), (om_ e_vdisk_file p1.files), none, (some (AObj.cells true (rowC (e_sl e_u8) ([r8] : List (List Int))))), (some (AObj.cells true (rowC (e_sl e_u8) (x3 ++ ([r8] : List (List Int))))))]) F.u_25 F.in_22 rfl (e_sl_len _) (.own rfl rfl) (.own rfl rfl) F.u_25 (by omega) (by omega) rfl rfl (s_assign (d := (D.one (C.own 6 0 ((x3 ++ ([r8] : List (List Int))).length) 1))) rfl (AWops.nil (AW.region (s_binI (v := (.int .i64 (IntKind.i64.wrap (x4 + 1)))) rfl rfl rfl (s_move (d := (si (IntKind.i64.wrap (x4 + 1)))) rfl (AWops.nil ?_))))))
    exact ⟨_, ⟨24, (upd 24 (upd 24 (upd 24 (upd 24 topF 3 (D.one (C.own 4 0 (x3 ++ ([r8] : List (List Int))).length 1))) 11 (D.one (C.own 2 0 r1.2.l.length 1))) 12 (si (r1.2.l.length : Int))) 13 (si (IntKind.i64.wrap (x4 + 1)))), [(o_journal_Journal_02 false (C.ref 1 0) (C.own 2 0 r1.2.l.length 1) r1.2), (o_vdisk_Disk_03 false (C.mp 3) np p1), (some (AObj.cells false (rowC (e_sl e_u8) r1.2.l))), (om_ e_vdisk_file p1.files), (some (AObj.cells true (rowC (e_sl e_u8) (x3 ++ ([r8] : List (List Int))))))]⟩, by omega, (wg 4 [0, 1, 2, 3, 6] [] hx (le_upd (le_upd (le_upd (le_upd (le_top _) (o1 (.own rfl))) (o1 (.own rfl))) (o1 .sc)) (o1 .sc)) (ac (.cells id (ac (.ref rfl) (ac .same (ac (.own rfl) (ac .sc an))))) (ac (qs rfl) (ac (.cells id (all2_row _)) (ac .map (ac (.cells (fun _ => rfl) (all2_row _)) an)))))), by omega, x3 ++ ([r8] : List (List Int)), IntKind.i64.wrap (x4 + 1), h, rfl⟩
   ·refine AW.cond_no rfl c5 (AW.exit (AW.seq (AW.region ?_)))
    refine s_move (d := (D.one (C.own 4 0 x3.length 1))) rfl (s_assign (d := (D.one (C.own 4 0 x3.length 1))) rfl (AWops.nil (AW.ret ?_)))
    obtain rfl := Option.some.inj h
    exact ⟨_, rfl, (wg 4 [0, 1, 2, 3, 4] [] rfl (le_upd (le_top _) (o1 (.own rfl))) (ac (.cells id (ac (.ref rfl) (ac .same (ac (.own rfl) (ac .sc an))))) (ac (qs rfl) (ac (.cells id (all2_row _)) (ac .map (ac (.cells (fun _ => rfl) (all2_row _)) an))))))⟩
def journal_Journal_Snapshot_fresh.f (k : Nat) (p0 : journal_Journal) (p1 : vdisk_Disk) : Option ((List Int) × journal_Journal) := (journal_Journal_none_fresh.f k (⟨(), p0.snap, p0.l, p0.stopped⟩ : journal_Journal) p1).bind fun r1 => if r1.1 = true then (some (([] : List Int), (⟨(), r1.2.snap, r1.2.l, r1.2.stopped⟩ : journal_Journal))) else ((slices_Clone_byte_byte.f k r1.2.snap).bind fun r3 => some (r3, (⟨(), r1.2.snap, r1.2.l, r1.2.stopped⟩ : journal_Journal)))
theorem journal_Journal_Snapshot_fresh.meets (k : Nat) (p0 : journal_Journal) (p1 : vdisk_Disk) (r : (List Int) × journal_Journal) (h : journal_Journal_Snapshot_fresh.f k p0 p1 = some r) : Meets Try.prog 9 [(rf 0 0)] [(o_journal_Journal_02 false (C.ref 1 0) (C.own 2 0 p0.l.length 1) p0), (o_vdisk_Disk_03 false (C.mp 3) np p1), (some (AObj.cells false (rowC (e_sl e_u8) p0.l))), (om_ e_vdisk_file p1.files)] (D.one (C.own 4 0 r.1.length 1)) [(o_journal_Journal_02 false (C.ref 1 0) (C.own 2 0 r.2.l.length 1) r.2), (o_vdisk_Disk_03 false (C.mp 3) np p1), (some (AObj.cells false (rowC (e_sl e_u8) r.2.l))), (om_ e_vdisk_file p1.files), (ow_ e_u8 r.1)] := by
 unfold journal_Journal_Snapshot_fresh.f at h
 refine Meets.of_body (n := 10) Try.func9 rfl rfl (nl rfl) fun x hx => ?_
 replace hx : x.k = 4 := hx
 show AW _ x _ _ ⟨10, fr0 [(rf 0 0)], [(o_journal_Journal_02 false (C.ref 1 0) (C.own 2 0 p0.l.length 1) p0), (o_vdisk_Disk_03 false (C.mp 3) np p1), (some (AObj.cells false (rowC (e_sl e_u8) p0.l))), (om_ e_vdisk_file p1.files)]⟩
 refine AW.seq (AW.region ?_)
 refine s_assign (d := (sc (.slice none 0 0))) rfl (AWops.nil (AW.seq (AW.seq (AW.region ?_))))
 refine s_move (d := (rf 0 0)) rfl ?_
 obtain ⟨r1, er1, h⟩ := bnd h
 refine cc [0, 1, 2, 3] [(o_journal_Journal_02 false (C.ref 1 0) (C.own 2 0 r1.2.l.length 1) r1.2), (o_vdisk_Disk_03 false (C.mp 3) np p1), (some (AObj.cells false (rowC (e_sl e_u8) r1.2.l))), (om_ e_vdisk_file p1.files)] (sb r1.1) F.ca_30 rfl rfl (ac (.one (.ref rfl)) an) (ac (.cells (ac (.ref rfl) (ac .imm (ac (.own rfl) (ac .sc an))))) (ac (.cells (ac (.mp rfl) (ac .sc (ac .sc (ac .sc (ac .sc an)))))) (ac (.cells (lend_row _)) (ac .map an)))) (journal_Journal_none_fresh.meets _ (⟨(), p0.snap, p0.l, p0.stopped⟩ : journal_Journal) p1 r1 er1) (AWops.nil ?_)
 rcases itH h with ⟨c2, h⟩ | ⟨c2, h⟩
 ·refine AW.cond_yes rfl c2 (AW.seq (AW.region ?_))
  refine s_assign (d := (sc (.slice none 0 0))) rfl (AWops.nil (AW.ret ?_))
  obtain rfl := Option.some.inj h
  exact ⟨_, rfl, (Weak.trans (Weak.nil (sz := 1) (i := 0) rfl) (wg 4 [0, 1, 2, 3, 4] [] rfl (le_upd (le_top _) (o1 (CLe.ownN rfl (by simp)))) (ac (.cells id (ac (.ref rfl) (ac .same (ac (.own rfl) (ac .sc an))))) (ac (qs rfl) (ac (.cells id (all2_row _)) (ac .map (ac (.cells (fun _ => rfl) an) an)))))))⟩
 ·refine AW.cond_no rfl c2 (AW.skip (AW.seq (AW.region ?_)))
  refine s_move (d := (rf 0 0)) rfl (s_nilCheck (d := (rf 0 0)) rfl (.inl ⟨_, _, rfl⟩) (s_fieldRef F.fo_27_1 (by decide) rfl (s_load1 (c' := (cl_ e_u8 r1.2.snap)) F.ag_22 rfl rfl ?_)))
  obtain ⟨r3, er3, h⟩ := bnd h
  refine cc [] [(o_journal_Journal_02 false (C.ref 1 0) (C.own 2 0 r1.2.l.length 1) r1.2), (o_vdisk_Disk_03 false (C.mp 3) np p1), (some (AObj.cells false (rowC (e_sl e_u8) r1.2.l))), (om_ e_vdisk_file p1.files), (ow_ e_u8 r3)] (D.one (C.own 4 0 r3.length 1)) F.ca_28 rfl rfl (ac (.one .imm) an) an (slices_Clone_byte_byte.meets _ r1.2.snap r3 er3) (s_assign (d := (D.one (C.own 4 0 r3.length 1))) rfl (AWops.nil (AW.ret ?_)))
  obtain rfl := Option.some.inj h
  exact ⟨_, rfl, (wg 4 [0, 1, 2, 3, 4] [] rfl (le_upd (le_top _) (o1 (.own rfl))) (ac (.cells id (ac (.ref rfl) (ac .same (ac (.own rfl) (ac .sc an))))) (ac (qs rfl) (ac (.cells id (all2_row _)) (ac .map (ac (.cells (fun _ => rfl) (all2_row _)) an))))))⟩
def dossierlaw04_awake.f (k : Nat) : Option Bool := (vdisk_New.f k 100).bind fun r1 => if (r1.2 != 0) = true then (some false) else ((journal_Open_fresh.f k r1.1 ([115] : List Int)).bind fun r3 => if (r3.2.1 == 0) = true then ((journal_Journal_Append_fresh_7.f k (⟨(), r3.1.snap, r3.1.l, r3.1.stopped⟩ : journal_Journal) ([97] : List Int) r3.2.2).bind fun r5 => if (r5.1 == 0) = true then ((journal_Journal_Records_fresh.f k (⟨(), r5.2.1.snap, r5.2.1.l, r5.2.1.stopped⟩ : journal_Journal) r5.2.2).bind fun r7 => if ((r7.1.length : Int) == 1) = true then ((journal_Journal_Snapshot_fresh.f k (⟨(), r7.2.snap, r7.2.l, r7.2.stopped⟩ : journal_Journal) r5.2.2).bind fun r9 => some ((ofNums r9.1).toList == (⟨#[115]⟩ : ByteArray).toList)) else (some false)) else (some false)) else (some false))
theorem dossierlaw04_awake.meets (k : Nat) (r : Bool) (h : dossierlaw04_awake.f k = some r) : Meets Try.prog 13 [] [] (sb r) [] := by
 unfold dossierlaw04_awake.f at h
 refine Meets.of_body (n := 42) Try.func13 rfl rfl (nl rfl) fun x hx => ?_
 replace hx : x.k = 0 := hx
 show AW _ x _ _ ⟨42, fr0 [], []⟩
 refine AW.seq (AW.region ?_)
 refine s_assign (d := (sb false)) rfl (AWops.nil (AW.seq (AW.region ?_)))
 obtain ⟨r1, er1, h⟩ := bnd h
 refine cc [] [(o_vdisk_Disk_03 true (C.mp 1) np r1.1), (om_ e_vdisk_file r1.1.files)] (D.tup [(rf 0 0), (si r1.2)]) F.ca_14 rfl rfl (ac (.one .sc) an) an (vdisk_New.meets _ 100 r1 er1) (s_move (d := (D.tup [(rf 0 0), (si r1.2)])) rfl (s_extract (d := (rf 0 0)) rfl rfl (s_extract (d := (si r1.2)) rfl rfl (s_assign (d := (rf 0 0)) rfl (s_assign (d := (si r1.2)) rfl (AWops.nil (AW.seq (AW.seq (AW.region ?_)))))))))
 refine s_move (d := (si r1.2)) rfl (s_binI (v := (.bool (r1.2 != 0))) rfl rfl rfl (s_move (d := (sb (r1.2 != 0))) rfl ?_))
 rcases itH h with ⟨c2, h⟩ | ⟨c2, h⟩
 ·refine AWops.guard_no rfl (nl rfl) rfl c2 ?_
  refine AWops.guard_no rfl (nl rfl) rfl c2 ?_
  refine s_pick_yes (d := (sb true)) rfl c2 rfl (AWops.nil ?_)
  refine AW.cond_yes rfl rfl (AW.seq (AW.region ?_))
  refine s_assign (d := (sb false)) rfl (AWops.nil (AW.ret ?_))
  obtain rfl := Option.some.inj h
  exact ⟨_, rfl, (wg 0 [] [] rfl (le_upd (le_top _) (o1 .sc)) an)⟩
 ·refine AWops.guard_yes rfl (nl rfl) rfl c2 ?_
  refine s_move (d := (rf 0 0)) rfl ?_
  refine AWops.guard_yes rfl (nl rfl) rfl c2 ?_
  refine s_ptrNil (b := false) F.u_24 rfl (.inl ⟨⟨_, _, rfl⟩, rfl⟩) (.inl rfl) (s_pick_no (d := (sb false)) rfl c2 rfl (AWops.nil ?_))
  refine AW.cond_no rfl rfl (AW.skip (AW.seq (AW.region ?_)))
  refine s_move (d := (rf 0 0)) rfl (s_buildSlice (n := 1) (ps := [(0, (sc (.int .u8 115)))]) (cs := rowC e_u8 ([115] : List Int)) F.u_22 F.sz_5 F.z_5 rfl rfl (by decide) (by decide) rfl rfl (t_convConst (xs := ([115] : List Int)) F.u_22 F.u_5 rfl rfl rfl (by decide) rfl ?_))
  obtain ⟨r3, er3, h⟩ := bnd h
  refine cc [0, 1] [(o_vdisk_Disk_03 true (C.mp 1) np r3.2.2), (om_ e_vdisk_file r3.2.2.files), none, (o_journal_Journal_02 true (C.ref 0 0) (C.own 4 0 r3.1.l.length 1) r3.1), (some (AObj.cells false (rowC (e_sl e_u8) r3.1.l)))] (D.tup [(rf 3 0), (si r3.2.1)]) F.ca_12 rfl rfl (ac (.one (.ref rfl)) (ac (.one .imm) an)) (ac (.cells (ac (.mp rfl) (ac .sc (ac .sc (ac .sc (ac .sc an)))))) (ac .map an)) (journal_Open_fresh.meets _ r1.1 ([115] : List Int) r3 er3) (s_move (d := (D.tup [(rf 3 0), (si r3.2.1)])) rfl (s_extract (d := (rf 3 0)) rfl rfl (s_extract (d := (si r3.2.1)) rfl rfl (s_assign (d := (rf 3 0)) rfl (s_assign (d := (si r3.2.1)) rfl (AWops.nil (AW.seq (AW.region ?_))))))))
  refine s_move (d := (si r3.2.1)) rfl (s_binI (v := (.bool (r3.2.1 == 0))) rfl rfl rfl (s_move (d := (sb (r3.2.1 == 0))) rfl ?_))
  rcases itH h with ⟨c4, h⟩ | ⟨c4, h⟩
  ·refine AWops.guard_yes rfl (nl rfl) rfl c4 ?_
   refine s_move (d := (rf 3 0)) rfl ?_
   refine AWops.guard_yes rfl (nl rfl) rfl c4 ?_
   refine s_buildSlice (n := 1) (ps := [(0, (sc (.int .u8 97)))]) (cs := rowC e_u8 ([97] : List Int)) F.u_22 F.sz_5 F.z_5 rfl rfl (by decide) (by decide) rfl rfl ?_
   refine AWops.guard_yes rfl (nl rfl) rfl c4 ?_
   refine t_convConst (xs := ([97] : List Int)) F.u_22 F.u_5 rfl rfl rfl (by decide) rfl ?_
   refine AWops.guard_yes rfl (nl rfl) rfl c4 ?_
   obtain ⟨r5, er5, h⟩ := bnd h
   refine cc [3, 0, 1, 4] [(o_vdisk_Disk_03 true (C.mp 1) np r5.2.2), (om_ e_vdisk_file r5.2.2.files), none, (o_journal_Journal_02 true (C.ref 0 0) (C.own 6 0 r5.2.1.l.length 1) r5.2.1), none, none, (some (AObj.cells false (rowC (e_sl e_u8) r5.2.1.l)))] (si r5.1) F.ca_7 rfl rfl (ac (.one (.ref rfl)) (ac (.one .imm) an)) (ac (.cells (ac (.ref rfl) (ac .imm (ac (.own rfl) (ac .sc an))))) (ac (.cells (ac (.mp rfl) (ac .sc (ac .sc (ac .sc (ac .sc an)))))) (ac .map (ac (.cells (lend_row _)) an)))) (journal_Journal_Append_fresh_7.meets _ (⟨(), r3.1.snap, r3.1.l, r3.1.stopped⟩ : journal_Journal) ([97] : List Int) r3.2.2 r5 er5) ?_
   refine AWops.guard_yes rfl (nl rfl) rfl c4 ?_
   refine s_binI (v := (.bool (r5.1 == 0))) rfl rfl rfl (s_pick_yes (d := (sb (r5.1 == 0))) rfl c4 rfl (s_move (d := (sb (r5.1 == 0))) rfl ?_))
   rcases itH h with ⟨c6, h⟩ | ⟨c6, h⟩
   ·refine AWops.guard_yes rfl (nl rfl) rfl c6 ?_
    refine s_move (d := (rf 3 0)) rfl ?_
    refine AWops.guard_yes rfl (nl rfl) rfl c6 ?_
    obtain ⟨r7, er7, h⟩ := bnd h
    refine cc [3, 0, 6, 1] [(o_vdisk_Disk_03 true (C.mp 1) np r5.2.2), (om_ e_vdisk_file r5.2.2.files), none, (o_journal_Journal_02 true (C.ref 0 0) (C.own 6 0 r7.2.l.length 1) r7.2), none, none, (some (AObj.cells false (rowC (e_sl e_u8) r7.2.l))), (some (AObj.cells true (rowC (e_sl e_u8) r7.1)))] (D.one (C.own 7 0 r7.1.length 1)) F.ca_10 rfl rfl (ac (.one (.ref rfl)) an) (ac (.cells (ac (.ref rfl) (ac .imm (ac (.own rfl) (ac .sc an))))) (ac (.cells (ac (.mp rfl) (ac .sc (ac .sc (ac .sc (ac .sc an)))))) (ac (.cells (lend_row _)) (ac .map an)))) (journal_Journal_Records_fresh.meets _ (⟨(), r5.2.1.snap, r5.2.1.l, r5.2.1.stopped⟩ : journal_Journal) r5.2.2 r7 er7) ?_
    refine AWops.guard_yes rfl (nl rfl) rfl c6 ?_
    refine s_len (n := r7.1.length) F.u_25 rfl (.inr ⟨(fun _ _ h => by cases h), ⟨_, rfl⟩⟩) ?_
    refine AWops.guard_yes rfl (nl rfl) rfl c6 ?_
    refine s_binI (v := (.bool ((r7.1.length : Int) == 1))) rfl rfl rfl (s_pick_yes (d := (sb ((r7.1.length : Int) == 1))) rfl c6 rfl (s_move (d := (sb ((r7.1.length : Int) == 1))) rfl ?_))
    rcases itH h with ⟨c8, h⟩ | ⟨c8, h⟩
    ·refine AWops.guard_yes rfl (nl rfl) rfl c8 ?_
     refine s_move (d := (rf 3 0)) rfl ?_
     refine AWops.guard_yes rfl (nl rfl) rfl c8 ?_
     obtain ⟨r9, er9, h⟩ := bnd h
     refine cc [3, 0, 6, 1] [(o_vdisk_Disk_03 true (C.mp 1) np r5.2.2), (om_ e_vdisk_file r5.2.2.files), none, (o_journal_Journal_02 true (C.ref 0 0) (C.own 6 0 r9.2.l.length 1) r9.2), none, none, (some (AObj.cells false (rowC (e_sl e_u8) r9.2.l))), (some (AObj.cells true (rowC (e_sl e_u8) r7.1))), (ow_ e_u8 r9.1)] (D.one (C.own 8 0 r9.1.length 1)) F.ca_9 rfl rfl (ac (.one (.ref rfl)) an) (ac (.cells (ac (.ref rfl) (ac .imm (ac (.own rfl) (ac .sc an))))) (ac (.cells (ac (.mp rfl) (ac .sc (ac .sc (ac .sc (ac .sc an)))))) (ac (.cells (lend_row _)) (ac .map an)))) (journal_Journal_Snapshot_fresh.meets _ (⟨(), r7.2.snap, r7.2.l, r7.2.stopped⟩ : journal_Journal) r5.2.2 r9 er9) ?_
     refine AWops.guard_yes rfl (nl rfl) rfl c8 ?_
     refine t_toStr (xs := r9.1) F.u_22 F.u_5 F.u_9 (.own rfl rfl) ?_
     refine AWops.guard_yes rfl (nl rfl) rfl c8 ?_
     refine s_binS (v := (.bool ((ofNums r9.1).toList == (⟨#[115]⟩ : ByteArray).toList))) rfl rfl rfl (s_pick_yes (d := (sb ((ofNums r9.1).toList == (⟨#[115]⟩ : ByteArray).toList))) rfl c8 rfl (s_assign (d := (sb ((ofNums r9.1).toList == (⟨#[115]⟩ : ByteArray).toList))) rfl (AWops.nil (AW.ret ?_))))
     obtain rfl := Option.some.inj h
     exact ⟨_, rfl, (wg 0 [] [] rfl (le_upd (le_top _) (o1 .sc)) an)⟩
    ·iterate 4 refine AWops.guard_no rfl (nl rfl) rfl c8 ?_
     refine s_pick_no (d := (sb false)) rfl c8 rfl (s_assign (d := (sb false)) rfl (AWops.nil (AW.ret ?_)))
     obtain rfl := Option.some.inj h
     exact ⟨_, rfl, (wg 0 [] [] rfl (le_upd (le_top _) (o1 .sc)) an)⟩
   ·iterate 4 refine AWops.guard_no rfl (nl rfl) rfl c6 ?_
    refine s_pick_no (d := (sb false)) rfl c6 rfl (s_move (d := (sb false)) rfl ?_)
    iterate 4 refine AWops.guard_no rfl (nl rfl) rfl rfl ?_
    refine s_pick_no (d := (sb false)) rfl rfl rfl (s_assign (d := (sb false)) rfl (AWops.nil (AW.ret ?_)))
    obtain rfl := Option.some.inj h
    exact ⟨_, rfl, (wg 0 [] [] rfl (le_upd (le_top _) (o1 .sc)) an)⟩
  ·iterate 5 refine AWops.guard_no rfl (nl rfl) rfl c4 ?_
   refine s_pick_no (d := (sb false)) rfl c4 rfl (s_move (d := (sb false)) rfl ?_)
   iterate 4 refine AWops.guard_no rfl (nl rfl) rfl rfl ?_
   refine s_pick_no (d := (sb false)) rfl rfl rfl (s_move (d := (sb false)) rfl ?_)
   iterate 4 refine AWops.guard_no rfl (nl rfl) rfl rfl ?_
   refine s_pick_no (d := (sb false)) rfl rfl rfl (s_assign (d := (sb false)) rfl (AWops.nil (AW.ret ?_)))
   obtain rfl := Option.some.inj h
   exact ⟨_, rfl, (wg 0 [] [] rfl (le_upd (le_top _) (o1 .sc)) an)⟩
def dossierlaw04_pair_same_22.f (k : Nat) (p0 : dossierlaw04_pair) (p1 : dossierref04_Journal) (p2 : vdisk_Disk) (p3 : dossierref03_Disk) : Option (Bool × dossierlaw04_pair × dossierref04_Journal) := (dossierplain_Same.f k p2 p3).bind fun r1 => if r1 = true then (some (false, (⟨(), (), (), ()⟩ : dossierlaw04_pair), (⟨(), p1.Snap, p1.L, p1.Stop⟩ : dossierref04_Journal))) else (some (false, (⟨(), (), (), ()⟩ : dossierlaw04_pair), (⟨(), p1.Snap, p1.L, p1.Stop⟩ : dossierref04_Journal)))
theorem dossierlaw04_pair_same_22.meets (k : Nat) (p0 : dossierlaw04_pair) (p1 : dossierref04_Journal) (p2 : vdisk_Disk) (p3 : dossierref03_Disk) (r : Bool × dossierlaw04_pair × dossierref04_Journal) (h : dossierlaw04_pair_same_22.f k p0 p1 p2 p3 = some r) : Meets Try.prog 22 [(rf 0 0)] [(some (AObj.cells false [np, (C.ref 1 0), (C.ref 2 0), (C.ref 3 0)])), (o_dossierref04_Journal_0 false (C.ref 3 0) p1), (o_vdisk_Disk_03 false (C.mp 4) np p2), (o_dossierref03_Disk_0 false (C.own 5 0 p3.L.length 3) p3), (om_ e_vdisk_file p2.files), (or_ e_dossierref03_File p3.L)] (sb r.1) [(some (AObj.cells false [np, (C.ref 1 0), (C.ref 2 0), (C.ref 3 0)])), (o_dossierref04_Journal_0 false (C.ref 3 0) r.2.2), (o_vdisk_Disk_03 false (C.mp 4) np p2), (o_dossierref03_Disk_0 false (C.own 5 0 p3.L.length 3) p3), (om_ e_vdisk_file p2.files), (or_ e_dossierref03_File p3.L)] := by
 unfold dossierlaw04_pair_same_22.f at h
 refine Meets.of_body (n := 76) Try.func22 rfl rfl (nl rfl) fun x hx => ?_
 replace hx : x.k = 6 := hx
 show AW _ x _ _ ⟨76, fr0 [(rf 0 0)], [(some (AObj.cells false [np, (C.ref 1 0), (C.ref 2 0), (C.ref 3 0)])), (o_dossierref04_Journal_0 false (C.ref 3 0) p1), (o_vdisk_Disk_03 false (C.mp 4) np p2), (o_dossierref03_Disk_0 false (C.own 5 0 p3.L.length 3) p3), (om_ e_vdisk_file p2.files), (or_ e_dossierref03_File p3.L)]⟩
 refine AW.seq (AW.region ?_)
 refine s_assign (d := (sb false)) rfl (AWops.nil (AW.seq (AW.seq ?_)))
 refine AW.weak (st' := ⟨76, (upd 76 topF 0 (rf 0 0)), [(some (AObj.cells false [np, (C.ref 1 0), (C.ref 2 0), (C.ref 3 0)])), (o_dossierref04_Journal_0 false (C.ref 3 0) p1), (o_vdisk_Disk_03 false (C.mp 4) np p2), (o_dossierref03_Disk_0 false (C.own 5 0 p3.L.length 3) p3), (om_ e_vdisk_file p2.files), (or_ e_dossierref03_File p3.L)]⟩) (wg 6 [0, 1, 2, 3, 4, 5] [] hx (le_upd (le_top _) (o1 (.ref rfl))) (ac (.cells id (ac .sc (ac (.ref rfl) (ac (.ref rfl) (ac (.ref rfl) an))))) (ac (.cells id (ac (.ref rfl) (ac .same (ac .same (ac .sc an))))) (ac (qs rfl) (ac (qo rfl) (ac .map (ac (.cells id (all2_row _)) an))))))) ?_
 obtain ⟨r1, er1, h⟩ := bnd h
 rcases itH h with ⟨c2, h⟩ | ⟨c2, h⟩
 ·refine AW.draw (n := 76) (L := 7) [(ft 0 3 (rf 0 0) [(0, (rf 0 0))]), (ft 1 4 (rf 0 0) [(3, (rf 0 0))]), (ft 2 5 (rf 0 2) [(4, (rf 0 0))]), (3, ⟨some 6, (rf 2 0), [(5, (rf 0 2))], [(0, (some (AObj.cells false [np, (C.ref 1 0), (C.ref 2 0), (C.ref 3 0)])))], [], none⟩), (ft 4 7 (rf 0 0) [(0, (rf 0 0))]), (ft 5 8 (rf 0 0) [(7, (rf 0 0))]), (ft 6 9 (rf 0 3) [(8, (rf 0 0))]), (7, ⟨some 10, (rf 3 0), [(9, (rf 0 3))], [(0, (some (AObj.cells false [np, (C.ref 1 0), (C.ref 2 0), (C.ref 3 0)])))], [], none⟩), (8, ⟨some 11, (sb r1), [(6, (rf 2 0)), (10, (rf 3 0))], [(2, (o_vdisk_Disk_03 false (C.mp 4) np p2)), (3, (o_dossierref03_Disk_0 false (C.own 5 0 p3.L.length 3) p3)), (4, (om_ e_vdisk_file p2.files)), (5, (or_ e_dossierref03_File p3.L))], [], none⟩), (ft 9 12 (sb (!r1)) [(11, (sb r1))]), (ft 10 13 (sb (!r1)) [(12, (sb (!r1)))]), (ft 11 14 (rf 0 0) [(0, (rf 0 0)), (13, (sb (!r1)))]), (ft 12 15 (rf 0 0) [(13, (sb (!r1))), (14, (rf 0 0))]), (ft 13 16 (rf 0 0) [(13, (sb (!r1))), (15, (rf 0 0))]), (14, ⟨some 17, (sc (.pointer none)), [(13, (sb (!r1))), (16, (rf 0 0))], [(0, (some (AObj.cells false [np, (C.ref 1 0), (C.ref 2 0), (C.ref 3 0)])))], [], none⟩), (ft 15 18 (sb true) [(13, (sb (!r1))), (17, (sc (.pointer none)))]), (ft 16 19 (rf 0 0) [(0, (rf 0 0)), (13, (sb (!r1)))]), (ft 17 20 (rf 0 0) [(13, (sb (!r1))), (19, (rf 0 0))]), (ft 18 21 (rf 0 1) [(13, (sb (!r1))), (20, (rf 0 0))]), (19, ⟨some 22, (rf 1 0), [(13, (sb (!r1))), (21, (rf 0 1))], [(0, (some (AObj.cells false [np, (C.ref 1 0), (C.ref 2 0), (C.ref 3 0)])))], [], none⟩), (ft 20 23 (sb false) [(13, (sb (!r1))), (22, (rf 1 0))]), (ft 21 24 (sb true) [(13, (sb (!r1))), (18, (sb true)), (23, (sb false))]), (ft 22 25 (sb true) [(13, (sb (!r1))), (24, (sb true))])] [[], [0], [0, 1], [0, 1, 2], [], [4], [4, 5], [4, 5, 6], (.range 8), (.range 9), (.range 10), (.range 11), (.range 12), (.range 13), (.range 14), (.range 15), (.range 11), (.range 11 ++ [16]), (.range 11 ++ [16, 17]), (.range 11 ++ [16, 17, 18]), (.range 11 ++ [16, 17, 18, 19]), (.range 21), (.range 22)] (nl rfl) [0, 1, 2, 3, 0, 1, 2, 3, 4, 5, 6, 7, 8, 9, 10, 11, 7, 8, 9, 10, 11, 12, 13] rfl (TK := []) rfl AllK.nil' (by repeat (first | refine fC ⟨?_, ?_⟩ ?_ | refine sC rfl ?_ | refine hC rfl ?_ | trivial)) ?_ ?_
  ·refine y8 ?_ ?_ ?_ ?_ ?_ ?_ ?_ ?_ (y8 ?_ ?_ ?_ ?_ ?_ ?_ ?_ ?_ (y4 ?_ ?_ ?_ ?_ (y2 ?_ ?_ (pC ?_ yN))))
   ·intro K _ f w u k
    show Wp K ⟨76, (upd 76 f 0 (rf 0 0)), _⟩
    refine s_move (d := (rf 0 0)) rfl k
   ·intro K _ f w u k
    show Wp K ⟨76, (upd 76 f 3 (rf 0 0)), [_, _, _, _, _, _, _]⟩
    refine s_nilCheck (d := (rf 0 0)) rfl (.inl ⟨_, _, rfl⟩) k
   ·intro K _ f w u k
    show Wp K ⟨76, (upd 76 f 4 (rf 0 0)), [_, _, _, _, _, _, _]⟩
    refine s_fieldRef F.fo_57_2 (by decide) rfl k
   ·intro K _ f w u k
    show Wp K ⟨76, (upd 76 f 5 (rf 0 2)), [(some (AObj.cells false [np, (C.ref 1 0), (C.ref 2 0), (C.ref 3 0)])), _, _, _, _, _, _]⟩
    refine s_load1 (c' := (C.ref 2 0)) F.ag_24 rfl rfl k
   ·intro K _ f w u k
    show Wp K ⟨76, (upd 76 f 0 (rf 0 0)), _⟩
    refine s_move (d := (rf 0 0)) rfl k
   ·intro K _ f w u k
    show Wp K ⟨76, (upd 76 f 7 (rf 0 0)), [_, _, _, _, _, _, _]⟩
    refine s_nilCheck (d := (rf 0 0)) rfl (.inl ⟨_, _, rfl⟩) k
   ·intro K _ f w u k
    show Wp K ⟨76, (upd 76 f 8 (rf 0 0)), [_, _, _, _, _, _, _]⟩
    refine s_fieldRef F.fo_57_3 (by decide) rfl k
   ·intro K _ f w u k
    show Wp K ⟨76, (upd 76 f 9 (rf 0 3)), [(some (AObj.cells false [np, (C.ref 1 0), (C.ref 2 0), (C.ref 3 0)])), _, _, _, _, _, _]⟩
    refine s_load1 (c' := (C.ref 3 0)) F.ag_51 rfl rfl k
   ·intro K _ f w u k
    show Wp K ⟨76, (upd 76 (upd 76 f 10 (rf 3 0)) 6 (rf 2 0)), [_, _, (o_vdisk_Disk_03 false (C.mp 4) np p2), (o_dossierref03_Disk_0 false (C.own 5 0 p3.L.length 3) p3), (om_ e_vdisk_file p2.files), (or_ e_dossierref03_File p3.L), _]⟩
    refine cc [2, 3, 4, 5] [(w 0), (w 1), (o_vdisk_Disk_03 false (C.mp 4) np p2), (o_dossierref03_Disk_0 false (C.own 5 0 p3.L.length 3) p3), (om_ e_vdisk_file p2.files), (or_ e_dossierref03_File p3.L), (w 6)] (sb r1) F.ca_52 rfl rfl (ac (.one (.ref rfl)) (ac (.one (.ref rfl)) an)) (ac (.cells (ac (.mp rfl) (ac .sc (ac .sc (ac .sc (ac .sc an)))))) (ac (.cells (ac (.own rfl) (ac .sc (ac .sc (ac .sc an))))) (ac .map (ac (.cells (lend_row _)) an)))) (dossierplain_Same.meets _ p2 p3 r1 er1) k
   ·intro K _ f w u k
    show Wp K ⟨76, (upd 76 f 11 (sb r1)), [_, _, _, _, _, _, _]⟩
    refine s_not rfl k
   ·intro K _ f w u k
    show Wp K ⟨76, (upd 76 f 12 (sb (!r1))), _⟩
    refine s_move (d := (sb (!r1))) rfl k
   ·intro K _ f w u k
    show Wp K ⟨76, (upd 76 (upd 76 f 13 (sb (!r1))) 0 (rf 0 0)), _⟩
    refine AWops.guard_yes rfl (nl rfl) rfl (by rw [c2] <;> rfl) ?_
    refine s_move (d := (rf 0 0)) rfl k
   ·intro K _ f w u k
    show Wp K ⟨76, (upd 76 (upd 76 f 14 (rf 0 0)) 13 (sb (!r1))), [_, _, _, _, _, _, _]⟩
    refine AWops.guard_yes rfl (nl rfl) rfl (by rw [c2] <;> rfl) ?_
    refine s_nilCheck (d := (rf 0 0)) rfl (.inl ⟨_, _, rfl⟩) k
   ·intro K _ f w u k
    show Wp K ⟨76, (upd 76 (upd 76 f 15 (rf 0 0)) 13 (sb (!r1))), [_, _, _, _, _, _, _]⟩
    refine AWops.guard_yes rfl (nl rfl) rfl (by rw [c2] <;> rfl) ?_
    refine s_fieldRef F.fo_57_0 (by decide) rfl k
   ·intro K _ f w u k
    show Wp K ⟨76, (upd 76 (upd 76 f 16 (rf 0 0)) 13 (sb (!r1))), [(some (AObj.cells false [np, (C.ref 1 0), (C.ref 2 0), (C.ref 3 0)])), _, _, _, _, _, _]⟩
    refine AWops.guard_yes rfl (nl rfl) rfl (by rw [c2] <;> rfl) ?_
    refine s_load1 (c' := np) F.ag_23 rfl rfl k
   ·intro K _ f w u k
    show Wp K ⟨76, (upd 76 (upd 76 f 17 (sc (.pointer none))) 13 (sb (!r1))), [_, _, _, _, _, _, _]⟩
    refine AWops.guard_yes rfl (nl rfl) rfl (by rw [c2] <;> rfl) ?_
    refine s_ptrNil (b := true) F.u_23 rfl (.inr ⟨⟨_, rfl⟩, rfl⟩) (.inl rfl) k
   ·intro K _ f w u k
    show Wp K ⟨76, (upd 76 (upd 76 f 13 (sb (!r1))) 0 (rf 0 0)), _⟩
    refine AWops.guard_yes rfl (nl rfl) rfl (by rw [c2] <;> rfl) ?_
    refine s_move (d := (rf 0 0)) rfl k
   ·intro K _ f w u k
    show Wp K ⟨76, (upd 76 (upd 76 f 19 (rf 0 0)) 13 (sb (!r1))), [_, _, _, _, _, _, _]⟩
    refine AWops.guard_yes rfl (nl rfl) rfl (by rw [c2] <;> rfl) ?_
    refine s_nilCheck (d := (rf 0 0)) rfl (.inl ⟨_, _, rfl⟩) k
   ·intro K _ f w u k
    show Wp K ⟨76, (upd 76 (upd 76 f 20 (rf 0 0)) 13 (sb (!r1))), [_, _, _, _, _, _, _]⟩
    refine AWops.guard_yes rfl (nl rfl) rfl (by rw [c2] <;> rfl) ?_
    refine s_fieldRef F.fo_57_1 (by decide) rfl k
   ·intro K _ f w u k
    show Wp K ⟨76, (upd 76 (upd 76 f 21 (rf 0 1)) 13 (sb (!r1))), [(some (AObj.cells false [np, (C.ref 1 0), (C.ref 2 0), (C.ref 3 0)])), _, _, _, _, _, _]⟩
    refine AWops.guard_yes rfl (nl rfl) rfl (by rw [c2] <;> rfl) ?_
    refine s_load1 (c' := (C.ref 1 0)) F.ag_55 rfl rfl k
   ·intro K _ f w u k
    show Wp K ⟨76, (upd 76 (upd 76 f 22 (rf 1 0)) 13 (sb (!r1))), [_, _, _, _, _, _, _]⟩
    refine AWops.guard_yes rfl (nl rfl) rfl (by rw [c2] <;> rfl) ?_
    refine s_ptrNil (b := false) F.u_55 rfl (.inl ⟨⟨_, _, rfl⟩, rfl⟩) (.inl rfl) k
   ·intro K _ f w u k
    show Wp K ⟨76, (upd 76 (upd 76 (upd 76 f 23 (sb false)) 18 (sb true)) 13 (sb (!r1))), _⟩
    refine AWops.guard_yes rfl (nl rfl) rfl (by rw [c2] <;> rfl) ?_
    refine s_binB (b := true) F.u_4 rfl rfl (.inr ⟨rfl, rfl⟩) k
   ·intro K _ f w u k
    show Wp K ⟨76, (upd 76 (upd 76 f 24 (sb true)) 13 (sb (!r1))), _⟩
    refine s_pick_no (d := (sb true)) rfl (by rw [c2] <;> rfl) rfl k
  ·refine AWops.weak (st' := ⟨76, (upd 76 (upd 76 topF 0 (rf 0 0)) 25 (sb true)), [(some (AObj.cells false [np, (C.ref 1 0), (C.ref 2 0), (C.ref 3 0)])), (o_dossierref04_Journal_0 false (C.ref 3 0) p1), (o_vdisk_Disk_03 false (C.mp 4) np p2), (o_dossierref03_Disk_0 false (C.own 5 0 p3.L.length 3) p3), (om_ e_vdisk_file p2.files), (or_ e_dossierref03_File p3.L)]⟩) (wg 6 [0, 1, 2, 3, 4, 5] [] hx (le_upd (le_upd (le_top _) (o1 (.ref rfl))) (o1 .sc)) (ac (.cells id (ac .sc (ac (.ref rfl) (ac (.ref rfl) (ac (.ref rfl) an))))) (ac (.cells id (ac (.ref rfl) (ac .same (ac .same (ac .sc an))))) (ac (qs rfl) (ac (qo rfl) (ac .map (ac (.cells id (all2_row _)) an))))))) (AWops.nil ?_)
   refine AW.cond_yes rfl rfl (AW.seq (AW.region ?_))
   refine s_assign (d := (sb false)) rfl (AWops.nil (AW.ret ?_))
   obtain rfl := Option.some.inj h
   exact ⟨_, rfl, (wg 6 [0, 1, 2, 3, 4, 5] [] rfl (le_upd (le_top _) (o1 .sc)) (ac (.cells id (ac .sc (ac (.ref rfl) (ac (.ref rfl) (ac (.ref rfl) an))))) (ac (.cells id (ac (.ref rfl) (ac .same (ac .same (ac .sc an))))) (ac (qs rfl) (ac (qo rfl) (ac .map (ac (.cells id (all2_row _)) an)))))))⟩
 ·refine AW.draw (n := 76) (L := 7) [(ft 0 3 (rf 0 0) [(0, (rf 0 0))]), (ft 1 4 (rf 0 0) [(3, (rf 0 0))]), (ft 2 5 (rf 0 2) [(4, (rf 0 0))]), (3, ⟨some 6, (rf 2 0), [(5, (rf 0 2))], [(0, (some (AObj.cells false [np, (C.ref 1 0), (C.ref 2 0), (C.ref 3 0)])))], [], none⟩), (ft 4 7 (rf 0 0) [(0, (rf 0 0))]), (ft 5 8 (rf 0 0) [(7, (rf 0 0))]), (ft 6 9 (rf 0 3) [(8, (rf 0 0))]), (7, ⟨some 10, (rf 3 0), [(9, (rf 0 3))], [(0, (some (AObj.cells false [np, (C.ref 1 0), (C.ref 2 0), (C.ref 3 0)])))], [], none⟩), (8, ⟨some 11, (sb r1), [(6, (rf 2 0)), (10, (rf 3 0))], [(2, (o_vdisk_Disk_03 false (C.mp 4) np p2)), (3, (o_dossierref03_Disk_0 false (C.own 5 0 p3.L.length 3) p3)), (4, (om_ e_vdisk_file p2.files)), (5, (or_ e_dossierref03_File p3.L))], [], none⟩), (ft 9 12 (sb (!r1)) [(11, (sb r1))]), (ft 10 13 (sb (!r1)) [(12, (sb (!r1)))]), (ft 11 14 (D.tup []) [(0, (rf 0 0)), (13, (sb (!r1)))]), (ft 12 15 (D.tup []) [(13, (sb (!r1)))]), (ft 13 16 (D.tup []) [(13, (sb (!r1)))]), (ft 14 17 (D.tup []) [(13, (sb (!r1)))]), (ft 15 18 (D.tup []) [(13, (sb (!r1)))]), (ft 16 19 (D.tup []) [(13, (sb (!r1)))]), (ft 17 20 (D.tup []) [(13, (sb (!r1)))]), (ft 18 21 (D.tup []) [(13, (sb (!r1)))]), (ft 19 22 (D.tup []) [(13, (sb (!r1)))]), (ft 20 23 (D.tup []) [(13, (sb (!r1)))]), (ft 21 24 (D.tup []) [(13, (sb (!r1)))]), (ft 22 25 (sb true) [(13, (sb (!r1)))])] [[], [0], [0, 1], [0, 1, 2], [], [4], [4, 5], [4, 5, 6], (.range 8), (.range 9), (.range 10), (.range 11), (.range 12), (.range 13), (.range 14), (.range 15), (.range 11), (.range 11 ++ [16]), (.range 11 ++ [16, 17]), (.range 11 ++ [16, 17, 18]), (.range 11 ++ [16, 17, 18, 19]), (.range 21), (.range 22)] (nl rfl) [0, 1, 2, 3, 0, 1, 2, 3, 4, 5, 6, 7, 8, 9, 10, 11, 7, 8, 9, 10, 11, 12, 13] rfl (TK := []) rfl AllK.nil' (by repeat (first | refine fC ⟨?_, ?_⟩ ?_ | refine sC rfl ?_ | refine hC rfl ?_ | trivial)) ?_ ?_
  ·refine y8 ?_ ?_ ?_ ?_ ?_ ?_ ?_ ?_ (y8 ?_ ?_ ?_ ?_ ?_ ?_ ?_ ?_ (y4 ?_ ?_ ?_ ?_ (y2 ?_ ?_ (pC ?_ yN))))
   ·intro K _ f w u k
    show Wp K ⟨76, (upd 76 f 0 (rf 0 0)), _⟩
    refine s_move (d := (rf 0 0)) rfl k
   ·intro K _ f w u k
    show Wp K ⟨76, (upd 76 f 3 (rf 0 0)), [_, _, _, _, _, _, _]⟩
    refine s_nilCheck (d := (rf 0 0)) rfl (.inl ⟨_, _, rfl⟩) k
   ·intro K _ f w u k
    show Wp K ⟨76, (upd 76 f 4 (rf 0 0)), [_, _, _, _, _, _, _]⟩
    refine s_fieldRef F.fo_57_2 (by decide) rfl k
   ·intro K _ f w u k
    show Wp K ⟨76, (upd 76 f 5 (rf 0 2)), [(some (AObj.cells false [np, (C.ref 1 0), (C.ref 2 0), (C.ref 3 0)])), _, _, _, _, _, _]⟩
    refine s_load1 (c' := (C.ref 2 0)) F.ag_24 rfl rfl k
   ·intro K _ f w u k
    show Wp K ⟨76, (upd 76 f 0 (rf 0 0)), _⟩
    refine s_move (d := (rf 0 0)) rfl k
   ·intro K _ f w u k
    show Wp K ⟨76, (upd 76 f 7 (rf 0 0)), [_, _, _, _, _, _, _]⟩
    refine s_nilCheck (d := (rf 0 0)) rfl (.inl ⟨_, _, rfl⟩) k
   ·intro K _ f w u k
    show Wp K ⟨76, (upd 76 f 8 (rf 0 0)), [_, _, _, _, _, _, _]⟩
    refine s_fieldRef F.fo_57_3 (by decide) rfl k
   ·intro K _ f w u k
    show Wp K ⟨76, (upd 76 f 9 (rf 0 3)), [(some (AObj.cells false [np, (C.ref 1 0), (C.ref 2 0), (C.ref 3 0)])), _, _, _, _, _, _]⟩
    refine s_load1 (c' := (C.ref 3 0)) F.ag_51 rfl rfl k
   ·intro K _ f w u k
    show Wp K ⟨76, (upd 76 (upd 76 f 10 (rf 3 0)) 6 (rf 2 0)), [_, _, (o_vdisk_Disk_03 false (C.mp 4) np p2), (o_dossierref03_Disk_0 false (C.own 5 0 p3.L.length 3) p3), (om_ e_vdisk_file p2.files), (or_ e_dossierref03_File p3.L), _]⟩
    refine cc [2, 3, 4, 5] [(w 0), (w 1), (o_vdisk_Disk_03 false (C.mp 4) np p2), (o_dossierref03_Disk_0 false (C.own 5 0 p3.L.length 3) p3), (om_ e_vdisk_file p2.files), (or_ e_dossierref03_File p3.L), (w 6)] (sb r1) F.ca_52 rfl rfl (ac (.one (.ref rfl)) (ac (.one (.ref rfl)) an)) (ac (.cells (ac (.mp rfl) (ac .sc (ac .sc (ac .sc (ac .sc an)))))) (ac (.cells (ac (.own rfl) (ac .sc (ac .sc (ac .sc an))))) (ac .map (ac (.cells (lend_row _)) an)))) (dossierplain_Same.meets _ p2 p3 r1 er1) k
   ·intro K _ f w u k
    show Wp K ⟨76, (upd 76 f 11 (sb r1)), [_, _, _, _, _, _, _]⟩
    refine s_not rfl k
   ·intro K _ f w u k
    show Wp K ⟨76, (upd 76 f 12 (sb (!r1))), _⟩
    refine s_move (d := (sb (!r1))) rfl k
   ·intro K _ f w u k
    show Wp K ⟨76, (upd 76 (upd 76 f 13 (sb (!r1))) 0 (rf 0 0)), _⟩
    refine AWops.guard_no rfl (nl rfl) rfl (by rw [c2] <;> rfl) k
   ·intro K _ f w u k
    show Wp K ⟨76, (upd 76 f 13 (sb (!r1))), _⟩
    refine AWops.guard_no rfl (nl rfl) rfl (by rw [c2] <;> rfl) k
   ·intro K _ f w u k
    show Wp K ⟨76, (upd 76 f 13 (sb (!r1))), _⟩
    refine AWops.guard_no rfl (nl rfl) rfl (by rw [c2] <;> rfl) k
   ·intro K _ f w u k
    show Wp K ⟨76, (upd 76 f 13 (sb (!r1))), _⟩
    refine AWops.guard_no rfl (nl rfl) rfl (by rw [c2] <;> rfl) k
   ·intro K _ f w u k
    show Wp K ⟨76, (upd 76 f 13 (sb (!r1))), _⟩
    refine AWops.guard_no rfl (nl rfl) rfl (by rw [c2] <;> rfl) k
   ·intro K _ f w u k
    show Wp K ⟨76, (upd 76 f 13 (sb (!r1))), _⟩
    refine AWops.guard_no rfl (nl rfl) rfl (by rw [c2] <;> rfl) k
   ·intro K _ f w u k
    show Wp K ⟨76, (upd 76 f 13 (sb (!r1))), _⟩
    refine AWops.guard_no rfl (nl rfl) rfl (by rw [c2] <;> rfl) k
   ·intro K _ f w u k
    show Wp K ⟨76, (upd 76 f 13 (sb (!r1))), _⟩
    refine AWops.guard_no rfl (nl rfl) rfl (by rw [c2] <;> rfl) k
   ·intro K _ f w u k
    show Wp K ⟨76, (upd 76 f 13 (sb (!r1))), _⟩
    refine AWops.guard_no rfl (nl rfl) rfl (by rw [c2] <;> rfl) k
   ·intro K _ f w u k
    show Wp K ⟨76, (upd 76 f 13 (sb (!r1))), _⟩
    refine AWops.guard_no rfl (nl rfl) rfl (by rw [c2] <;> rfl) k
   ·intro K _ f w u k
    show Wp K ⟨76, (upd 76 f 13 (sb (!r1))), _⟩
    refine AWops.guard_no rfl (nl rfl) rfl (by rw [c2] <;> rfl) k
   ·intro K _ f w u k
    show Wp K ⟨76, (upd 76 f 13 (sb (!r1))), _⟩
    refine s_pick_yes (d := (sb true)) rfl (by rw [c2] <;> rfl) rfl k
  ·refine AWops.weak (st' := ⟨76, (upd 76 (upd 76 topF 0 (rf 0 0)) 25 (sb true)), [(some (AObj.cells false [np, (C.ref 1 0), (C.ref 2 0), (C.ref 3 0)])), (o_dossierref04_Journal_0 false (C.ref 3 0) p1), (o_vdisk_Disk_03 false (C.mp 4) np p2), (o_dossierref03_Disk_0 false (C.own 5 0 p3.L.length 3) p3), (om_ e_vdisk_file p2.files), (or_ e_dossierref03_File p3.L)]⟩) (wg 6 [0, 1, 2, 3, 4, 5] [] hx (le_upd (le_upd (le_top _) (o1 (.ref rfl))) (o1 .sc)) (ac (.cells id (ac .sc (ac (.ref rfl) (ac (.ref rfl) (ac (.ref rfl) an))))) (ac (.cells id (ac (.ref rfl) (ac .same (ac .same (ac .sc an))))) (ac (qs rfl) (ac (qo rfl) (ac .map (ac (.cells id (all2_row _)) an))))))) (AWops.nil ?_)
   refine AW.cond_yes rfl rfl (AW.seq (AW.region ?_))
   refine s_assign (d := (sb false)) rfl (AWops.nil (AW.ret ?_))
   obtain rfl := Option.some.inj h
   exact ⟨_, rfl, (wg 6 [0, 1, 2, 3, 4, 5] [] rfl (le_upd (le_top _) (o1 .sc)) (ac (.cells id (ac .sc (ac (.ref rfl) (ac (.ref rfl) (ac (.ref rfl) an))))) (ac (.cells id (ac (.ref rfl) (ac .same (ac .same (ac .sc an))))) (ac (qs rfl) (ac (qo rfl) (ac .map (ac (.cells id (all2_row _)) an)))))))⟩
end Go.Abs.GenO
