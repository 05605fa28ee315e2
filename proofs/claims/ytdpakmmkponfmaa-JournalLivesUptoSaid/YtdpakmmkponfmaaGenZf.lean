import Derived.Test.YtdpakmmkponfmaaGenZe
set_option linter.unusedVariables false
set_option linter.unusedSimpArgs false
set_option maxRecDepth 100000
set_option maxHeartbeats 4000000
namespace Go.Abs.GenZ
open Go.Abs Go.Proofs
mutual
def dossierplain_Same.l0 : Nat → Int → vdisk_Disk → dossierref03_Disk → Option Bool
 | 0, _, _, _ => none
 | k + 1, x10, p0, p1 => if (decide (x10 < (p1.L.length : Int))) = true then ((rd p1.L x10).bind fun v12 => (vdisk_Disk_Read.f k p0 v12.Name).bind fun r14 => (dossierref03_Disk_Read.f k p1 v12.Name).bind fun r15 => if (r14.2 != r15.2) = true then (some false) else ((bytes_Equal.f k r14.1 r15.1).bind fun r17 => if r17 = true then (dossierplain_Same.l0 k (IntKind.i64.wrap (x10 + 1)) p0 p1) else (some false))) else (some true)
end
def dossierplain_Same.f (k : Nat) (p0 : vdisk_Disk) (p1 : dossierref03_Disk) : Option Bool := (vdisk_Disk_Names.f k p0).bind fun r1 => (dossierref03_Disk_Names.f k p1).bind fun r2 => (slices_Equal_string_string.f k r1 r2).bind fun r3 => if r3 = true then ((vdisk_Disk_Used.f k p0).bind fun r5 => (dossierref03_Disk_Used.f k p1).bind fun r6 => if (r5 != r6) = true then (some false) else ((vdisk_Disk_Dead.f k p0).bind fun r8 => if (r8 == p1.Off) = true then (dossierplain_Same.l0 k 0 p0 p1) else (some false))) else (some false)
theorem dossierplain_Same.meets (k : Nat) (p0 : vdisk_Disk) (p1 : dossierref03_Disk) (r : Bool) (h : dossierplain_Same.f k p0 p1 = some r) : Meets Try.prog 17 [(rf 0 0), (rf 1 0)] [(o_vdisk_Disk_03 false (C.mp 2) (C.opt p0.fuse.isSome 4 0) p0), (o_dossierref03_Disk_0 false (C.own 3 0 p1.L.length 3) p1), (om_ e_vdisk_file p0.files), (or_ e_dossierref03_File p1.L), (some (AObj.cells false [(ci (p0.fuse.getD default))]))] (sb r) [(o_vdisk_Disk_03 false (C.mp 2) (C.opt p0.fuse.isSome 5 0) p0), (o_dossierref03_Disk_0 false (C.own 3 0 p1.L.length 3) p1), (om_ e_vdisk_file p0.files), (or_ e_dossierref03_File p1.L), none, (some (AObj.cells false [(ci (p0.fuse.getD default))]))] := by
 unfold dossierplain_Same.f at h
 refine Meets.of_body (n := 66) Try.func17 rfl rfl (nl rfl) fun x hx => ?_
 replace hx : x.k = 5 := hx
 show AW _ x _ _ ⟨66, fr0 [(rf 0 0), (rf 1 0)], [(o_vdisk_Disk_03 false (C.mp 2) (C.opt p0.fuse.isSome 4 0) p0), (o_dossierref03_Disk_0 false (C.own 3 0 p1.L.length 3) p1), (om_ e_vdisk_file p0.files), (or_ e_dossierref03_File p1.L), (some (AObj.cells false [(ci (p0.fuse.getD default))]))]⟩
 refine AW.weak (st' := ⟨66, (upd 66 (upd 66 topF 0 (rf 0 0)) 1 (rf 1 0)), [(o_vdisk_Disk_03 false (C.mp 2) (C.opt p0.fuse.isSome 5 0) p0), (o_dossierref03_Disk_0 false (C.own 3 0 p1.L.length 3) p1), (om_ e_vdisk_file p0.files), (or_ e_dossierref03_File p1.L), none, (some (AObj.cells false [(ci (p0.fuse.getD default))]))]⟩) (Weak.genL (kk := 5) [0, 1, 2, 3, 4, 4] [] hx rfl (by decide) rfl rfl rfl rfl (le_upd (le_upd (le_top _) (o1 (.ref rfl))) (o1 (.ref rfl))) (ac (.cells id (ac (.mp rfl) (ac .sc (ac .sc (ac (.opt rfl) (ac .sc an)))))) (ac (.cells id (ac (.own rfl) (ac .sc (ac .sc (ac .sc an))))) (ac .map (ac (.cells id (all2_row _)) (ac (.none _) (ac (.cells id (ac .sc an)) an))))))) (AW.seq (AW.region ?_))
 refine s_assign (d := (sb false)) rfl (AWops.nil (AW.seq (AW.seq ?_)))
 refine AW.weak (st' := ⟨66, (upd 66 (upd 66 topF 0 (rf 0 0)) 1 (rf 1 0)), [(o_vdisk_Disk_03 false (C.mp 2) (C.opt p0.fuse.isSome 5 0) p0), (o_dossierref03_Disk_0 false (C.own 3 0 p1.L.length 3) p1), (om_ e_vdisk_file p0.files), (or_ e_dossierref03_File p1.L), none, (some (AObj.cells false [(ci (p0.fuse.getD default))]))]⟩) (wG 5 [0, 1, 2, 3, 4, 5] []) ?_
 obtain ⟨r1, er1, h⟩ := bnd h
 obtain ⟨r2, er2, h⟩ := bnd h
 obtain ⟨r3, er3, h⟩ := bnd h
 rcases itH h with ⟨c4, h⟩ | ⟨c4, h⟩
 ·obtain ⟨r5, er5, h⟩ := bnd h
  obtain ⟨r6, er6, h⟩ := bnd h
  rcases itH h with ⟨c7, h⟩ | ⟨c7, h⟩
  ·refine AW.draw2 13 [kf 11 (rf 0 0) [0], ⟨some 12, (D.one (C.own 7 0 r1.length 1)), [11], [0, 2, 5], [(0, (o_vdisk_Disk_03 false (C.mp 2) (C.opt p0.fuse.isSome 6 0) p0)), (5, none), (6, (some (AObj.cells false [(ci (p0.fuse.getD default))]))), (7, (ow_ e_str r1))], some (6, 2)⟩, kf 13 (rf 1 0) [1], ⟨some 14, (D.one (C.own 8 0 r2.length 1)), [13], [1, 3], [(8, (ow_ e_str r2))], some (8, 1)⟩, ⟨some 15, (sb r3), [12, 14], [7, 8], [], none⟩, kf 16 (sb (!r3)) [15], kf 17 (sb (!r3)) [16], kf 18 (rf 0 0) [0, 17], ⟨some 19, (si r5), [17, 18], [0, 2, 6], [(0, (o_vdisk_Disk_03 false (C.mp 2) (C.opt p0.fuse.isSome 10 0) p0)), (6, none), (10, (some (AObj.cells false [(ci (p0.fuse.getD default))])))], some (10, 1)⟩, kf 20 (rf 1 0) [1, 17], ⟨some 21, (si r6), [17, 20], [1, 3], [], none⟩, kf 22 (sb (r5 != r6)) [17, 19, 21], kf 23 (sb (r5 != r6)) [17, 22], kf 24 (sb (r5 != r6)) [23], kf 25 (D.tup []) [0, 24], kf 26 (D.tup []) [24], kf 27 (D.tup []) [24], kf 28 (D.tup []) [24], kf 29 (D.tup []) [24], kf 30 (D.tup []) [24], kf 31 (D.tup []) [24], kf 32 (sb true) [24]] ⟨?_, ?_⟩
   ·refine (pA (pC ?_ (pA (pC ?_ (pC ?_ (pA (pA (pY c4 (pC ?_ (pY c4 (pC ?_ (pY c4 (pC ?_ (pA (pN c7 (pN c7 (pN c7 (pN c7 (pN c7 (pN c7 (pN c7 (pC ?_ AllStep.nil'))))))))))))))))))))))
    ·intro K rest fr hv htk k
     show AWops _ x _ _ K ⟨66, (upd 66 fr 11 (rf 0 0)), [(o_vdisk_Disk_03 false (C.mp 2) (C.opt p0.fuse.isSome 5 0) p0), (hv 1), (om_ e_vdisk_file p0.files), (hv 3), (hv 4), (some (AObj.cells false [(ci (p0.fuse.getD default))])), (hv 6), (hv 7), (hv 8), (hv 9), (hv 10), (hv 11), (hv 12)]⟩
     refine cc [0, 2, 5] [(o_vdisk_Disk_03 false (C.mp 2) (C.opt p0.fuse.isSome 13 0) p0), (hv 1), (om_ e_vdisk_file p0.files), (hv 3), (hv 4), none, (hv 6), (hv 7), (hv 8), (hv 9), (hv 10), (hv 11), (hv 12), (some (AObj.cells false [(ci (p0.fuse.getD default))])), (ow_ e_str r1)] (D.one (C.own 14 0 r1.length 1)) F.ca_52 rfl rfl (ac (.one (.ref rfl)) an) (ac (.cells (ac (.mp rfl) (ac .sc (ac .sc (ac (.opt rfl) (ac .sc an)))))) (ac .map (ac (.cells (ac .sc an)) an))) (vdisk_Disk_Names.meets _ p0 r1 er1) ?_
     refine AWops.weak (wD 5 (6, 2) 13 [0, 1, 2, 3, 4, 5, 13, 14, 8, 9, 10, 11, 12] [] (htk (6, 2) rfl)) k
    ·intro K rest fr hv htk k
     show AWops _ x _ _ K ⟨66, (upd 66 fr 13 (rf 1 0)), [(hv 0), (o_dossierref03_Disk_0 false (C.own 3 0 p1.L.length 3) p1), (hv 2), (or_ e_dossierref03_File p1.L), (hv 4), (hv 5), (hv 6), (hv 7), (hv 8), (hv 9), (hv 10), (hv 11), (hv 12)]⟩
     refine cc [1, 3] [(hv 0), (o_dossierref03_Disk_0 false (C.own 3 0 p1.L.length 3) p1), (hv 2), (or_ e_dossierref03_File p1.L), (hv 4), (hv 5), (hv 6), (hv 7), (hv 8), (hv 9), (hv 10), (hv 11), (hv 12), (ow_ e_str r2)] (D.one (C.own 13 0 r2.length 1)) F.ca_53 rfl rfl (ac (.one (.ref rfl)) an) (ac (.cells (ac (.own rfl) (ac .sc (ac .sc (ac .sc an))))) (ac (.cells (lend_row _)) an)) (dossierref03_Disk_Names.meets _ p1 r2 er2) ?_
     refine AWops.weak (wD 5 (8, 1) 13 [0, 1, 2, 3, 4, 5, 6, 7, 13, 9, 10, 11, 12] [] (htk (8, 1) rfl)) k
    ·intro K rest fr hv htk k
     refine s_call2 (ρ := []) (br := true) (H2 := [(hv 0), (hv 1), (hv 2), (hv 3), (hv 4), (hv 5), (hv 6), (ow_ e_str r1), (ow_ e_str r2), (hv 9), (hv 10), (hv 11), (hv 12)]) (d := (sb r3)) F.ca_51 rfl rfl (ac (.one (LendC.bor e_str_len rfl rfl rfl)) (ac (.one (LendC.bor e_str_len rfl rfl rfl)) an)) an (by decide) rfl (slices_Equal_string_string.meets _ r1 r2 r3 er3) (.inr ⟨rfl, rfl⟩) rfl rfl k
    ·intro K rest fr hv htk k
     refine AWops.guard_yes rfl (nl rfl) rfl (by rw [c4] <;> rfl) ?_
     refine cc [0, 2, 6] [(o_vdisk_Disk_03 false (C.mp 2) (C.opt p0.fuse.isSome 13 0) p0), (hv 1), (om_ e_vdisk_file p0.files), (hv 3), (hv 4), (hv 5), none, (hv 7), (hv 8), (hv 9), (hv 10), (hv 11), (hv 12), (some (AObj.cells false [(ci (p0.fuse.getD default))]))] (si r5) F.ca_54 rfl rfl (ac (.one (.ref rfl)) an) (ac (.cells (ac (.mp rfl) (ac .sc (ac .sc (ac (.opt rfl) (ac .sc an)))))) (ac .map (ac (.cells (ac .sc an)) an))) (vdisk_Disk_Used.meets _ p0 r5 er5) ?_
     refine AWops.weak (wD 5 (10, 1) 13 [0, 1, 2, 3, 4, 5, 6, 7, 8, 9, 13, 11, 12] [] (htk (10, 1) rfl)) k
    ·intro K rest fr hv htk k
     show AWops _ x _ _ K ⟨66, (upd 66 (upd 66 fr 20 (rf 1 0)) 17 (sb (!r3))), [(hv 0), (o_dossierref03_Disk_0 false (C.own 3 0 p1.L.length 3) p1), (hv 2), (or_ e_dossierref03_File p1.L), (hv 4), (hv 5), (hv 6), (hv 7), (hv 8), (hv 9), (hv 10), (hv 11), (hv 12)]⟩
     refine AWops.guard_yes rfl (nl rfl) rfl (by rw [c4] <;> rfl) ?_
     refine cc [1, 3] [(hv 0), (o_dossierref03_Disk_0 false (C.own 3 0 p1.L.length 3) p1), (hv 2), (or_ e_dossierref03_File p1.L), (hv 4), (hv 5), (hv 6), (hv 7), (hv 8), (hv 9), (hv 10), (hv 11), (hv 12)] (si r6) F.ca_55 rfl rfl (ac (.one (.ref rfl)) an) (ac (.cells (ac (.own rfl) (ac .sc (ac .sc (ac .sc an))))) (ac (.cells (lend_row _)) an)) (dossierref03_Disk_Used.meets _ p1 r6 er6) k
    ·intro K rest fr hv htk k
     refine s_pick_no (d := (sb (r5 != r6))) rfl (by rw [c4] <;> rfl) rfl k
    ·intro K rest fr hv htk k
     refine s_pick_yes (d := (sb true)) rfl c7 rfl k
   ·refine AWops.weak (st' := ⟨66, (upd 66 (upd 66 (upd 66 topF 0 (rf 0 0)) 1 (rf 1 0)) 32 (sb true)), [(o_vdisk_Disk_03 false (C.mp 2) (C.opt p0.fuse.isSome 5 0) p0), (o_dossierref03_Disk_0 false (C.own 3 0 p1.L.length 3) p1), (om_ e_vdisk_file p0.files), (or_ e_dossierref03_File p1.L), none, (some (AObj.cells false [(ci (p0.fuse.getD default))]))]⟩) (wG 5 [0, 1, 2, 3, 4, 10] []) (AWops.nil ?_)
    refine AW.cond_yes rfl rfl (AW.seq (AW.region ?_))
    refine s_assign (d := (sb false)) rfl (AWops.nil (AW.ret ?_))
    obtain rfl := Option.some.inj h
    exact ⟨_, rfl, (wG 5 [0, 1, 2, 3, 4, 5] [])⟩
  ·obtain ⟨r8, er8, h⟩ := bnd h
   refine AW.draw2 13 [kf 11 (rf 0 0) [0], ⟨some 12, (D.one (C.own 7 0 r1.length 1)), [11], [0, 2, 5], [(0, (o_vdisk_Disk_03 false (C.mp 2) (C.opt p0.fuse.isSome 6 0) p0)), (5, none), (6, (some (AObj.cells false [(ci (p0.fuse.getD default))]))), (7, (ow_ e_str r1))], some (6, 2)⟩, kf 13 (rf 1 0) [1], ⟨some 14, (D.one (C.own 8 0 r2.length 1)), [13], [1, 3], [(8, (ow_ e_str r2))], some (8, 1)⟩, ⟨some 15, (sb r3), [12, 14], [7, 8], [], none⟩, kf 16 (sb (!r3)) [15], kf 17 (sb (!r3)) [16], kf 18 (rf 0 0) [0, 17], ⟨some 19, (si r5), [17, 18], [0, 2, 6], [(0, (o_vdisk_Disk_03 false (C.mp 2) (C.opt p0.fuse.isSome 10 0) p0)), (6, none), (10, (some (AObj.cells false [(ci (p0.fuse.getD default))])))], some (10, 1)⟩, kf 20 (rf 1 0) [1, 17], ⟨some 21, (si r6), [17, 20], [1, 3], [], none⟩, kf 22 (sb (r5 != r6)) [17, 19, 21], kf 23 (sb (r5 != r6)) [17, 22], kf 24 (sb (r5 != r6)) [23], kf 25 (rf 0 0) [0, 24], ⟨some 26, (sb r8), [24, 25], [0, 2, 10], [(0, (o_vdisk_Disk_03 false (C.mp 2) (C.opt p0.fuse.isSome 12 0) p0)), (10, none), (12, (some (AObj.cells false [(ci (p0.fuse.getD default))])))], some (12, 1)⟩, kf 27 (rf 1 0) [1, 24], kf 28 (rf 1 0) [24, 27], kf 29 (rf 1 3) [24, 28], ⟨some 30, (sb p1.Off), [24, 29], [1], [], none⟩, kf 31 (sb (!(r8 == p1.Off))) [24, 26, 30], kf 32 (sb (!(r8 == p1.Off))) [24, 31]] ⟨?_, ?_⟩
   ·refine (pA (pC ?_ (pA (pC ?_ (pC ?_ (pA (pA (pY c4 (pC ?_ (pY c4 (pC ?_ (pY c4 (pC ?_ (pA (pY c7 (pC ?_ (pY c7 (pY c7 (pYE c7 F.fo_52_3 (pYE c7 F.ag_4 (pC ?_ (pC ?_ AllStep.nil'))))))))))))))))))))))
    ·intro K rest fr hv htk k
     show AWops _ x _ _ K ⟨66, (upd 66 fr 11 (rf 0 0)), [(o_vdisk_Disk_03 false (C.mp 2) (C.opt p0.fuse.isSome 5 0) p0), (hv 1), (om_ e_vdisk_file p0.files), (hv 3), (hv 4), (some (AObj.cells false [(ci (p0.fuse.getD default))])), (hv 6), (hv 7), (hv 8), (hv 9), (hv 10), (hv 11), (hv 12)]⟩
     refine cc [0, 2, 5] [(o_vdisk_Disk_03 false (C.mp 2) (C.opt p0.fuse.isSome 13 0) p0), (hv 1), (om_ e_vdisk_file p0.files), (hv 3), (hv 4), none, (hv 6), (hv 7), (hv 8), (hv 9), (hv 10), (hv 11), (hv 12), (some (AObj.cells false [(ci (p0.fuse.getD default))])), (ow_ e_str r1)] (D.one (C.own 14 0 r1.length 1)) F.ca_52 rfl rfl (ac (.one (.ref rfl)) an) (ac (.cells (ac (.mp rfl) (ac .sc (ac .sc (ac (.opt rfl) (ac .sc an)))))) (ac .map (ac (.cells (ac .sc an)) an))) (vdisk_Disk_Names.meets _ p0 r1 er1) ?_
     refine AWops.weak (wD 5 (6, 2) 13 [0, 1, 2, 3, 4, 5, 13, 14, 8, 9, 10, 11, 12] [] (htk (6, 2) rfl)) k
    ·intro K rest fr hv htk k
     show AWops _ x _ _ K ⟨66, (upd 66 fr 13 (rf 1 0)), [(hv 0), (o_dossierref03_Disk_0 false (C.own 3 0 p1.L.length 3) p1), (hv 2), (or_ e_dossierref03_File p1.L), (hv 4), (hv 5), (hv 6), (hv 7), (hv 8), (hv 9), (hv 10), (hv 11), (hv 12)]⟩
     refine cc [1, 3] [(hv 0), (o_dossierref03_Disk_0 false (C.own 3 0 p1.L.length 3) p1), (hv 2), (or_ e_dossierref03_File p1.L), (hv 4), (hv 5), (hv 6), (hv 7), (hv 8), (hv 9), (hv 10), (hv 11), (hv 12), (ow_ e_str r2)] (D.one (C.own 13 0 r2.length 1)) F.ca_53 rfl rfl (ac (.one (.ref rfl)) an) (ac (.cells (ac (.own rfl) (ac .sc (ac .sc (ac .sc an))))) (ac (.cells (lend_row _)) an)) (dossierref03_Disk_Names.meets _ p1 r2 er2) ?_
     refine AWops.weak (wD 5 (8, 1) 13 [0, 1, 2, 3, 4, 5, 6, 7, 13, 9, 10, 11, 12] [] (htk (8, 1) rfl)) k
    ·intro K rest fr hv htk k
     refine s_call2 (ρ := []) (br := true) (H2 := [(hv 0), (hv 1), (hv 2), (hv 3), (hv 4), (hv 5), (hv 6), (ow_ e_str r1), (ow_ e_str r2), (hv 9), (hv 10), (hv 11), (hv 12)]) (d := (sb r3)) F.ca_51 rfl rfl (ac (.one (LendC.bor e_str_len rfl rfl rfl)) (ac (.one (LendC.bor e_str_len rfl rfl rfl)) an)) an (by decide) rfl (slices_Equal_string_string.meets _ r1 r2 r3 er3) (.inr ⟨rfl, rfl⟩) rfl rfl k
    ·intro K rest fr hv htk k
     refine AWops.guard_yes rfl (nl rfl) rfl (by rw [c4] <;> rfl) ?_
     refine cc [0, 2, 6] [(o_vdisk_Disk_03 false (C.mp 2) (C.opt p0.fuse.isSome 13 0) p0), (hv 1), (om_ e_vdisk_file p0.files), (hv 3), (hv 4), (hv 5), none, (hv 7), (hv 8), (hv 9), (hv 10), (hv 11), (hv 12), (some (AObj.cells false [(ci (p0.fuse.getD default))]))] (si r5) F.ca_54 rfl rfl (ac (.one (.ref rfl)) an) (ac (.cells (ac (.mp rfl) (ac .sc (ac .sc (ac (.opt rfl) (ac .sc an)))))) (ac .map (ac (.cells (ac .sc an)) an))) (vdisk_Disk_Used.meets _ p0 r5 er5) ?_
     refine AWops.weak (wD 5 (10, 1) 13 [0, 1, 2, 3, 4, 5, 6, 7, 8, 9, 13, 11, 12] [] (htk (10, 1) rfl)) k
    ·intro K rest fr hv htk k
     show AWops _ x _ _ K ⟨66, (upd 66 (upd 66 fr 20 (rf 1 0)) 17 (sb (!r3))), [(hv 0), (o_dossierref03_Disk_0 false (C.own 3 0 p1.L.length 3) p1), (hv 2), (or_ e_dossierref03_File p1.L), (hv 4), (hv 5), (hv 6), (hv 7), (hv 8), (hv 9), (hv 10), (hv 11), (hv 12)]⟩
     refine AWops.guard_yes rfl (nl rfl) rfl (by rw [c4] <;> rfl) ?_
     refine cc [1, 3] [(hv 0), (o_dossierref03_Disk_0 false (C.own 3 0 p1.L.length 3) p1), (hv 2), (or_ e_dossierref03_File p1.L), (hv 4), (hv 5), (hv 6), (hv 7), (hv 8), (hv 9), (hv 10), (hv 11), (hv 12)] (si r6) F.ca_55 rfl rfl (ac (.one (.ref rfl)) an) (ac (.cells (ac (.own rfl) (ac .sc (ac .sc (ac .sc an))))) (ac (.cells (lend_row _)) an)) (dossierref03_Disk_Used.meets _ p1 r6 er6) k
    ·intro K rest fr hv htk k
     refine s_pick_no (d := (sb (r5 != r6))) rfl (by rw [c4] <;> rfl) rfl k
    ·intro K rest fr hv htk k
     refine AWops.guard_yes rfl (nl rfl) rfl c7 ?_
     refine cc [0, 2, 10] [(o_vdisk_Disk_03 false (C.mp 2) (C.opt p0.fuse.isSome 13 0) p0), (hv 1), (om_ e_vdisk_file p0.files), (hv 3), (hv 4), (hv 5), (hv 6), (hv 7), (hv 8), (hv 9), none, (hv 11), (hv 12), (some (AObj.cells false [(ci (p0.fuse.getD default))]))] (sb r8) F.ca_56 rfl rfl (ac (.one (.ref rfl)) an) (ac (.cells (ac (.mp rfl) (ac .sc (ac .sc (ac (.opt rfl) (ac .sc an)))))) (ac .map (ac (.cells (ac .sc an)) an))) (vdisk_Disk_Dead.meets _ p0 r8 er8) ?_
     refine AWops.weak (wD 5 (12, 1) 13 [0, 1, 2, 3, 4, 5, 6, 7, 8, 9, 10, 11, 13] [] (htk (12, 1) rfl)) k
    ·intro K rest fr hv htk k
     refine AWops.guard_yes rfl (nl rfl) rfl c7 ?_
     refine s_binB (b := (!(r8 == p1.Off))) F.u_4 rfl rfl (.inr ⟨rfl, rfl⟩) k
    ·intro K rest fr hv htk k
     refine s_pick_no (d := (sb (!(r8 == p1.Off)))) rfl c7 rfl k
   ·refine AWops.weak (st' := ⟨66, (upd 66 (upd 66 (upd 66 topF 0 (rf 0 0)) 1 (rf 1 0)) 32 (sb (!(r8 == p1.Off)))), [(o_vdisk_Disk_03 false (C.mp 2) (C.opt p0.fuse.isSome 5 0) p0), (o_dossierref03_Disk_0 false (C.own 3 0 p1.L.length 3) p1), (om_ e_vdisk_file p0.files), (or_ e_dossierref03_File p1.L), none, (some (AObj.cells false [(ci (p0.fuse.getD default))]))]⟩) (wG 5 [0, 1, 2, 3, 4, 12] []) (AWops.nil ?_)
    rcases itH h with ⟨c9, h⟩ | ⟨c9, h⟩
    ·refine AW.cond_no rfl (by rw [c9] <;> rfl) (AW.skip (AW.seq (AW.seq (AW.region ?_))))
     refine s_move (d := (rf 1 0)) rfl (s_nilCheck (d := (rf 1 0)) rfl (.inl ⟨_, _, rfl⟩) (s_fieldRef F.fo_52_0 (by decide) rfl (s_load1 (c' := (C.own 3 0 p1.L.length 3)) F.ag_50 rfl rfl (s_len (n := p1.L.length) F.u_50 rfl (.inr ⟨(fun _ _ h => by cases h), ⟨_, rfl⟩⟩) (s_move (d := (si 0)) rfl (AWops.nil (AW.block ?_)))))))
     refine AW.loopw (st0 := ⟨66, (upd 66 (upd 66 (upd 66 (upd 66 (upd 66 topF 0 (rf 0 0)) 1 (rf 1 0)) 36 (D.one (C.own 3 0 p1.L.length 3))) 37 (si (p1.L.length : Int))) 38 (si 0)), [(o_vdisk_Disk_03 false (C.mp 2) (C.opt p0.fuse.isSome 5 0) p0), (o_dossierref03_Disk_0 false (C.own 3 0 p1.L.length 3) p1), (om_ e_vdisk_file p0.files), (or_ e_dossierref03_File p1.L), none, (some (AObj.cells false [(ci (p0.fuse.getD default))]))]⟩) (fun kv st => kv ≤ k ∧ ∃ (x10 : Int), dossierplain_Same.l0 kv x10 p0 p1 = some r ∧ st = ⟨66, (upd 66 (upd 66 (upd 66 (upd 66 (upd 66 topF 0 (rf 0 0)) 1 (rf 1 0)) 36 (D.one (C.own 3 0 p1.L.length 3))) 37 (si (p1.L.length : Int))) 38 (si x10)), [(o_vdisk_Disk_03 false (C.mp 2) (C.opt p0.fuse.isSome 5 0) p0), (o_dossierref03_Disk_0 false (C.own 3 0 p1.L.length 3) p1), (om_ e_vdisk_file p0.files), (or_ e_dossierref03_File p1.L), none, (some (AObj.cells false [(ci (p0.fuse.getD default))]))]⟩) (k := k) (wG 5 [0, 1, 2, 3, 4, 5] []) ⟨Nat.le_refl _, 0, h, rfl⟩ ?_
     rintro ql0 st ⟨hkl0, x10, h, rfl⟩
     cases ql0 with
     | zero => exact absurd h (by simp [dossierplain_Same.l0])
     | succ ql0 =>
      replace h := (dossierplain_Same.l0.eq_2 _ _ _ _).symm.trans h
      refine AW.seq (AW.region ?_)
      refine s_binI (v := (.bool (decide (x10 < (p1.L.length : Int))))) rfl rfl rfl (AWops.nil (AW.seq ?_))
      rcases itH h with ⟨c11, h⟩ | ⟨c11, h⟩
      ·refine AW.cond_yes rfl c11 (AW.skip (AW.seq (AW.block (AW.seq (AW.region ?_)))))
       obtain ⟨v12, ev12, h⟩ := bnd h
       obtain ⟨pv12, qv12, gv12⟩ := rd_some ev12
       refine s_indexOwn (d := (D.one (C.er 3 (0 + x10.toNat * 3)))) F.u_50 F.sz_90 rfl rfl pv12 qv12 rfl ?_
       obtain ⟨R13, hR13⟩ := row_at (f := e_dossierref03_File) (sz := 3) (o := 0) e_dossierref03_File_len gv12 (e_dossierref03_File_eq v12) (by decide)
       refine s_loadN (ds := (c_dossierref03_File v12)) F.ag_90 F.sz_90 (congrArg some hR13) rfl rfl (s_alloc (cs := [(ct (⟨#[]⟩ : ByteArray)), (C.p true (.v (.slice none 0 0))), (ci 0)]) F.z_90 rfl rfl (s_store (cs' := (c_dossierref03_File v12)) rfl rfl rfl (List.cons_ne_nil _ _) rfl F.sz_90 (nl rfl) rfl (AWops.nil (AW.seq (AW.region (s_move (d := (rf 0 0)) rfl (s_fieldRef F.fo_90_0 (by decide) rfl (s_load1 (c' := (ct v12.Name)) F.ag_9 rfl rfl ?_))))))))
       obtain ⟨r14, er14, h⟩ := bnd h
       refine cc [0, 2, 5] [(o_vdisk_Disk_03 false (C.mp 2) (C.opt p0.fuse.isSome 7 0) p0), (o_dossierref03_Disk_0 false (C.own 3 0 p1.L.length 3) p1), (om_ e_vdisk_file p0.files), (or_ e_dossierref03_File p1.L), none, none, (some (AObj.cells true (c_dossierref03_File v12))), (some (AObj.cells false [(ci (p0.fuse.getD default))]))] (D.tup [(D.one (C.p false (.sl r14.1.length (r14.1.flatMap e_u8)))), (si r14.2)]) F.ca_24 rfl rfl (ac (.one (.ref rfl)) (ac (.one .sc) an)) (ac (.cells (ac (.mp rfl) (ac .sc (ac .sc (ac (.opt rfl) (ac .sc an)))))) (ac .map (ac (.cells (ac .sc an)) an))) (vdisk_Disk_Read.meets _ p0 v12.Name r14 er14) (s_move (d := (D.tup [(D.one (C.p false (.sl r14.1.length (r14.1.flatMap e_u8)))), (si r14.2)])) rfl (s_extract (d := (D.one (C.p false (.sl r14.1.length (r14.1.flatMap e_u8))))) rfl rfl (s_extract (d := (si r14.2)) rfl rfl (s_assign (d := (D.one (C.p false (.sl r14.1.length (r14.1.flatMap e_u8))))) rfl (s_assign (d := (si r14.2)) rfl (AWops.nil (AW.seq (AW.region ?_))))))))
       refine s_move (d := (rf 1 0)) rfl (s_fieldRef F.fo_90_0 (by decide) rfl (s_load1 (c' := (ct v12.Name)) F.ag_9 rfl rfl ?_))
       obtain ⟨r15, er15, h⟩ := bnd h
       refine cc [1, 3] [(o_vdisk_Disk_03 false (C.mp 2) (C.opt p0.fuse.isSome 7 0) p0), (o_dossierref03_Disk_0 false (C.own 3 0 p1.L.length 3) p1), (om_ e_vdisk_file p0.files), (or_ e_dossierref03_File p1.L), none, none, (some (AObj.cells true (c_dossierref03_File v12))), (some (AObj.cells false [(ci (p0.fuse.getD default))]))] (D.tup [(D.one (C.p false (.sl r15.1.length (r15.1.flatMap e_u8)))), (si r15.2)]) F.ca_28 rfl rfl (ac (.one (.ref rfl)) (ac (.one .sc) an)) (ac (.cells (ac (.own rfl) (ac .sc (ac .sc (ac .sc an))))) (ac (.cells (lend_row _)) an)) (dossierref03_Disk_Read.meets _ p1 v12.Name r15 er15) (s_move (d := (D.tup [(D.one (C.p false (.sl r15.1.length (r15.1.flatMap e_u8)))), (si r15.2)])) rfl (s_extract (d := (D.one (C.p false (.sl r15.1.length (r15.1.flatMap e_u8))))) rfl rfl (s_extract (d := (si r15.2)) rfl rfl (s_assign (d := (D.one (C.p false (.sl r15.1.length (r15.1.flatMap e_u8))))) rfl (s_assign (d := (si r15.2)) rfl (AWops.nil (AW.seq (AW.region ?_))))))))
       refine s_move (d := (si r14.2)) rfl (s_move (d := (si r15.2)) rfl (s_binI (v := (.bool (r14.2 != r15.2))) rfl rfl rfl (s_move (d := (sb (r14.2 != r15.2))) rfl ?_)))
       rcases itH h with ⟨c16, h⟩ | ⟨c16, h⟩
       ·iterate 4 refine AWops.guard_no rfl (nl rfl) rfl c16 ?_
        refine s_pick_yes (d := (sb true)) rfl c16 rfl (AWops.nil ?_)
        refine AW.cond_yes rfl rfl (AW.seq (AW.region ?_))
        refine s_assign (d := (sb false)) rfl (AWops.nil (AW.ret ?_))
        obtain rfl := Option.some.inj h
        exact ⟨_, rfl, (wG 5 [0, 1, 2, 3, 4, 7] [])⟩
       ·refine AWops.guard_yes rfl (nl rfl) rfl c16 ?_
        refine s_move (d := (D.one (C.p false (.sl r14.1.length (r14.1.flatMap e_u8))))) rfl ?_
        refine AWops.guard_yes rfl (nl rfl) rfl c16 ?_
        refine s_move (d := (D.one (C.p false (.sl r15.1.length (r15.1.flatMap e_u8))))) rfl ?_
        refine AWops.guard_yes rfl (nl rfl) rfl c16 ?_
        obtain ⟨r17, er17, h⟩ := bnd h
        refine cc [] [(o_vdisk_Disk_03 false (C.mp 2) (C.opt p0.fuse.isSome 7 0) p0), (o_dossierref03_Disk_0 false (C.own 3 0 p1.L.length 3) p1), (om_ e_vdisk_file p0.files), (or_ e_dossierref03_File p1.L), none, none, (some (AObj.cells true (c_dossierref03_File v12))), (some (AObj.cells false [(ci (p0.fuse.getD default))]))] (sb r17) F.ca_18 rfl rfl (ac (.one .imm) (ac (.one .imm) an)) an (bytes_Equal.meets _ r14.1 r15.1 r17 er17) ?_
        refine AWops.guard_yes rfl (nl rfl) rfl c16 ?_
        refine s_not rfl (s_pick_no (d := (sb (!r17))) rfl c16 rfl (AWops.nil ?_))
        rcases itH h with ⟨c18, h⟩ | ⟨c18, h⟩
        ·refine AW.cond_no rfl (by rw [c18] <;> rfl) (AW.skip (AW.region ?_))
         refine s_binI (v := (.int .i64 (IntKind.i64.wrap (x10 + 1)))) rfl rfl rfl (s_move (d := (si (IntKind.i64.wrap (x10 + 1)))) rfl (AWops.nil ?_))
         exact ⟨_, ⟨66, (upd 66 (upd 66 (upd 66 (upd 66 (upd 66 topF 0 (rf 0 0)) 1 (rf 1 0)) 36 (D.one (C.own 3 0 p1.L.length 3))) 37 (si (p1.L.length : Int))) 38 (si (IntKind.i64.wrap (x10 + 1)))), [(o_vdisk_Disk_03 false (C.mp 2) (C.opt p0.fuse.isSome 5 0) p0), (o_dossierref03_Disk_0 false (C.own 3 0 p1.L.length 3) p1), (om_ e_vdisk_file p0.files), (or_ e_dossierref03_File p1.L), none, (some (AObj.cells false [(ci (p0.fuse.getD default))]))]⟩, by omega, (wG 5 [0, 1, 2, 3, 4, 7] []), by omega, IntKind.i64.wrap (x10 + 1), h, rfl⟩
        ·refine AW.cond_yes rfl (by rw [c18] <;> rfl) (AW.seq (AW.region ?_))
         refine s_assign (d := (sb false)) rfl (AWops.nil (AW.ret ?_))
         obtain rfl := Option.some.inj h
         exact ⟨_, rfl, (wG 5 [0, 1, 2, 3, 4, 7] [])⟩
      ·refine AW.cond_no rfl c11 (AW.exit (AW.seq (AW.region ?_)))
       refine s_assign (d := (sb true)) rfl (AWops.nil (AW.ret ?_))
       obtain rfl := Option.some.inj h
       exact ⟨_, rfl, (wG 5 [0, 1, 2, 3, 4, 5] [])⟩
    ·refine AW.cond_yes rfl (by rw [c9] <;> rfl) (AW.seq (AW.region ?_))
     refine s_assign (d := (sb false)) rfl (AWops.nil (AW.ret ?_))
     obtain rfl := Option.some.inj h
     exact ⟨_, rfl, (wG 5 [0, 1, 2, 3, 4, 5] [])⟩
 ·refine AW.draw2 13 [kf 11 (rf 0 0) [0], ⟨some 12, (D.one (C.own 7 0 r1.length 1)), [11], [0, 2, 5], [(0, (o_vdisk_Disk_03 false (C.mp 2) (C.opt p0.fuse.isSome 6 0) p0)), (5, none), (6, (some (AObj.cells false [(ci (p0.fuse.getD default))]))), (7, (ow_ e_str r1))], some (6, 2)⟩, kf 13 (rf 1 0) [1], ⟨some 14, (D.one (C.own 8 0 r2.length 1)), [13], [1, 3], [(8, (ow_ e_str r2))], some (8, 1)⟩, ⟨some 15, (sb r3), [12, 14], [7, 8], [], none⟩, kf 16 (sb (!r3)) [15], kf 17 (sb (!r3)) [16], kf 18 (D.tup []) [0, 17], kf 19 (D.tup []) [17], kf 20 (D.tup []) [17], kf 21 (D.tup []) [17], kf 22 (D.tup []) [17], kf 23 (sb true) [17], kf 24 (sb true) [23], kf 25 (D.tup []) [24], kf 26 (D.tup []) [24], kf 27 (D.tup []) [24], kf 28 (D.tup []) [24], kf 29 (D.tup []) [24], kf 30 (D.tup []) [24], kf 31 (D.tup []) [24], kf 32 (sb true) [24]] ⟨?_, ?_⟩
  ·refine (pA (pC ?_ (pA (pC ?_ (pC ?_ (pA (pA (pN c4 (pN c4 (pN c4 (pN c4 (pN c4 (pC ?_ (pA (pA (pA (pA (pA (pA (pA (pA (pC ?_ AllStep.nil'))))))))))))))))))))))
   ·intro K rest fr hv htk k
    show AWops _ x _ _ K ⟨66, (upd 66 fr 11 (rf 0 0)), [(o_vdisk_Disk_03 false (C.mp 2) (C.opt p0.fuse.isSome 5 0) p0), (hv 1), (om_ e_vdisk_file p0.files), (hv 3), (hv 4), (some (AObj.cells false [(ci (p0.fuse.getD default))])), (hv 6), (hv 7), (hv 8), (hv 9), (hv 10), (hv 11), (hv 12)]⟩
    refine cc [0, 2, 5] [(o_vdisk_Disk_03 false (C.mp 2) (C.opt p0.fuse.isSome 13 0) p0), (hv 1), (om_ e_vdisk_file p0.files), (hv 3), (hv 4), none, (hv 6), (hv 7), (hv 8), (hv 9), (hv 10), (hv 11), (hv 12), (some (AObj.cells false [(ci (p0.fuse.getD default))])), (ow_ e_str r1)] (D.one (C.own 14 0 r1.length 1)) F.ca_52 rfl rfl (ac (.one (.ref rfl)) an) (ac (.cells (ac (.mp rfl) (ac .sc (ac .sc (ac (.opt rfl) (ac .sc an)))))) (ac .map (ac (.cells (ac .sc an)) an))) (vdisk_Disk_Names.meets _ p0 r1 er1) ?_
    refine AWops.weak (wD 5 (6, 2) 13 [0, 1, 2, 3, 4, 5, 13, 14, 8, 9, 10, 11, 12] [] (htk (6, 2) rfl)) k
   ·intro K rest fr hv htk k
    show AWops _ x _ _ K ⟨66, (upd 66 fr 13 (rf 1 0)), [(hv 0), (o_dossierref03_Disk_0 false (C.own 3 0 p1.L.length 3) p1), (hv 2), (or_ e_dossierref03_File p1.L), (hv 4), (hv 5), (hv 6), (hv 7), (hv 8), (hv 9), (hv 10), (hv 11), (hv 12)]⟩
    refine cc [1, 3] [(hv 0), (o_dossierref03_Disk_0 false (C.own 3 0 p1.L.length 3) p1), (hv 2), (or_ e_dossierref03_File p1.L), (hv 4), (hv 5), (hv 6), (hv 7), (hv 8), (hv 9), (hv 10), (hv 11), (hv 12), (ow_ e_str r2)] (D.one (C.own 13 0 r2.length 1)) F.ca_53 rfl rfl (ac (.one (.ref rfl)) an) (ac (.cells (ac (.own rfl) (ac .sc (ac .sc (ac .sc an))))) (ac (.cells (lend_row _)) an)) (dossierref03_Disk_Names.meets _ p1 r2 er2) ?_
    refine AWops.weak (wD 5 (8, 1) 13 [0, 1, 2, 3, 4, 5, 6, 7, 13, 9, 10, 11, 12] [] (htk (8, 1) rfl)) k
   ·intro K rest fr hv htk k
    refine s_call2 (ρ := []) (br := true) (H2 := [(hv 0), (hv 1), (hv 2), (hv 3), (hv 4), (hv 5), (hv 6), (ow_ e_str r1), (ow_ e_str r2), (hv 9), (hv 10), (hv 11), (hv 12)]) (d := (sb r3)) F.ca_51 rfl rfl (ac (.one (LendC.bor e_str_len rfl rfl rfl)) (ac (.one (LendC.bor e_str_len rfl rfl rfl)) an)) an (by decide) rfl (slices_Equal_string_string.meets _ r1 r2 r3 er3) (.inr ⟨rfl, rfl⟩) rfl rfl k
   ·intro K rest fr hv htk k
    refine s_pick_yes (d := (sb true)) rfl (by rw [c4] <;> rfl) rfl k
   ·intro K rest fr hv htk k
    refine s_pick_yes (d := (sb true)) rfl rfl rfl k
  ·refine AWops.weak (st' := ⟨66, (upd 66 (upd 66 (upd 66 topF 0 (rf 0 0)) 1 (rf 1 0)) 32 (sb true)), [(o_vdisk_Disk_03 false (C.mp 2) (C.opt p0.fuse.isSome 5 0) p0), (o_dossierref03_Disk_0 false (C.own 3 0 p1.L.length 3) p1), (om_ e_vdisk_file p0.files), (or_ e_dossierref03_File p1.L), none, (some (AObj.cells false [(ci (p0.fuse.getD default))]))]⟩) (wG 5 [0, 1, 2, 3, 4, 6] []) (AWops.nil ?_)
   refine AW.cond_yes rfl rfl (AW.seq (AW.region ?_))
   refine s_assign (d := (sb false)) rfl (AWops.nil (AW.ret ?_))
   obtain rfl := Option.some.inj h
   exact ⟨_, rfl, (wG 5 [0, 1, 2, 3, 4, 5] [])⟩
def journal_Journal_Snapshot.f (k : Nat) (p0 : journal_Journal) (p1 : vdisk_Disk) : Option (List Int) := (journal_Journal_none.f k p0 p1).bind fun r1 => (slices_Clone_byte_byte.f k p0.snap).bind fun r2 => some r2
theorem journal_Journal_Snapshot.meets (k : Nat) (p0 : journal_Journal) (p1 : vdisk_Disk) (r : (List Int)) (h : journal_Journal_Snapshot.f k p0 p1 = some r) : Meets Try.prog 19 [(rf 0 0)] [(o_journal_Journal_02 false (C.ref 1 0) (C.own 2 0 p0.l.length 1) p0), (o_vdisk_Disk_03 false (C.mp 3) (C.opt p1.fuse.isSome 4 0) p1), (some (AObj.cells false (rowC (e_sl e_u8) p0.l))), (om_ e_vdisk_file p1.files), (some (AObj.cells false [(ci (p1.fuse.getD default))]))] (D.one (C.own 6 0 r.length 1)) [(o_journal_Journal_02 false (C.ref 1 0) (C.own 2 0 p0.l.length 1) p0), (o_vdisk_Disk_03 false (C.mp 3) (C.opt p1.fuse.isSome 5 0) p1), (some (AObj.cells false (rowC (e_sl e_u8) p0.l))), (om_ e_vdisk_file p1.files), none, (some (AObj.cells false [(ci (p1.fuse.getD default))])), (ow_ e_u8 r)] := by
 unfold journal_Journal_Snapshot.f at h
 refine Meets.of_body (n := 10) Try.func19 rfl rfl (nl rfl) fun x hx => ?_
 replace hx : x.k = 5 := hx
 show AW _ x _ _ ⟨10, fr0 [(rf 0 0)], [(o_journal_Journal_02 false (C.ref 1 0) (C.own 2 0 p0.l.length 1) p0), (o_vdisk_Disk_03 false (C.mp 3) (C.opt p1.fuse.isSome 4 0) p1), (some (AObj.cells false (rowC (e_sl e_u8) p0.l))), (om_ e_vdisk_file p1.files), (some (AObj.cells false [(ci (p1.fuse.getD default))]))]⟩
 refine AW.weak (st' := ⟨10, (upd 10 topF 0 (rf 0 0)), [(o_journal_Journal_02 false (C.ref 1 0) (C.own 2 0 p0.l.length 1) p0), (o_vdisk_Disk_03 false (C.mp 3) (C.opt p1.fuse.isSome 5 0) p1), (some (AObj.cells false (rowC (e_sl e_u8) p0.l))), (om_ e_vdisk_file p1.files), none, (some (AObj.cells false [(ci (p1.fuse.getD default))]))]⟩) (Weak.genL (kk := 5) [0, 1, 2, 3, 4, 4] [] hx rfl (by decide) rfl rfl rfl rfl (le_upd (le_top _) (o1 (.ref rfl))) (ac (.cells id (ac (.ref rfl) (ac .same (ac (.own rfl) (ac .sc an))))) (ac (.cells id (ac (.mp rfl) (ac .sc (ac .sc (ac (.opt rfl) (ac .sc an)))))) (ac (.cells id (all2_row _)) (ac .map (ac (.none _) (ac (.cells id (ac .sc an)) an))))))) (AW.seq (AW.region ?_))
 refine s_assign (d := (sc (.slice none 0 0))) rfl (AWops.nil (AW.seq (AW.seq (AW.region ?_))))
 refine s_move (d := (rf 0 0)) rfl ?_
 obtain ⟨r1, er1, h⟩ := bnd h
 have kr1 := journal_Journal_none.const er1
 subst kr1
 refine cc [0, 1, 2, 3, 5] [(o_journal_Journal_02 false (C.ref 1 0) (C.own 2 0 p0.l.length 1) p0), (o_vdisk_Disk_03 false (C.mp 3) (C.opt p1.fuse.isSome 6 0) p1), (some (AObj.cells false (rowC (e_sl e_u8) p0.l))), (om_ e_vdisk_file p1.files), none, none, (some (AObj.cells false [(ci (p1.fuse.getD default))]))] (sb false) F.ca_57 rfl rfl (ac (.one (.ref rfl)) an) (ac (.cells (ac (.ref rfl) (ac .imm (ac (.own rfl) (ac .sc an))))) (ac (.cells (ac (.mp rfl) (ac .sc (ac .sc (ac (.opt rfl) (ac .sc an)))))) (ac (.cells (lend_row _)) (ac .map (ac (.cells (ac .sc an)) an))))) (journal_Journal_none.meets _ p0 p1 false er1) (AWops.nil ?_)
 refine AW.cond_no rfl rfl (AW.skip (AW.seq (AW.region ?_)))
 refine s_move (d := (rf 0 0)) rfl (s_nilCheck (d := (rf 0 0)) rfl (.inl ⟨_, _, rfl⟩) (s_fieldRef F.fo_68_1 (by decide) rfl (s_load1 (c' := (C.p false (.sl p0.snap.length (p0.snap.flatMap e_u8)))) F.ag_22 rfl rfl ?_)))
 obtain ⟨r2, er2, h⟩ := bnd h
 refine cc [] [(o_journal_Journal_02 false (C.ref 1 0) (C.own 2 0 p0.l.length 1) p0), (o_vdisk_Disk_03 false (C.mp 3) (C.opt p1.fuse.isSome 6 0) p1), (some (AObj.cells false (rowC (e_sl e_u8) p0.l))), (om_ e_vdisk_file p1.files), none, none, (some (AObj.cells false [(ci (p1.fuse.getD default))])), (ow_ e_u8 r2)] (D.one (C.own 7 0 r2.length 1)) F.ca_27 rfl rfl (ac (.one .imm) an) an (slices_Clone_byte_byte.meets _ p0.snap r2 er2) (s_assign (d := (D.one (C.own 7 0 r2.length 1))) rfl (AWops.nil (AW.ret ?_)))
 obtain rfl := Option.some.inj h
 exact ⟨_, rfl, (wG 5 [0, 1, 2, 3, 4, 6, 7] [])⟩
mutual
def journal_Journal_Records.l0 : Nat → (List (List Int)) → Int → journal_Journal → Option (List (List Int))
 | 0, _, _, _ => none
 | k + 1, x2, x3, p0 => if (decide (x3 < (p0.l.length : Int))) = true then ((rd p0.l x3).bind fun v5 => (slices_Clone_byte_byte.f k v5).bind fun r7 => if (decide (x2.length + ([r7] : List (List Int)).length ≤ 5864062014805)) = true then (journal_Journal_Records.l0 k (x2 ++ ([r7] : List (List Int))) (IntKind.i64.wrap (x3 + 1)) p0) else none) else (some x2)
end
def journal_Journal_Records.f (k : Nat) (p0 : journal_Journal) (p1 : vdisk_Disk) : Option (List (List Int)) := (journal_Journal_none.f k p0 p1).bind fun r1 => journal_Journal_Records.l0 k ([] : List (List Int)) 0 p0
theorem journal_Journal_Records.meets (k : Nat) (p0 : journal_Journal) (p1 : vdisk_Disk) (r : (List (List Int))) (h : journal_Journal_Records.f k p0 p1 = some r) : Meets Try.prog 21 [(rf 0 0)] [(o_journal_Journal_02 false (C.ref 1 0) (C.own 2 0 p0.l.length 1) p0), (o_vdisk_Disk_03 false (C.mp 3) (C.opt p1.fuse.isSome 4 0) p1), (some (AObj.cells false (rowC (e_sl e_u8) p0.l))), (om_ e_vdisk_file p1.files), (some (AObj.cells false [(ci (p1.fuse.getD default))]))] (D.one (C.own 6 0 r.length 1)) [(o_journal_Journal_02 false (C.ref 1 0) (C.own 2 0 p0.l.length 1) p0), (o_vdisk_Disk_03 false (C.mp 3) (C.opt p1.fuse.isSome 5 0) p1), (some (AObj.cells false (rowC (e_sl e_u8) p0.l))), (om_ e_vdisk_file p1.files), none, (some (AObj.cells false [(ci (p1.fuse.getD default))])), (some (AObj.cells true (rowC (e_sl e_u8) r)))] := by
 unfold journal_Journal_Records.f at h
 refine Meets.of_body (n := 24) Try.func21 rfl rfl (nl rfl) fun x hx => ?_
 replace hx : x.k = 5 := hx
 show AW _ x _ _ ⟨24, fr0 [(rf 0 0)], [(o_journal_Journal_02 false (C.ref 1 0) (C.own 2 0 p0.l.length 1) p0), (o_vdisk_Disk_03 false (C.mp 3) (C.opt p1.fuse.isSome 4 0) p1), (some (AObj.cells false (rowC (e_sl e_u8) p0.l))), (om_ e_vdisk_file p1.files), (some (AObj.cells false [(ci (p1.fuse.getD default))]))]⟩
 refine AW.weak (st' := ⟨24, (upd 24 topF 0 (rf 0 0)), [(o_journal_Journal_02 false (C.ref 1 0) (C.own 2 0 p0.l.length 1) p0), (o_vdisk_Disk_03 false (C.mp 3) (C.opt p1.fuse.isSome 5 0) p1), (some (AObj.cells false (rowC (e_sl e_u8) p0.l))), (om_ e_vdisk_file p1.files), none, (some (AObj.cells false [(ci (p1.fuse.getD default))]))]⟩) (Weak.genL (kk := 5) [0, 1, 2, 3, 4, 4] [] hx rfl (by decide) rfl rfl rfl rfl (le_upd (le_top _) (o1 (.ref rfl))) (ac (.cells id (ac (.ref rfl) (ac .same (ac (.own rfl) (ac .sc an))))) (ac (.cells id (ac (.mp rfl) (ac .sc (ac .sc (ac (.opt rfl) (ac .sc an)))))) (ac (.cells id (all2_row _)) (ac .map (ac (.none _) (ac (.cells id (ac .sc an)) an))))))) (AW.seq (AW.region ?_))
 refine s_assign (d := (sc (.slice none 0 0))) rfl (AWops.nil (AW.seq (AW.seq (AW.region ?_))))
 refine s_move (d := (rf 0 0)) rfl ?_
 obtain ⟨r1, er1, h⟩ := bnd h
 have kr1 := journal_Journal_none.const er1
 subst kr1
 refine cc [0, 1, 2, 3, 5] [(o_journal_Journal_02 false (C.ref 1 0) (C.own 2 0 p0.l.length 1) p0), (o_vdisk_Disk_03 false (C.mp 3) (C.opt p1.fuse.isSome 6 0) p1), (some (AObj.cells false (rowC (e_sl e_u8) p0.l))), (om_ e_vdisk_file p1.files), none, none, (some (AObj.cells false [(ci (p1.fuse.getD default))]))] (sb false) F.ca_57 rfl rfl (ac (.one (.ref rfl)) an) (ac (.cells (ac (.ref rfl) (ac .imm (ac (.own rfl) (ac .sc an))))) (ac (.cells (ac (.mp rfl) (ac .sc (ac .sc (ac (.opt rfl) (ac .sc an)))))) (ac (.cells (lend_row _)) (ac .map (ac (.cells (ac .sc an)) an))))) (journal_Journal_none.meets _ p0 p1 false er1) (AWops.nil ?_)
 refine AW.cond_no rfl rfl (AW.skip (AW.seq (AW.region ?_)))
 refine s_assign (d := (sc (.slice none 0 0))) rfl (AWops.nil (AW.seq (AW.seq (AW.region ?_))))
 refine s_move (d := (rf 0 0)) rfl (s_nilCheck (d := (rf 0 0)) rfl (.inl ⟨_, _, rfl⟩) (s_fieldRef F.fo_68_2 (by decide) rfl (s_load1 (c' := (C.own 2 0 p0.l.length 1)) F.ag_61 rfl rfl (s_len (n := p0.l.length) F.u_61 rfl (.inr ⟨(fun _ _ h => by cases h), ⟨_, rfl⟩⟩) (s_move (d := (si 0)) rfl (AWops.nil (AW.block ?_)))))))
 refine AW.loopw (st0 := ⟨24, (upd 24 (upd 24 (upd 24 (upd 24 topF 3 (D.one (C.own 5 0 ([] : List (List Int)).length 1))) 11 (D.one (C.own 2 0 p0.l.length 1))) 12 (si (p0.l.length : Int))) 13 (si 0)), [(o_journal_Journal_02 false (C.ref 1 0) (C.own 2 0 p0.l.length 1) p0), (o_vdisk_Disk_03 false (C.mp 3) (C.opt p1.fuse.isSome 6 0) p1), (some (AObj.cells false (rowC (e_sl e_u8) p0.l))), (om_ e_vdisk_file p1.files), none, (some (AObj.cells true (rowC (e_sl e_u8) ([] : List (List Int))))), (some (AObj.cells false [(ci (p1.fuse.getD default))]))]⟩) (fun kv st => kv ≤ k ∧ ∃ (x2 : List (List Int)) (x3 : Int), journal_Journal_Records.l0 kv x2 x3 p0 = some r ∧ st = ⟨24, (upd 24 (upd 24 (upd 24 (upd 24 topF 3 (D.one (C.own 5 0 x2.length 1))) 11 (D.one (C.own 2 0 p0.l.length 1))) 12 (si (p0.l.length : Int))) 13 (si x3)), [(o_journal_Journal_02 false (C.ref 1 0) (C.own 2 0 p0.l.length 1) p0), (o_vdisk_Disk_03 false (C.mp 3) (C.opt p1.fuse.isSome 6 0) p1), (some (AObj.cells false (rowC (e_sl e_u8) p0.l))), (om_ e_vdisk_file p1.files), none, (some (AObj.cells true (rowC (e_sl e_u8) x2))), (some (AObj.cells false [(ci (p1.fuse.getD default))]))]⟩) (k := k) (Weak.trans (Weak.nil (sz := 1) (i := 3) rfl) (wG 5 [0, 1, 2, 3, 4, 7, 6] [])) ⟨Nat.le_refl _, ([] : List (List Int)), 0, h, rfl⟩ ?_
 rintro ql0 st ⟨hkl0, x2, x3, h, rfl⟩
 cases ql0 with
 | zero => exact absurd h (by simp [journal_Journal_Records.l0])
 | succ ql0 =>
  replace h := (journal_Journal_Records.l0.eq_2 _ _ _ _).symm.trans h
  refine AW.seq (AW.region ?_)
  refine s_binI (v := (.bool (decide (x3 < (p0.l.length : Int))))) rfl rfl rfl (AWops.nil (AW.seq ?_))
  rcases itH h with ⟨c4, h⟩ | ⟨c4, h⟩
  ·refine AW.cond_yes rfl c4 (AW.skip (AW.seq (AW.block (AW.seq (AW.region ?_)))))
   obtain ⟨v5, ev5, h⟩ := bnd h
   obtain ⟨pv5, qv5, gv5⟩ := rd_some ev5
   refine s_indexOwn (d := (D.one (C.er 2 (0 + x3.toNat * 1)))) F.u_61 F.sz_22 rfl rfl pv5 qv5 rfl ?_
   obtain ⟨R6, hR6⟩ := row_at (f := (e_sl e_u8)) (sz := 1) (o := 0) (e_sl_len _) gv5 (e_sl_eq _ v5) (by decide)
   refine s_load1 (c' := (C.p false (.sl v5.length (v5.flatMap e_u8)))) F.ag_22 (congrArg some hR6) rfl (s_assign (d := (D.one (C.p false (.sl v5.length (v5.flatMap e_u8))))) rfl (AWops.nil (AW.region (s_move (d := (D.one (C.own 5 0 x2.length 1))) rfl (s_move (d := (D.one (C.p false (.sl v5.length (v5.flatMap e_u8))))) rfl ?_)))))
   obtain ⟨r7, er7, h⟩ := bnd h
   refine cc [] [(o_journal_Journal_02 false (C.ref 1 0) (C.own 2 0 p0.l.length 1) p0), (o_vdisk_Disk_03 false (C.mp 3) (C.opt p1.fuse.isSome 6 0) p1), (some (AObj.cells false (rowC (e_sl e_u8) p0.l))), (om_ e_vdisk_file p1.files), none, (some (AObj.cells true (rowC (e_sl e_u8) x2))), (some (AObj.cells false [(ci (p1.fuse.getD default))])), (ow_ e_u8 r7)] (D.one (C.own 7 0 r7.length 1)) F.ca_27 rfl rfl (ac (.one .imm) an) an (slices_Clone_byte_byte.meets _ v5 r7 er7) ?_
   refine AWops.weak (st' := ⟨24, (upd 24 (upd 24 (upd 24 (upd 24 (upd 24 (upd 24 (upd 24 (upd 24 (upd 24 (upd 24 (upd 24 topF 3 (D.one (C.own 5 0 x2.length 1))) 5 (D.one (C.p false (.sl v5.length (v5.flatMap e_u8))))) 11 (D.one (C.own 2 0 p0.l.length 1))) 12 (si (p0.l.length : Int))) 13 (si x3)) 14 (sb (decide (x3 < (p0.l.length : Int))))) 15 (D.one (C.er 2 (0 + x3.toNat * 1)))) 16 (D.one (C.p false (.sl v5.length (v5.flatMap e_u8))))) 17 (D.one (C.own 5 0 x2.length 1))) 18 (D.one (C.p false (.sl v5.length (v5.flatMap e_u8))))) 19 (D.one (C.p false (.sl r7.length (r7.flatMap e_u8))))), [(o_journal_Journal_02 false (C.ref 1 0) (C.own 2 0 p0.l.length 1) p0), (o_vdisk_Disk_03 false (C.mp 3) (C.opt p1.fuse.isSome 6 0) p1), (some (AObj.cells false (rowC (e_sl e_u8) p0.l))), (om_ e_vdisk_file p1.files), none, (some (AObj.cells true (rowC (e_sl e_u8) x2))), (some (AObj.cells false [(ci (p1.fuse.getD default))]))]⟩) (wG 5 [0, 1, 2, 3, 4, 5, 6] [7]) ?_
   refine s_buildSlice (n := 1) (ps := [(0, (D.one (C.p false (.sl r7.length (r7.flatMap e_u8)))))]) (cs := rowC (e_sl e_u8) ([r7] : List (List Int))) F.u_61 F.sz_22 F.z_22 rfl rfl (by decide) (by decide) rfl rfl ?_
   obtain ⟨c8, h⟩ := gdH h
   have dc8 := of_decide_eq_true c8
   refine t_append (xs := x2) (ys := ([r7] : List (List Int))) (zs := x2 ++ ([r7] : List (List Int))) (H' := [(o_journal_Journal_02 false (C.ref 1 0) (C.own 2 0 p0.l.length 1) p0), (o_vdisk_Disk_03 false (C.mp 3) (C.opt p1.fuse.isSome 6 0) p1), (some (AObj.cells false (rowC (e_sl e_u8) p0.l))), (om_ e_vdisk_file p1.files), none, none, (some (AObj.cells false [(ci (p1.fuse.getD default))])), (some (AObj.cells true (rowC (e_sl e_u8) ([r7] : List (List Int))))), (some (AObj.cells true (rowC (e_sl e_u8) (x2 ++ ([r7] : List (List Int))))))]) F.u_61 F.in_22 rfl (e_sl_len _) (.own rfl rfl) (.own rfl rfl) F.u_61 (by omega) (by omega) rfl rfl (s_assign (d := (D.one (C.own 8 0 ((x2 ++ ([r7] : List (List Int))).length) 1))) rfl (AWops.nil (AW.region (s_binI (v := (.int .i64 (IntKind.i64.wrap (x3 + 1)))) rfl rfl rfl (s_move (d := (si (IntKind.i64.wrap (x3 + 1)))) rfl (AWops.nil ?_))))))
   exact ⟨_, ⟨24, (upd 24 (upd 24 (upd 24 (upd 24 topF 3 (D.one (C.own 5 0 (x2 ++ ([r7] : List (List Int))).length 1))) 11 (D.one (C.own 2 0 p0.l.length 1))) 12 (si (p0.l.length : Int))) 13 (si (IntKind.i64.wrap (x3 + 1)))), [(o_journal_Journal_02 false (C.ref 1 0) (C.own 2 0 p0.l.length 1) p0), (o_vdisk_Disk_03 false (C.mp 3) (C.opt p1.fuse.isSome 6 0) p1), (some (AObj.cells false (rowC (e_sl e_u8) p0.l))), (om_ e_vdisk_file p1.files), none, (some (AObj.cells true (rowC (e_sl e_u8) (x2 ++ ([r7] : List (List Int)))))), (some (AObj.cells false [(ci (p1.fuse.getD default))]))]⟩, by omega, (wG 5 [0, 1, 2, 3, 4, 8, 6] []), by omega, x2 ++ ([r7] : List (List Int)), IntKind.i64.wrap (x3 + 1), h, rfl⟩
  ·refine AW.cond_no rfl c4 (AW.exit (AW.seq (AW.region ?_)))
   refine s_move (d := (D.one (C.own 5 0 x2.length 1))) rfl (s_assign (d := (D.one (C.own 5 0 x2.length 1))) rfl (AWops.nil (AW.ret ?_)))
   obtain rfl := Option.some.inj h
   exact ⟨_, rfl, (wG 5 [0, 1, 2, 3, 4, 6, 5] [])⟩
mutual
def slices_EqualFunc_byte__byte__byte__byte.l0 : Nat → Int → (List (List Int)) → (List (List Int)) → Option Bool
 | 0, _, _, _ => none
 | k + 1, x2, a0, a1 => if (decide (x2 < (a0.length : Int))) = true then ((rd a0 x2).bind fun v4 => (rd a1 x2).bind fun v5 => (bytes_Equal.f k v4 v5).bind fun r6 => if r6 = true then (slices_EqualFunc_byte__byte__byte__byte.l0 k (IntKind.i64.wrap (x2 + 1)) a0 a1) else (some false)) else (some true)
end
def slices_EqualFunc_byte__byte__byte__byte.f (k : Nat) (a0 : List (List Int)) (a1 : List (List Int)) : Option Bool := if ((a0.length : Int) != (a1.length : Int)) = true then (some false) else (slices_EqualFunc_byte__byte__byte__byte.l0 k 0 a0 a1)
theorem slices_EqualFunc_byte__byte__byte__byte.meets (k : Nat) (a0 : List (List Int)) (a1 : List (List Int)) (r : Bool) (h : slices_EqualFunc_byte__byte__byte__byte.f k a0 a1 = some r) : Meets Try.prog 58 [(D.one (C.p false (.sl a0.length (a0.flatMap (e_sl e_u8))))), (D.one (C.p false (.sl a1.length (a1.flatMap (e_sl e_u8))))), (D.one (C.clo 18 []))] [] (sb r) [] := by
 unfold slices_EqualFunc_byte__byte__byte__byte.f at h
 refine Meets.of_body (n := 32) Try.func58 rfl rfl (nl rfl) fun x hx => ?_
 replace hx : x.k = 0 := hx
 show AW _ x _ _ ⟨32, fr0 [(D.one (C.p false (.sl a0.length (a0.flatMap (e_sl e_u8))))), (D.one (C.p false (.sl a1.length (a1.flatMap (e_sl e_u8))))), (D.one (C.clo 18 []))], []⟩
 refine AW.seq (AW.region ?_)
 refine s_assign (d := (sb false)) rfl (AWops.nil (AW.seq (AW.seq (AW.region ?_))))
 refine s_move (d := (D.one (C.p false (.sl a0.length (a0.flatMap (e_sl e_u8)))))) rfl (s_len (n := a0.length) F.u_61 rfl (.inr ⟨(fun _ _ h => by cases h), ⟨_, rfl⟩⟩) (s_move (d := (D.one (C.p false (.sl a1.length (a1.flatMap (e_sl e_u8)))))) rfl (s_len (n := a1.length) F.u_61 rfl (.inr ⟨(fun _ _ h => by cases h), ⟨_, rfl⟩⟩) (s_binI (v := (.bool ((a0.length : Int) != (a1.length : Int)))) rfl rfl rfl (AWops.nil ?_)))))
 rcases itH h with ⟨c1, h⟩ | ⟨c1, h⟩
 ·refine AW.cond_yes rfl c1 (AW.seq (AW.region ?_))
  refine s_assign (d := (sb false)) rfl (AWops.nil (AW.ret ?_))
  obtain rfl := Option.some.inj h
  exact ⟨_, rfl, (wG 0 [] [])⟩
 ·refine AW.cond_no rfl c1 (AW.skip (AW.seq (AW.seq (AW.region ?_))))
  refine s_move (d := (D.one (C.p false (.sl a0.length (a0.flatMap (e_sl e_u8)))))) rfl (s_len (n := a0.length) F.u_61 rfl (.inr ⟨(fun _ _ h => by cases h), ⟨_, rfl⟩⟩) (s_move (d := (si 0)) rfl (AWops.nil (AW.block ?_))))
  refine AW.loopw (st0 := ⟨32, (upd 32 (upd 32 (upd 32 (upd 32 (upd 32 topF 1 (D.one (C.p false (.sl a1.length (a1.flatMap (e_sl e_u8)))))) 2 (D.one (C.clo 18 []))) 15 (D.one (C.p false (.sl a0.length (a0.flatMap (e_sl e_u8)))))) 16 (si (a0.length : Int))) 17 (si 0)), []⟩) (fun kv st => kv ≤ k ∧ ∃ (x2 : Int), slices_EqualFunc_byte__byte__byte__byte.l0 kv x2 a0 a1 = some r ∧ st = ⟨32, (upd 32 (upd 32 (upd 32 (upd 32 (upd 32 topF 1 (D.one (C.p false (.sl a1.length (a1.flatMap (e_sl e_u8)))))) 2 (D.one (C.clo 18 []))) 15 (D.one (C.p false (.sl a0.length (a0.flatMap (e_sl e_u8)))))) 16 (si (a0.length : Int))) 17 (si x2)), []⟩) (k := k) (wg 0 [] [] hx (le_upd (le_upd (le_upd (le_upd (le_upd (le_top _) (o1 .same)) (o1 (CLe.cloL an))) (o1 .same)) (o1 .sc)) (o1 .sc)) an) ⟨Nat.le_refl _, 0, h, rfl⟩ ?_
  rintro ql0 st ⟨hkl0, x2, h, rfl⟩
  cases ql0 with
  | zero => exact absurd h (by simp [slices_EqualFunc_byte__byte__byte__byte.l0])
  | succ ql0 =>
   replace h := (slices_EqualFunc_byte__byte__byte__byte.l0.eq_2 _ _ _ _).symm.trans h
   refine AW.seq (AW.region ?_)
   refine s_binI (v := (.bool (decide (x2 < (a0.length : Int))))) rfl rfl rfl (AWops.nil (AW.seq ?_))
   rcases itH h with ⟨c3, h⟩ | ⟨c3, h⟩
   ·refine AW.cond_yes rfl c3 (AW.skip (AW.seq (AW.block (AW.seq (AW.region ?_)))))
    refine s_move (d := (si x2)) rfl ?_
    obtain ⟨v4, ev4, h⟩ := bnd h
    obtain ⟨pv4, qv4, gv4⟩ := rd_some ev4
    refine s_indexImm (ps := [P.sl v4.length (v4.flatMap e_u8)]) F.u_61 F.sz_22 rfl rfl pv4 qv4 (flat_at (e_sl_len _) gv4 (e_sl_eq _ v4)) (s_load1 (c' := (C.p false (.sl v4.length (v4.flatMap e_u8)))) F.ag_22 rfl rfl (s_assign (d := (si x2)) rfl (s_assign (d := (D.one (C.p false (.sl v4.length (v4.flatMap e_u8))))) rfl (AWops.nil (AW.seq (AW.region (s_move (d := (D.one (C.p false (.sl a1.length (a1.flatMap (e_sl e_u8)))))) rfl (s_move (d := (si x2)) rfl ?_))))))))
    obtain ⟨v5, ev5, h⟩ := bnd h
    obtain ⟨pv5, qv5, gv5⟩ := rd_some ev5
    refine s_indexImm (ps := [P.sl v5.length (v5.flatMap e_u8)]) F.u_61 F.sz_22 rfl rfl pv5 qv5 (flat_at (e_sl_len _) gv5 (e_sl_eq _ v5)) (s_load1 (c' := (C.p false (.sl v5.length (v5.flatMap e_u8)))) F.ag_22 rfl rfl (s_assign (d := (D.one (C.p false (.sl v5.length (v5.flatMap e_u8))))) rfl (AWops.nil (AW.seq (AW.region (s_move (d := (D.one (C.clo 18 []))) rfl (s_move (d := (D.one (C.p false (.sl v4.length (v4.flatMap e_u8))))) rfl (s_move (d := (D.one (C.p false (.sl v5.length (v5.flatMap e_u8))))) rfl ?_))))))))
    obtain ⟨r6, er6, h⟩ := bnd h
    refine cc [] [] (sb r6) F.ca_18 rfl rfl (ac (.one .imm) (ac (.one .imm) an)) an (bytes_Equal.meets _ v4 v5 r6 er6) (s_not rfl (AWops.nil ?_))
    rcases itH h with ⟨c7, h⟩ | ⟨c7, h⟩
    ·refine AW.cond_no rfl (by rw [c7] <;> rfl) (AW.skip (AW.region ?_))
     refine s_binI (v := (.int .i64 (IntKind.i64.wrap (x2 + 1)))) rfl rfl rfl (s_move (d := (si (IntKind.i64.wrap (x2 + 1)))) rfl (AWops.nil ?_))
     exact ⟨_, ⟨32, (upd 32 (upd 32 (upd 32 (upd 32 (upd 32 topF 1 (D.one (C.p false (.sl a1.length (a1.flatMap (e_sl e_u8)))))) 2 (D.one (C.clo 18 []))) 15 (D.one (C.p false (.sl a0.length (a0.flatMap (e_sl e_u8)))))) 16 (si (a0.length : Int))) 17 (si (IntKind.i64.wrap (x2 + 1)))), []⟩, by omega, (wg 0 [] [] hx (le_upd (le_upd (le_upd (le_upd (le_upd (le_top _) (o1 .same)) (o1 (CLe.cloL an))) (o1 .same)) (o1 .sc)) (o1 .sc)) an), by omega, IntKind.i64.wrap (x2 + 1), h, rfl⟩
    ·refine AW.cond_yes rfl (by rw [c7] <;> rfl) (AW.seq (AW.region ?_))
     refine s_assign (d := (sb false)) rfl (AWops.nil (AW.ret ?_))
     obtain rfl := Option.some.inj h
     exact ⟨_, rfl, (wG 0 [] [])⟩
   ·refine AW.cond_no rfl c3 (AW.exit (AW.seq (AW.region ?_)))
    refine s_assign (d := (sb true)) rfl (AWops.nil (AW.ret ?_))
    obtain rfl := Option.some.inj h
    exact ⟨_, rfl, (wG 0 [] [])⟩
def dossierplain_SameTexts.f (k : Nat) (a0 : List (List Int)) (a1 : List (List Int)) : Option Bool := (slices_EqualFunc_byte__byte__byte__byte.f k a0 a1).bind fun r1 => some r1
theorem dossierplain_SameTexts.meets (k : Nat) (a0 : List (List Int)) (a1 : List (List Int)) (r : Bool) (h : dossierplain_SameTexts.f k a0 a1 = some r) : Meets Try.prog 20 [(D.one (C.p false (.sl a0.length (a0.flatMap (e_sl e_u8))))), (D.one (C.p false (.sl a1.length (a1.flatMap (e_sl e_u8)))))] [] (sb r) [] := by
 unfold dossierplain_SameTexts.f at h
 refine Meets.of_body (n := 8) Try.func20 rfl rfl (nl rfl) fun x hx => ?_
 replace hx : x.k = 0 := hx
 show AW _ x _ _ ⟨8, fr0 [(D.one (C.p false (.sl a0.length (a0.flatMap (e_sl e_u8))))), (D.one (C.p false (.sl a1.length (a1.flatMap (e_sl e_u8)))))], []⟩
 refine AW.seq (AW.region ?_)
 refine s_assign (d := (sb false)) rfl (AWops.nil (AW.seq (AW.region ?_)))
 refine s_move (d := (D.one (C.p false (.sl a0.length (a0.flatMap (e_sl e_u8)))))) rfl (s_move (d := (D.one (C.p false (.sl a1.length (a1.flatMap (e_sl e_u8)))))) rfl ?_)
 obtain ⟨r1, er1, h⟩ := bnd h
 refine cc [] [] (sb r1) F.ca_58 rfl rfl (ac (.one .imm) (ac (.one .imm) (ac (.one (LendC.cloL an)) an))) an (slices_EqualFunc_byte__byte__byte__byte.meets _ a0 a1 r1 er1) (s_assign (d := (sb r1)) rfl (AWops.nil (AW.ret ?_)))
 obtain rfl := Option.some.inj h
 exact ⟨_, rfl, (wG 0 [] [])⟩
def journal_Journal_Stopped.f (k : Nat) (p0 : journal_Journal) (p1 : vdisk_Disk) : Option Bool := (journal_Journal_none.f k p0 p1).bind fun r1 => some p0.stopped
theorem journal_Journal_Stopped.meets (k : Nat) (p0 : journal_Journal) (p1 : vdisk_Disk) (r : Bool) (h : journal_Journal_Stopped.f k p0 p1 = some r) : Meets Try.prog 22 [(rf 0 0)] [(o_journal_Journal_02 false (C.ref 1 0) (C.own 2 0 p0.l.length 1) p0), (o_vdisk_Disk_03 false (C.mp 3) (C.opt p1.fuse.isSome 4 0) p1), (some (AObj.cells false (rowC (e_sl e_u8) p0.l))), (om_ e_vdisk_file p1.files), (some (AObj.cells false [(ci (p1.fuse.getD default))]))] (sb r) [(o_journal_Journal_02 false (C.ref 1 0) (C.own 2 0 p0.l.length 1) p0), (o_vdisk_Disk_03 false (C.mp 3) (C.opt p1.fuse.isSome 5 0) p1), (some (AObj.cells false (rowC (e_sl e_u8) p0.l))), (om_ e_vdisk_file p1.files), none, (some (AObj.cells false [(ci (p1.fuse.getD default))]))] := by
 unfold journal_Journal_Stopped.f at h
 refine Meets.of_body (n := 11) Try.func22 rfl rfl (nl rfl) fun x hx => ?_
 replace hx : x.k = 5 := hx
 show AW _ x _ _ ⟨11, fr0 [(rf 0 0)], [(o_journal_Journal_02 false (C.ref 1 0) (C.own 2 0 p0.l.length 1) p0), (o_vdisk_Disk_03 false (C.mp 3) (C.opt p1.fuse.isSome 4 0) p1), (some (AObj.cells false (rowC (e_sl e_u8) p0.l))), (om_ e_vdisk_file p1.files), (some (AObj.cells false [(ci (p1.fuse.getD default))]))]⟩
 refine AW.weak (st' := ⟨11, (upd 11 topF 0 (rf 0 0)), [(o_journal_Journal_02 false (C.ref 1 0) (C.own 2 0 p0.l.length 1) p0), (o_vdisk_Disk_03 false (C.mp 3) (C.opt p1.fuse.isSome 5 0) p1), (some (AObj.cells false (rowC (e_sl e_u8) p0.l))), (om_ e_vdisk_file p1.files), none, (some (AObj.cells false [(ci (p1.fuse.getD default))]))]⟩) (Weak.genL (kk := 5) [0, 1, 2, 3, 4, 4] [] hx rfl (by decide) rfl rfl rfl rfl (le_upd (le_top _) (o1 (.ref rfl))) (ac (.cells id (ac (.ref rfl) (ac .same (ac (.own rfl) (ac .sc an))))) (ac (.cells id (ac (.mp rfl) (ac .sc (ac .sc (ac (.opt rfl) (ac .sc an)))))) (ac (.cells id (all2_row _)) (ac .map (ac (.none _) (ac (.cells id (ac .sc an)) an))))))) (AW.seq (AW.region ?_))
 refine s_assign (d := (sb false)) rfl (AWops.nil (AW.seq (AW.region ?_)))
 refine s_move (d := (rf 0 0)) rfl ?_
 obtain ⟨r1, er1, h⟩ := bnd h
 have kr1 := journal_Journal_none.const er1
 subst kr1
 refine cc [0, 1, 2, 3, 5] [(o_journal_Journal_02 false (C.ref 1 0) (C.own 2 0 p0.l.length 1) p0), (o_vdisk_Disk_03 false (C.mp 3) (C.opt p1.fuse.isSome 6 0) p1), (some (AObj.cells false (rowC (e_sl e_u8) p0.l))), (om_ e_vdisk_file p1.files), none, none, (some (AObj.cells false [(ci (p1.fuse.getD default))]))] (sb false) F.ca_57 rfl rfl (ac (.one (.ref rfl)) an) (ac (.cells (ac (.ref rfl) (ac .imm (ac (.own rfl) (ac .sc an))))) (ac (.cells (ac (.mp rfl) (ac .sc (ac .sc (ac (.opt rfl) (ac .sc an)))))) (ac (.cells (lend_row _)) (ac .map (ac (.cells (ac .sc an)) an))))) (journal_Journal_none.meets _ p0 p1 false er1) (s_move (d := (sb false)) rfl ?_)
 refine AWops.guard_yes rfl (nl rfl) rfl rfl ?_
 refine s_move (d := (rf 0 0)) rfl ?_
 refine AWops.guard_yes rfl (nl rfl) rfl rfl ?_
 refine s_nilCheck (d := (rf 0 0)) rfl (.inl ⟨_, _, rfl⟩) ?_
 refine AWops.guard_yes rfl (nl rfl) rfl rfl ?_
 refine s_fieldRef F.fo_68_3 (by decide) rfl ?_
 refine AWops.guard_yes rfl (nl rfl) rfl rfl ?_
 refine s_load1 (c' := (cb p0.stopped)) F.ag_4 rfl rfl (s_pick_no (d := (sb p0.stopped)) rfl rfl rfl (s_assign (d := (sb p0.stopped)) rfl (AWops.nil (AW.ret ?_))))
 obtain rfl := Option.some.inj h
 exact ⟨_, rfl, (wG 5 [0, 1, 2, 3, 4, 6] [])⟩
end Go.Abs.GenZ
