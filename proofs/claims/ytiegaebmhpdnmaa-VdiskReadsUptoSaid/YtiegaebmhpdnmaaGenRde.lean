import Derived.Test.YtiegaebmhpdnmaaGenRdd
set_option linter.unusedVariables false
set_option linter.unusedSimpArgs false
set_option maxRecDepth 100000
set_option maxHeartbeats 4000000
namespace Go.Abs.GenRd
open Go.Abs Go.Proofs
mutual
def dossierplain_Step_Do_16xx.j0 : Nat → Bool → dossierplain_Step → vdisk_Disk → Int → dossierref03_Disk → Option (Bool × vdisk_Disk × dossierref03_Disk × (Option Int))
 | 0, _, _, _, _, _ => none
 | k + 1, x2, a0, p0, b0_3, p1 => if x2 = true then ((bytes_Clone.f k a0.B).bind fun r4 => (vdisk_Disk_Append_9.f k p0 a0.Name r4 b0_3).bind fun r5 => (dossierplain_Spoil.f k () r4).bind fun r6 => (dossierref03_Disk_Append_38.f k p1 a0.Name a0.B).bind fun r7 => some ((r5.1 == r7.1), r5.2.1, r7.2, some r5.2.2)) else (if ((IntKind.i64.wrap (Int.tmod (IntKind.u64.wrap a0.Op) 9)) == 2) = true then ((vdisk_Disk_Sync_10.f k p0 a0.Name b0_3).bind fun r9 => (dossierref03_Disk_Sync_39.f k p1 a0.Name).bind fun r10 => some ((r9.1 == r10.1), r9.2.1, r10.2, some r9.2.2)) else (if ((IntKind.i64.wrap (Int.tmod (IntKind.u64.wrap a0.Op) 9)) == 3) = true then ((vdisk_Disk_Rename_18.f k p0 a0.Name a0.To b0_3).bind fun r12 => (dossierref03_Disk_Rename_40.f k p1 a0.Name a0.To).bind fun r13 => some ((r12.1 == r13.1), r12.2.1, r13.2, some r12.2.2)) else (if ((IntKind.i64.wrap (Int.tmod (IntKind.u64.wrap a0.Op) 9)) == 4) = true then ((vdisk_Disk_Truncate_19.f k p0 a0.Name a0.N b0_3).bind fun r15 => (dossierref03_Disk_Truncate_41.f k p1 a0.Name a0.N).bind fun r16 => some ((r15.1 == r16.1), r15.2.1, r16.2, some r15.2.2)) else (if ((IntKind.i64.wrap (Int.tmod (IntKind.u64.wrap a0.Op) 9)) == 5) = true then ((vdisk_Disk_Remove_20.f k p0 a0.Name b0_3).bind fun r18 => (dossierref03_Disk_Remove_42.f k p1 a0.Name).bind fun r19 => some ((r18.1 == r19.1), r18.2.1, r19.2, some r18.2.2)) else (if ((IntKind.i64.wrap (Int.tmod (IntKind.u64.wrap a0.Op) 9)) == 6) = true then ((vdisk_Disk_Fuse_21x.f k p0 b0_3 a0.N).bind fun r21 => (dossierref03_Disk_Fuse.f k p1 a0.N).bind fun r22 => some ((r21.1 == r22.1), r21.2.1, r22.2, some r21.2.2)) else (if ((IntKind.i64.wrap (Int.tmod (IntKind.u64.wrap a0.Op) 9)) == 7) = true then ((dossierref03_Disk_Crash_44.f k p1 a0.Keeps).bind fun r24 => (vdisk_Disk_Crash_11x.f k p0 b0_3 a0.Keeps).bind fun r25 => some ((r25.1 == 0), r25.2, r24, (none : Option Int))) else ((vdisk_Disk_Room_22.f k p0 a0.N b0_3).bind fun r26 => (dossierref03_Disk_Room.f k p1 a0.N).bind fun r27 => some ((r26.1 == r27.1), r26.2, r27.2, some b0_3))))))))
end
def dossierplain_Step_Do_16xx.f (k : Nat) (a0 : dossierplain_Step) (p0 : vdisk_Disk) (b0_3 : Int) (p1 : dossierref03_Disk) : Option (Bool × vdisk_Disk × dossierref03_Disk × (Option Int)) := if ((IntKind.i64.wrap (Int.tmod (IntKind.u64.wrap a0.Op) 9)) == 0) = true then (dossierplain_Step_Do_16xx.j0 k ((IntKind.i64.wrap (Int.tmod (IntKind.u64.wrap a0.Op) 9)) == 0) a0 p0 b0_3 p1) else (dossierplain_Step_Do_16xx.j0 k ((IntKind.i64.wrap (Int.tmod (IntKind.u64.wrap a0.Op) 9)) == 1) a0 p0 b0_3 p1)
theorem dossierplain_Step_Do_16xx.meets (k : Nat) (a0 : dossierplain_Step) (p0 : vdisk_Disk) (b0_3 : Int) (p1 : dossierref03_Disk) (r : Bool × vdisk_Disk × dossierref03_Disk × (Option Int)) (h : dossierplain_Step_Do_16xx.f k a0 p0 b0_3 p1 = some r) : Meets Try.prog 16 [(D.agg (c_dossierplain_Step a0)), (rf 0 0), (rf 1 0)] [(o_vdisk_Disk_03 false (C.mp 2) (C.ref 3 0) p0), (o_dossierref03_Disk_0 false (C.own 4 0 p1.L.length 3) p1), (om_ e_vdisk_file p0.files), (bx b0_3), (or_ e_dossierref03_File p1.L)] (optE r.2.2.2 (sb r.1) (fun z1 : Int => (sb r.1))) (optE r.2.2.2 [(o_vdisk_Disk_03 false (C.mp 2) (C.p true (.v (.pointer none))) r.2.1), (o_dossierref03_Disk_0 false (C.own 5 0 r.2.2.1.L.length 3) r.2.2.1), (om_ e_vdisk_file r.2.1.files), none, none, (or_ e_dossierref03_File r.2.2.1.L)] (fun z1 : Int => [(o_vdisk_Disk_03 false (C.mp 2) (C.ref 5 0) r.2.1), (o_dossierref03_Disk_0 false (C.own 6 0 r.2.2.1.L.length 3) r.2.2.1), (om_ e_vdisk_file r.2.1.files), none, none, (bx z1), (or_ e_dossierref03_File r.2.2.1.L)])) := by
 unfold dossierplain_Step_Do_16xx.f at h
 refine Meets.of_body (n := 119) Try.func16 rfl rfl (nl rfl) fun x hx => ?_
 replace hx : x.k = 5 := hx
 show AW _ x _ _ ⟨119, fr0 [(D.agg (c_dossierplain_Step a0)), (rf 0 0), (rf 1 0)], [(o_vdisk_Disk_03 false (C.mp 2) (C.ref 3 0) p0), (o_dossierref03_Disk_0 false (C.own 4 0 p1.L.length 3) p1), (om_ e_vdisk_file p0.files), (bx b0_3), (or_ e_dossierref03_File p1.L)]⟩
 refine AW.weak (st' := ⟨119, (upd 119 (upd 119 (upd 119 topF 0 (D.agg (c_dossierplain_Step a0))) 1 (rf 0 0)) 2 (rf 1 0)), [(o_vdisk_Disk_03 false (C.mp 2) (C.ref 5 0) p0), (o_dossierref03_Disk_0 false (C.own 6 0 p1.L.length 3) p1), (om_ e_vdisk_file p0.files), none, none, (bx b0_3), (or_ e_dossierref03_File p1.L)]⟩) (Weak.genL (kk := 5) [0, 1, 2, 3, 4, 3, 4] [] hx rfl (by decide) rfl rfl rfl rfl (le_upd (le_upd (le_upd (le_top _) (.t (.agg (ac .sc (ac .sc (ac .sc (ac .sc (ac .same (ac .same an))))))))) (o1 (.ref rfl))) (o1 (.ref rfl))) (ac (qr rfl rfl) (ac (qo rfl) (ac .map (ac (.none _) (ac (.none _) (ac qb (ac (.cells id (all2_row _)) an)))))))) (AW.seq (AW.region ?_))
 refine s_box (cs := (c_dossierplain_Step a0)) rfl (List.cons_ne_nil _ _) rfl (s_assign (d := (sb false)) rfl (AWops.nil (AW.seq (AW.seq (AW.region (s_fieldRef F.fo_43_0 (by decide) rfl (s_load1 (c' := (ci a0.Op)) F.ag_3 rfl rfl (s_convI F.u_3 F.u_38 rfl (s_binI (v := (.int .u64 (Int.tmod (IntKind.u64.wrap a0.Op) 9))) rfl rfl rfl ?_)))))))))
 refine s_convI F.u_38 F.u_3 rfl (AWops.nil (AW.block ?_))
 refine AW.seqJ (fun st => ∃ (x2 : Bool), dossierplain_Step_Do_16xx.j0 k x2 a0 p0 b0_3 p1 = some r ∧ st = ⟨119, (upd 119 (upd 119 (upd 119 (upd 119 (upd 119 topF 1 (rf 0 0)) 2 (rf 1 0)) 3 (rf 5 0)) 13 (si (IntKind.i64.wrap (Int.tmod (IntKind.u64.wrap a0.Op) 9)))) 14 (sb x2)), [(o_vdisk_Disk_03 false (C.mp 2) (C.ref 6 0) p0), (o_dossierref03_Disk_0 false (C.own 7 0 p1.L.length 3) p1), (om_ e_vdisk_file p0.files), none, none, (some (AObj.cells true (c_dossierplain_Step a0))), (bx b0_3), (or_ e_dossierref03_File p1.L)]⟩) ?_ ?_
 ·refine AW.seq (AW.region ?_)
  refine s_binI (v := (.bool ((IntKind.i64.wrap (Int.tmod (IntKind.u64.wrap a0.Op) 9)) == 0))) rfl rfl rfl (s_assign (d := (sb ((IntKind.i64.wrap (Int.tmod (IntKind.u64.wrap a0.Op) 9)) == 0))) rfl (AWops.nil ?_))
  rcases itH h with ⟨c1, h⟩ | ⟨c1, h⟩
  ·refine AW.cond_yes rfl c1 (AW.skip ?_)
   exact ⟨⟨119, (upd 119 (upd 119 (upd 119 (upd 119 (upd 119 topF 1 (rf 0 0)) 2 (rf 1 0)) 3 (rf 5 0)) 13 (si (IntKind.i64.wrap (Int.tmod (IntKind.u64.wrap a0.Op) 9)))) 14 (sb ((IntKind.i64.wrap (Int.tmod (IntKind.u64.wrap a0.Op) 9)) == 0))), [(o_vdisk_Disk_03 false (C.mp 2) (C.ref 6 0) p0), (o_dossierref03_Disk_0 false (C.own 7 0 p1.L.length 3) p1), (om_ e_vdisk_file p0.files), none, none, (some (AObj.cells true (c_dossierplain_Step a0))), (bx b0_3), (or_ e_dossierref03_File p1.L)]⟩, (wg 5 [0, 1, 2, 3, 4, 7, 5, 6] [] hx (le_upd (le_upd (le_upd (le_upd (le_upd (le_top _) (o1 (.ref rfl))) (o1 (.ref rfl))) (o1 (.ref rfl))) (o1 .sc)) (o1 .sc)) (ac (qr rfl rfl) (ac (qo rfl) (ac .map (ac (.none _) (ac (.none _) (ac (.cells (fun _ => rfl) (ac .sc (ac .sc (ac .sc (ac .sc (ac .same (ac .same an))))))) (ac qb (ac (.cells id (all2_row _)) an))))))))), ((IntKind.i64.wrap (Int.tmod (IntKind.u64.wrap a0.Op) 9)) == 0), h, rfl⟩
  ·refine AW.cond_no rfl c1 (AW.region ?_)
   refine s_binI (v := (.bool ((IntKind.i64.wrap (Int.tmod (IntKind.u64.wrap a0.Op) 9)) == 1))) rfl rfl rfl (s_assign (d := (sb ((IntKind.i64.wrap (Int.tmod (IntKind.u64.wrap a0.Op) 9)) == 1))) rfl (AWops.nil ?_))
   exact ⟨⟨119, (upd 119 (upd 119 (upd 119 (upd 119 (upd 119 topF 1 (rf 0 0)) 2 (rf 1 0)) 3 (rf 5 0)) 13 (si (IntKind.i64.wrap (Int.tmod (IntKind.u64.wrap a0.Op) 9)))) 14 (sb ((IntKind.i64.wrap (Int.tmod (IntKind.u64.wrap a0.Op) 9)) == 1))), [(o_vdisk_Disk_03 false (C.mp 2) (C.ref 6 0) p0), (o_dossierref03_Disk_0 false (C.own 7 0 p1.L.length 3) p1), (om_ e_vdisk_file p0.files), none, none, (some (AObj.cells true (c_dossierplain_Step a0))), (bx b0_3), (or_ e_dossierref03_File p1.L)]⟩, (wg 5 [0, 1, 2, 3, 4, 7, 5, 6] [] hx (le_upd (le_upd (le_upd (le_upd (le_upd (le_top _) (o1 (.ref rfl))) (o1 (.ref rfl))) (o1 (.ref rfl))) (o1 .sc)) (o1 .sc)) (ac (qr rfl rfl) (ac (qo rfl) (ac .map (ac (.none _) (ac (.none _) (ac (.cells (fun _ => rfl) (ac .sc (ac .sc (ac .sc (ac .sc (ac .same (ac .same an))))))) (ac qb (ac (.cells id (all2_row _)) an))))))))), ((IntKind.i64.wrap (Int.tmod (IntKind.u64.wrap a0.Op) 9)) == 1), h, rfl⟩
 ·rintro st ⟨x2, h, rfl⟩
  cases k with
  | zero => exact absurd h (by simp [dossierplain_Step_Do_16xx.j0])
  | succ qj0 =>
   replace h := (dossierplain_Step_Do_16xx.j0.eq_2 _ _ _ _ _ _).symm.trans h
   rcases itH h with ⟨c3, h⟩ | ⟨c3, h⟩
   ·refine AW.cond_yes rfl c3 (AW.seq (AW.region ?_))
    refine s_fieldRef F.fo_43_4 (by decide) rfl (s_load1 (c' := (C.p false (.sl a0.B.length (a0.B.flatMap e_u8)))) F.ag_22 rfl rfl ?_)
    obtain ⟨r4, er4, h⟩ := bnd h
    refine cc [] [(o_vdisk_Disk_03 false (C.mp 2) (C.ref 6 0) p0), (o_dossierref03_Disk_0 false (C.own 7 0 p1.L.length 3) p1), (om_ e_vdisk_file p0.files), none, none, (some (AObj.cells true (c_dossierplain_Step a0))), (bx b0_3), (or_ e_dossierref03_File p1.L), (ow_ e_u8 r4)] (D.one (C.own 8 0 r4.length 1)) F.ca_37 rfl rfl (ac (.one .imm) an) an (bytes_Clone.meets _ a0.B r4 er4) (s_assign (d := (D.one (C.own 8 0 r4.length 1))) rfl (AWops.nil (AW.seq (AW.region (s_move (d := (rf 0 0)) rfl (s_fieldRef F.fo_43_2 (by decide) rfl (s_load1 (c' := (ct a0.Name)) F.ag_9 rfl rfl (s_move (d := (D.one (C.own 8 0 r4.length 1))) rfl ?_))))))))
    obtain ⟨r5, er5, h⟩ := bnd h
    refine cc [0, 8, 2, 6] [(o_vdisk_Disk_03 false (C.mp 2) (C.ref 6 0) r5.2.1), (o_dossierref03_Disk_0 false (C.own 7 0 p1.L.length 3) p1), (om_ e_vdisk_file r5.2.1.files), none, none, (some (AObj.cells true (c_dossierplain_Step a0))), (bx r5.2.2), (or_ e_dossierref03_File p1.L), (ow_ e_u8 r4)] (si r5.1) F.ca_9 rfl rfl (ac (.one (.ref rfl)) (ac (.one .sc) (ac (.one (.own rfl)) an))) (ac (.cells (ac (.mp rfl) (ac .sc (ac .sc (ac (.ref rfl) (ac .sc an)))))) (ac (.cells (lend_row _)) (ac .map (ac (.cells (ac .sc an)) an)))) (vdisk_Disk_Append_9.meets _ p0 a0.Name r4 b0_3 r5 er5) (s_assign (d := (si r5.1)) rfl (AWops.nil (AW.seq (AW.region (s_move (d := (D.one (C.own 8 0 r4.length 1))) rfl (s_buildSlice (n := 1) (ps := [(0, (D.one (C.own 8 0 r4.length 1)))]) (cs := [(C.own 8 0 r4.length 1)]) F.u_23 F.sz_22 F.z_22 rfl rfl (by decide) (by decide) rfl rfl ?_))))))
    obtain ⟨r6, er6, h⟩ := bnd h
    refine cc [9, 8] [(o_vdisk_Disk_03 false (C.mp 2) (C.ref 6 0) r5.2.1), (o_dossierref03_Disk_0 false (C.own 7 0 p1.L.length 3) p1), (om_ e_vdisk_file r5.2.1.files), none, none, (some (AObj.cells true (c_dossierplain_Step a0))), (bx r5.2.2), (or_ e_dossierref03_File p1.L), (ow_ e_u8 r6), (some (AObj.cells true [(C.own 8 0 r6.length 1)]))] (D.tup []) F.ca_29 rfl rfl (ac (.one (.own rfl)) an) (ac (.cells (ac (.own rfl) an)) (ac (.cells (lend_row _)) an)) (dossierplain_Spoil.meets _ () r4 r6 er6) (AWops.nil (AW.seq (AW.region ?_)))
    refine s_move (d := (si r5.1)) rfl (s_move (d := (rf 1 0)) rfl (s_fieldRef F.fo_43_2 (by decide) rfl (s_load1 (c' := (ct a0.Name)) F.ag_9 rfl rfl (s_fieldRef F.fo_43_4 (by decide) rfl (s_load1 (c' := (C.p false (.sl a0.B.length (a0.B.flatMap e_u8)))) F.ag_22 rfl rfl ?_)))))
    obtain ⟨r7, er7, h⟩ := bnd h
    refine cc [1, 7] [(o_vdisk_Disk_03 false (C.mp 2) (C.ref 6 0) r5.2.1), (o_dossierref03_Disk_0 false (C.own 10 0 r7.2.L.length 3) r7.2), (om_ e_vdisk_file r5.2.1.files), none, none, (some (AObj.cells true (c_dossierplain_Step a0))), (bx r5.2.2), none, (ow_ e_u8 r6), (some (AObj.cells true [(C.own 8 0 r6.length 1)])), (or_ e_dossierref03_File r7.2.L)] (si r7.1) F.ca_38 rfl rfl (ac (.one (.ref rfl)) (ac (.one .sc) (ac (.one .imm) an))) (ac (.cells (ac (.own rfl) (ac .sc (ac .sc (ac .sc an))))) (ac (.cells (lend_row _)) an)) (dossierref03_Disk_Append_38.meets _ p1 a0.Name a0.B r7 er7) (s_binI (v := (.bool (r5.1 == r7.1))) rfl rfl rfl (s_assign (d := (sb (r5.1 == r7.1))) rfl (AWops.nil (AW.ret ?_))))
    obtain rfl := Option.some.inj h
    exact ⟨_, rfl, (wg 5 [0, 1, 2, 3, 4, 6, 10] [] rfl (le_upd (le_top _) (o1 .sc)) (ac (qr rfl rfl) (ac (qo rfl) (ac .map (ac (.none _) (ac (.none _) (ac qb (ac (.cells id (all2_row _)) an))))))))⟩
   ·refine AW.cond_no rfl c3 (AW.seq (AW.region ?_))
    refine s_binI (v := (.bool ((IntKind.i64.wrap (Int.tmod (IntKind.u64.wrap a0.Op) 9)) == 2))) rfl rfl rfl (s_assign (d := (sb ((IntKind.i64.wrap (Int.tmod (IntKind.u64.wrap a0.Op) 9)) == 2))) rfl (AWops.nil ?_))
    rcases itH h with ⟨c8, h⟩ | ⟨c8, h⟩
    ·refine AW.cond_yes rfl c8 (AW.seq ?_)
     refine AW.weak (st' := ⟨119, (upd 119 (upd 119 (upd 119 topF 1 (rf 0 0)) 2 (rf 1 0)) 3 (rf 5 0)), [(o_vdisk_Disk_03 false (C.mp 2) (C.ref 6 0) p0), (o_dossierref03_Disk_0 false (C.own 7 0 p1.L.length 3) p1), (om_ e_vdisk_file p0.files), none, none, (some (AObj.cells true (c_dossierplain_Step a0))), (bx b0_3), (or_ e_dossierref03_File p1.L)]⟩) (wg 5 [0, 1, 2, 3, 4, 5, 6, 7] [] hx (le_upd (le_upd (le_upd (le_top _) (o1 (.ref rfl))) (o1 (.ref rfl))) (o1 (.ref rfl))) (ac (qr rfl rfl) (ac (qo rfl) (ac .map (ac (.none _) (ac (.none _) (ac (.cells (fun _ => rfl) (ac .sc (ac .sc (ac .sc (ac .sc (ac .same (ac .same an))))))) (ac qb (ac (.cells id (all2_row _)) an))))))))) ?_
     obtain ⟨r9, er9, h⟩ := bnd h
     obtain ⟨r10, er10, h⟩ := bnd h
     refine AW.draw (n := 119) (L := 10) [(ft 0 38 (rf 0 0) [(1, (rf 0 0))]), (ft 1 39 (rf 5 2) [(3, (rf 5 0))]), (2, ⟨some 40, (st_ a0.Name), [(39, (rf 5 2))], [(5, (some (AObj.cells true (c_dossierplain_Step a0))))], [], none⟩), (3, ⟨some 41, (si r9.1), [(38, (rf 0 0)), (40, (st_ a0.Name))], [(0, (o_vdisk_Disk_03 false (C.mp 2) (C.ref 6 0) p0)), (2, (om_ e_vdisk_file p0.files)), (6, (bx b0_3))], [(0, (o_vdisk_Disk_03 false (C.mp 2) (C.ref 6 0) r9.2.1)), (2, (om_ e_vdisk_file r9.2.1.files)), (6, (bx r9.2.2))], none⟩), (ft 4 42 (rf 1 0) [(2, (rf 1 0))]), (ft 5 43 (rf 5 2) [(3, (rf 5 0))]), (6, ⟨some 44, (st_ a0.Name), [(43, (rf 5 2))], [(5, (some (AObj.cells true (c_dossierplain_Step a0))))], [], none⟩), (7, ⟨some 45, (si r10.1), [(42, (rf 1 0)), (44, (st_ a0.Name))], [(1, (o_dossierref03_Disk_0 false (C.own 7 0 p1.L.length 3) p1)), (7, (or_ e_dossierref03_File p1.L))], [(1, (o_dossierref03_Disk_0 false (C.own 9 0 r10.2.L.length 3) r10.2)), (7, none), (9, (or_ e_dossierref03_File r10.2.L))], some 9⟩), (ft 8 46 (sb (r9.1 == r10.1)) [(41, (si r9.1)), (45, (si r10.1))]), (ft 9 6 (sb (r9.1 == r10.1)) [(46, (sb (r9.1 == r10.1)))])] [[], [], [1], [0, 1, 2], [], [], [5], (.range 7), (.range 8), (.range 9)] (nl rfl) [0, 0, 1, 2, 0, 0, 1, 3, 4, 5] rfl (TK := [(7, 9)]) rfl (AllK.cons' ⟨(tk_upd (tk_upd (tk_upd tk_top rfl) rfl) rfl), (tC rfl (tC rfl (tC rfl (tC rfl (tC rfl (tC rfl (tC rfl (tC (tkO_row _) AllT.nil')))))))), (fC (.inr rfl) (fC (.inr rfl) (fC (.inr rfl) (fC (.inr rfl) (fC (.inr rfl) (fC (.inr rfl) (fC (.inr rfl) (fC (.inl rfl) (fC (.inl rfl) (fC (.inl rfl) AllF.nil'))))))))))⟩ AllK.nil') (by repeat (first | refine fC ⟨?_, ?_⟩ ?_ | refine sC rfl ?_ | refine hC rfl ?_ | trivial)) ?_ ?_
     ·refine y8 ?_ ?_ ?_ ?_ ?_ ?_ ?_ ?_ (y2 ?_ ?_ yN)
      ·intro K _ f w u k
       show Wp K ⟨119, (upd 119 f 1 (rf 0 0)), _⟩
       refine s_move (d := (rf 0 0)) rfl k
      ·intro K _ f w u k
       show Wp K ⟨119, (upd 119 f 3 (rf 5 0)), [_, _, _, _, _, _, _, _, _, _]⟩
       refine s_fieldRef F.fo_43_2 (by decide) rfl k
      ·intro K _ f w u k
       show Wp K ⟨119, (upd 119 f 39 (rf 5 2)), [_, _, _, _, _, (some (AObj.cells true (c_dossierplain_Step a0))), _, _, _, _]⟩
       refine s_load1 (c' := (ct a0.Name)) F.ag_9 rfl rfl k
      ·intro K _ f w u k
       show Wp K ⟨119, (upd 119 (upd 119 f 40 (st_ a0.Name)) 38 (rf 0 0)), [(o_vdisk_Disk_03 false (C.mp 2) (C.ref 6 0) p0), _, (om_ e_vdisk_file p0.files), _, _, _, (bx b0_3), _, _, _]⟩
       refine cc [0, 2, 6] [(o_vdisk_Disk_03 false (C.mp 2) (C.ref 6 0) r9.2.1), (w 1), (om_ e_vdisk_file r9.2.1.files), (w 3), (w 4), (w 5), (bx r9.2.2), (w 7), (w 8), (w 9)] (si r9.1) F.ca_10 rfl rfl (ac (.one (.ref rfl)) (ac (.one .sc) an)) (ac (.cells (ac (.mp rfl) (ac .sc (ac .sc (ac (.ref rfl) (ac .sc an)))))) (ac .map (ac (.cells (ac .sc an)) an))) (vdisk_Disk_Sync_10.meets _ p0 a0.Name b0_3 r9 er9) k
      ·intro K _ f w u k
       show Wp K ⟨119, (upd 119 f 2 (rf 1 0)), _⟩
       refine s_move (d := (rf 1 0)) rfl k
      ·intro K _ f w u k
       show Wp K ⟨119, (upd 119 f 3 (rf 5 0)), [_, _, _, _, _, _, _, _, _, _]⟩
       refine s_fieldRef F.fo_43_2 (by decide) rfl k
      ·intro K _ f w u k
       show Wp K ⟨119, (upd 119 f 43 (rf 5 2)), [_, _, _, _, _, (some (AObj.cells true (c_dossierplain_Step a0))), _, _, _, _]⟩
       refine s_load1 (c' := (ct a0.Name)) F.ag_9 rfl rfl k
      ·intro K _ f w u k
       show Wp K ⟨119, (upd 119 (upd 119 f 44 (st_ a0.Name)) 42 (rf 1 0)), [_, (o_dossierref03_Disk_0 false (C.own 7 0 p1.L.length 3) p1), _, _, _, _, _, (or_ e_dossierref03_File p1.L), _, _]⟩
       refine cc [1, 7] [(w 0), (o_dossierref03_Disk_0 false (C.own 10 0 r10.2.L.length 3) r10.2), (w 2), (w 3), (w 4), (w 5), (w 6), none, (w 8), (w 9), (or_ e_dossierref03_File r10.2.L)] (si r10.1) F.ca_39 rfl rfl (ac (.one (.ref rfl)) (ac (.one .sc) an)) (ac (.cells (ac (.own rfl) (ac .sc (ac .sc (ac .sc an))))) (ac (.cells (lend_row _)) an)) (dossierref03_Disk_Sync_39.meets _ p1 a0.Name r10 er10) ?_
       refine AWops.weak (st' := ⟨119, (upd 119 (upd 119 (upd 119 f 44 (st_ a0.Name)) 42 (rf 1 0)) 45 (si r10.1)), [(w 0), (o_dossierref03_Disk_0 false (C.own 9 0 r10.2.L.length 3) r10.2), (w 2), (w 3), (w 4), (w 5), (w 6), none, (w 8), (or_ e_dossierref03_File r10.2.L)]⟩) (wg 5 [0, 1, 2, 3, 4, 5, 6, 7, 8, 10] [] hx (le_upd2 (le_ok (p := 9) (L := 10) rfl (u 9 rfl).1) (o1 .sc)) (ac (oq 9 10 (u 9 rfl) 0) (ac (qo rfl) (ac (oq 9 10 (u 9 rfl) 2) (ac (oq 9 10 (u 9 rfl) 3) (ac (oq 9 10 (u 9 rfl) 4) (ac (oq 9 10 (u 9 rfl) 5) (ac (oq 9 10 (u 9 rfl) 6) (ac (.none _) (ac (oq 9 10 (u 9 rfl) 8) (ac (.cells id (all2_row _)) an))))))))))) k
      ·intro K _ f w u k
       show Wp K ⟨119, (upd 119 (upd 119 f 45 (si r10.1)) 41 (si r9.1)), _⟩
       refine s_binI (v := (.bool (r9.1 == r10.1))) rfl rfl rfl k
      ·intro K _ f w u k
       show Wp K ⟨119, (upd 119 f 46 (sb (r9.1 == r10.1))), _⟩
       refine s_assign (d := (sb (r9.1 == r10.1))) rfl k
     ·refine AWops.weak (st' := ⟨119, (upd 119 topF 6 (sb (r9.1 == r10.1))), [(o_vdisk_Disk_03 false (C.mp 2) (C.ref 5 0) r9.2.1), (o_dossierref03_Disk_0 false (C.own 6 0 r10.2.L.length 3) r10.2), (om_ e_vdisk_file r9.2.1.files), none, none, (bx r9.2.2), (or_ e_dossierref03_File r10.2.L)]⟩) (wg 5 [0, 1, 2, 3, 4, 6, 9] [] hx (le_upd (le_top _) (o1 .sc)) (ac (qr rfl rfl) (ac (qo rfl) (ac .map (ac (.none _) (ac (.none _) (ac qb (ac (.cells id (all2_row _)) an)))))))) (AWops.nil (AW.ret ?_))
      obtain rfl := Option.some.inj h
      exact ⟨_, rfl, (wg 5 [0, 1, 2, 3, 4, 5, 6] [] rfl (le_upd (le_top _) (o1 .sc)) (ac (qr rfl rfl) (ac (qo rfl) (ac .map (ac (.none _) (ac (.none _) (ac qb (ac (.cells id (all2_row _)) an))))))))⟩
    ·refine AW.cond_no rfl c8 (AW.seq (AW.region ?_))
     refine s_binI (v := (.bool ((IntKind.i64.wrap (Int.tmod (IntKind.u64.wrap a0.Op) 9)) == 3))) rfl rfl rfl (s_assign (d := (sb ((IntKind.i64.wrap (Int.tmod (IntKind.u64.wrap a0.Op) 9)) == 3))) rfl (AWops.nil ?_))
     rcases itH h with ⟨c11, h⟩ | ⟨c11, h⟩
     ·refine AW.cond_yes rfl c11 (AW.seq ?_)
      refine AW.weak (st' := ⟨119, (upd 119 (upd 119 (upd 119 topF 1 (rf 0 0)) 2 (rf 1 0)) 3 (rf 5 0)), [(o_vdisk_Disk_03 false (C.mp 2) (C.ref 6 0) p0), (o_dossierref03_Disk_0 false (C.own 7 0 p1.L.length 3) p1), (om_ e_vdisk_file p0.files), none, none, (some (AObj.cells true (c_dossierplain_Step a0))), (bx b0_3), (or_ e_dossierref03_File p1.L)]⟩) (wg 5 [0, 1, 2, 3, 4, 5, 6, 7] [] hx (le_upd (le_upd (le_upd (le_top _) (o1 (.ref rfl))) (o1 (.ref rfl))) (o1 (.ref rfl))) (ac (qr rfl rfl) (ac (qo rfl) (ac .map (ac (.none _) (ac (.none _) (ac (.cells (fun _ => rfl) (ac .sc (ac .sc (ac .sc (ac .sc (ac .same (ac .same an))))))) (ac qb (ac (.cells id (all2_row _)) an))))))))) ?_
      obtain ⟨r12, er12, h⟩ := bnd h
      obtain ⟨r13, er13, h⟩ := bnd h
      refine AW.draw (n := 119) (L := 10) [(ft 0 49 (rf 0 0) [(1, (rf 0 0))]), (ft 1 50 (rf 5 2) [(3, (rf 5 0))]), (2, ⟨some 51, (st_ a0.Name), [(50, (rf 5 2))], [(5, (some (AObj.cells true (c_dossierplain_Step a0))))], [], none⟩), (ft 3 52 (rf 5 3) [(3, (rf 5 0))]), (4, ⟨some 53, (st_ a0.To), [(52, (rf 5 3))], [(5, (some (AObj.cells true (c_dossierplain_Step a0))))], [], none⟩), (5, ⟨some 54, (si r12.1), [(49, (rf 0 0)), (51, (st_ a0.Name)), (53, (st_ a0.To))], [(0, (o_vdisk_Disk_03 false (C.mp 2) (C.ref 6 0) p0)), (2, (om_ e_vdisk_file p0.files)), (6, (bx b0_3))], [(0, (o_vdisk_Disk_03 false (C.mp 2) (C.ref 6 0) r12.2.1)), (2, (om_ e_vdisk_file r12.2.1.files)), (6, (bx r12.2.2))], none⟩), (ft 6 55 (rf 1 0) [(2, (rf 1 0))]), (ft 7 56 (rf 5 2) [(3, (rf 5 0))]), (8, ⟨some 57, (st_ a0.Name), [(56, (rf 5 2))], [(5, (some (AObj.cells true (c_dossierplain_Step a0))))], [], none⟩), (ft 9 58 (rf 5 3) [(3, (rf 5 0))]), (10, ⟨some 59, (st_ a0.To), [(58, (rf 5 3))], [(5, (some (AObj.cells true (c_dossierplain_Step a0))))], [], none⟩), (11, ⟨some 60, (si r13.1), [(55, (rf 1 0)), (57, (st_ a0.Name)), (59, (st_ a0.To))], [(1, (o_dossierref03_Disk_0 false (C.own 7 0 p1.L.length 3) p1)), (7, (or_ e_dossierref03_File p1.L))], [(1, (o_dossierref03_Disk_0 false (C.own 9 0 r13.2.L.length 3) r13.2)), (7, none), (9, (or_ e_dossierref03_File r13.2.L))], some 9⟩), (ft 12 61 (sb (r12.1 == r13.1)) [(54, (si r12.1)), (60, (si r13.1))]), (ft 13 6 (sb (r12.1 == r13.1)) [(61, (sb (r12.1 == r13.1)))])] [[], [], [1], [], [3], (.range 5), [], [], [7], [], [9], (.range 11), (.range 12), (.range 13)] (nl rfl) [0, 0, 1, 0, 1, 2, 0, 0, 1, 0, 1, 3, 4, 5] rfl (TK := [(11, 9)]) rfl (AllK.cons' ⟨(tk_upd (tk_upd (tk_upd tk_top rfl) rfl) rfl), (tC rfl (tC rfl (tC rfl (tC rfl (tC rfl (tC rfl (tC rfl (tC (tkO_row _) AllT.nil')))))))), (by repeat (first | refine fC (.inl rfl) ?_ | refine fC (.inr rfl) ?_ | refine fC (.inr (by unfold tkFoot; simp only [List.all_cons, List.all_nil, tkO_row, Bool.and_true, Bool.true_and]; rfl)) ?_ | trivial))⟩ AllK.nil') (by repeat (first | refine fC ⟨?_, ?_⟩ ?_ | refine sC rfl ?_ | refine hC rfl ?_ | trivial)) ?_ ?_
      ·refine y8 ?_ ?_ ?_ ?_ ?_ ?_ ?_ ?_ (y4 ?_ ?_ ?_ ?_ (y2 ?_ ?_ yN))
       ·intro K _ f w u k
        show Wp K ⟨119, (upd 119 f 1 (rf 0 0)), _⟩
        refine s_move (d := (rf 0 0)) rfl k
       ·intro K _ f w u k
        show Wp K ⟨119, (upd 119 f 3 (rf 5 0)), [_, _, _, _, _, _, _, _, _, _]⟩
        refine s_fieldRef F.fo_43_2 (by decide) rfl k
       ·intro K _ f w u k
        show Wp K ⟨119, (upd 119 f 50 (rf 5 2)), [_, _, _, _, _, (some (AObj.cells true (c_dossierplain_Step a0))), _, _, _, _]⟩
        refine s_load1 (c' := (ct a0.Name)) F.ag_9 rfl rfl k
       ·intro K _ f w u k
        show Wp K ⟨119, (upd 119 f 3 (rf 5 0)), [_, _, _, _, _, _, _, _, _, _]⟩
        refine s_fieldRef F.fo_43_3 (by decide) rfl k
       ·intro K _ f w u k
        show Wp K ⟨119, (upd 119 f 52 (rf 5 3)), [_, _, _, _, _, (some (AObj.cells true (c_dossierplain_Step a0))), _, _, _, _]⟩
        refine s_load1 (c' := (ct a0.To)) F.ag_9 rfl rfl k
       ·intro K _ f w u k
        show Wp K ⟨119, (upd 119 (upd 119 (upd 119 f 53 (st_ a0.To)) 51 (st_ a0.Name)) 49 (rf 0 0)), [(o_vdisk_Disk_03 false (C.mp 2) (C.ref 6 0) p0), _, (om_ e_vdisk_file p0.files), _, _, _, (bx b0_3), _, _, _]⟩
        refine cc [0, 2, 6] [(o_vdisk_Disk_03 false (C.mp 2) (C.ref 6 0) r12.2.1), (w 1), (om_ e_vdisk_file r12.2.1.files), (w 3), (w 4), (w 5), (bx r12.2.2), (w 7), (w 8), (w 9)] (si r12.1) F.ca_18 rfl rfl (ac (.one (.ref rfl)) (ac (.one .sc) (ac (.one .sc) an))) (ac (.cells (ac (.mp rfl) (ac .sc (ac .sc (ac (.ref rfl) (ac .sc an)))))) (ac .map (ac (.cells (ac .sc an)) an))) (vdisk_Disk_Rename_18.meets _ p0 a0.Name a0.To b0_3 r12 er12) k
       ·intro K _ f w u k
        show Wp K ⟨119, (upd 119 f 2 (rf 1 0)), _⟩
        refine s_move (d := (rf 1 0)) rfl k
       ·intro K _ f w u k
        show Wp K ⟨119, (upd 119 f 3 (rf 5 0)), [_, _, _, _, _, _, _, _, _, _]⟩
        refine s_fieldRef F.fo_43_2 (by decide) rfl k
       ·intro K _ f w u k
        show Wp K ⟨119, (upd 119 f 56 (rf 5 2)), [_, _, _, _, _, (some (AObj.cells true (c_dossierplain_Step a0))), _, _, _, _]⟩
        refine s_load1 (c' := (ct a0.Name)) F.ag_9 rfl rfl k
       ·intro K _ f w u k
        show Wp K ⟨119, (upd 119 f 3 (rf 5 0)), [_, _, _, _, _, _, _, _, _, _]⟩
        refine s_fieldRef F.fo_43_3 (by decide) rfl k
       ·intro K _ f w u k
        show Wp K ⟨119, (upd 119 f 58 (rf 5 3)), [_, _, _, _, _, (some (AObj.cells true (c_dossierplain_Step a0))), _, _, _, _]⟩
        refine s_load1 (c' := (ct a0.To)) F.ag_9 rfl rfl k
       ·intro K _ f w u k
        show Wp K ⟨119, (upd 119 (upd 119 (upd 119 f 59 (st_ a0.To)) 57 (st_ a0.Name)) 55 (rf 1 0)), [_, (o_dossierref03_Disk_0 false (C.own 7 0 p1.L.length 3) p1), _, _, _, _, _, (or_ e_dossierref03_File p1.L), _, _]⟩
        refine cc [1, 7] [(w 0), (o_dossierref03_Disk_0 false (C.own 10 0 r13.2.L.length 3) r13.2), (w 2), (w 3), (w 4), (w 5), (w 6), none, (w 8), (w 9), (or_ e_dossierref03_File r13.2.L)] (si r13.1) F.ca_40 rfl rfl (ac (.one (.ref rfl)) (ac (.one .sc) (ac (.one .sc) an))) (ac (.cells (ac (.own rfl) (ac .sc (ac .sc (ac .sc an))))) (ac (.cells (lend_row _)) an)) (dossierref03_Disk_Rename_40.meets _ p1 a0.Name a0.To r13 er13) ?_
        refine AWops.weak (st' := ⟨119, (upd 119 (upd 119 (upd 119 (upd 119 f 59 (st_ a0.To)) 57 (st_ a0.Name)) 55 (rf 1 0)) 60 (si r13.1)), [(w 0), (o_dossierref03_Disk_0 false (C.own 9 0 r13.2.L.length 3) r13.2), (w 2), (w 3), (w 4), (w 5), (w 6), none, (w 8), (or_ e_dossierref03_File r13.2.L)]⟩) (wg 5 [0, 1, 2, 3, 4, 5, 6, 7, 8, 10] [] hx (le_upd2 (le_ok (p := 9) (L := 10) rfl (u 9 rfl).1) (o1 .sc)) (ac (oq 9 10 (u 9 rfl) 0) (ac (qo rfl) (ac (oq 9 10 (u 9 rfl) 2) (ac (oq 9 10 (u 9 rfl) 3) (ac (oq 9 10 (u 9 rfl) 4) (ac (oq 9 10 (u 9 rfl) 5) (ac (oq 9 10 (u 9 rfl) 6) (ac (.none _) (ac (oq 9 10 (u 9 rfl) 8) (ac (.cells id (all2_row _)) an))))))))))) k
       ·intro K _ f w u k
        show Wp K ⟨119, (upd 119 (upd 119 f 60 (si r13.1)) 54 (si r12.1)), _⟩
        refine s_binI (v := (.bool (r12.1 == r13.1))) rfl rfl rfl k
       ·intro K _ f w u k
        show Wp K ⟨119, (upd 119 f 61 (sb (r12.1 == r13.1))), _⟩
        refine s_assign (d := (sb (r12.1 == r13.1))) rfl k
      ·refine AWops.weak (st' := ⟨119, (upd 119 topF 6 (sb (r12.1 == r13.1))), [(o_vdisk_Disk_03 false (C.mp 2) (C.ref 5 0) r12.2.1), (o_dossierref03_Disk_0 false (C.own 6 0 r13.2.L.length 3) r13.2), (om_ e_vdisk_file r12.2.1.files), none, none, (bx r12.2.2), (or_ e_dossierref03_File r13.2.L)]⟩) (wg 5 [0, 1, 2, 3, 4, 6, 9] [] hx (le_upd (le_top _) (o1 .sc)) (ac (qr rfl rfl) (ac (qo rfl) (ac .map (ac (.none _) (ac (.none _) (ac qb (ac (.cells id (all2_row _)) an)))))))) (AWops.nil (AW.ret ?_))
       obtain rfl := Option.some.inj h
       exact ⟨_, rfl, (wg 5 [0, 1, 2, 3, 4, 5, 6] [] rfl (le_upd (le_top _) (o1 .sc)) (ac (qr rfl rfl) (ac (qo rfl) (ac .map (ac (.none _) (ac (.none _) (ac qb (ac (.cells id (all2_row _)) an))))))))⟩
     ·refine AW.cond_no rfl c11 (AW.seq (AW.region ?_))
      refine s_binI (v := (.bool ((IntKind.i64.wrap (Int.tmod (IntKind.u64.wrap a0.Op) 9)) == 4))) rfl rfl rfl (s_assign (d := (sb ((IntKind.i64.wrap (Int.tmod (IntKind.u64.wrap a0.Op) 9)) == 4))) rfl (AWops.nil ?_))
      rcases itH h with ⟨c14, h⟩ | ⟨c14, h⟩
      ·refine AW.cond_yes rfl c14 (AW.seq ?_)
       refine AW.weak (st' := ⟨119, (upd 119 (upd 119 (upd 119 topF 1 (rf 0 0)) 2 (rf 1 0)) 3 (rf 5 0)), [(o_vdisk_Disk_03 false (C.mp 2) (C.ref 6 0) p0), (o_dossierref03_Disk_0 false (C.own 7 0 p1.L.length 3) p1), (om_ e_vdisk_file p0.files), none, none, (some (AObj.cells true (c_dossierplain_Step a0))), (bx b0_3), (or_ e_dossierref03_File p1.L)]⟩) (wg 5 [0, 1, 2, 3, 4, 5, 6, 7] [] hx (le_upd (le_upd (le_upd (le_top _) (o1 (.ref rfl))) (o1 (.ref rfl))) (o1 (.ref rfl))) (ac (qr rfl rfl) (ac (qo rfl) (ac .map (ac (.none _) (ac (.none _) (ac (.cells (fun _ => rfl) (ac .sc (ac .sc (ac .sc (ac .sc (ac .same (ac .same an))))))) (ac qb (ac (.cells id (all2_row _)) an))))))))) ?_
       obtain ⟨r15, er15, h⟩ := bnd h
       obtain ⟨r16, er16, h⟩ := bnd h
       refine AW.draw (n := 119) (L := 10) [(ft 0 64 (rf 0 0) [(1, (rf 0 0))]), (ft 1 65 (rf 5 2) [(3, (rf 5 0))]), (2, ⟨some 66, (st_ a0.Name), [(65, (rf 5 2))], [(5, (some (AObj.cells true (c_dossierplain_Step a0))))], [], none⟩), (ft 3 67 (rf 5 1) [(3, (rf 5 0))]), (4, ⟨some 68, (si a0.N), [(67, (rf 5 1))], [(5, (some (AObj.cells true (c_dossierplain_Step a0))))], [], none⟩), (5, ⟨some 69, (si r15.1), [(64, (rf 0 0)), (66, (st_ a0.Name)), (68, (si a0.N))], [(0, (o_vdisk_Disk_03 false (C.mp 2) (C.ref 6 0) p0)), (2, (om_ e_vdisk_file p0.files)), (6, (bx b0_3))], [(0, (o_vdisk_Disk_03 false (C.mp 2) (C.ref 6 0) r15.2.1)), (2, (om_ e_vdisk_file r15.2.1.files)), (6, (bx r15.2.2))], none⟩), (ft 6 70 (rf 1 0) [(2, (rf 1 0))]), (ft 7 71 (rf 5 2) [(3, (rf 5 0))]), (8, ⟨some 72, (st_ a0.Name), [(71, (rf 5 2))], [(5, (some (AObj.cells true (c_dossierplain_Step a0))))], [], none⟩), (ft 9 73 (rf 5 1) [(3, (rf 5 0))]), (10, ⟨some 74, (si a0.N), [(73, (rf 5 1))], [(5, (some (AObj.cells true (c_dossierplain_Step a0))))], [], none⟩), (11, ⟨some 75, (si r16.1), [(70, (rf 1 0)), (72, (st_ a0.Name)), (74, (si a0.N))], [(1, (o_dossierref03_Disk_0 false (C.own 7 0 p1.L.length 3) p1)), (7, (or_ e_dossierref03_File p1.L))], [(1, (o_dossierref03_Disk_0 false (C.own 9 0 r16.2.L.length 3) r16.2)), (7, none), (9, (or_ e_dossierref03_File r16.2.L))], some 9⟩), (ft 12 76 (sb (r15.1 == r16.1)) [(69, (si r15.1)), (75, (si r16.1))]), (ft 13 6 (sb (r15.1 == r16.1)) [(76, (sb (r15.1 == r16.1)))])] [[], [], [1], [], [3], (.range 5), [], [], [7], [], [9], (.range 11), (.range 12), (.range 13)] (nl rfl) [0, 0, 1, 0, 1, 2, 0, 0, 1, 0, 1, 3, 4, 5] rfl (TK := [(11, 9)]) rfl (AllK.cons' ⟨(tk_upd (tk_upd (tk_upd tk_top rfl) rfl) rfl), (tC rfl (tC rfl (tC rfl (tC rfl (tC rfl (tC rfl (tC rfl (tC (tkO_row _) AllT.nil')))))))), (by repeat (first | refine fC (.inl rfl) ?_ | refine fC (.inr rfl) ?_ | refine fC (.inr (by unfold tkFoot; simp only [List.all_cons, List.all_nil, tkO_row, Bool.and_true, Bool.true_and]; rfl)) ?_ | trivial))⟩ AllK.nil') (by repeat (first | refine fC ⟨?_, ?_⟩ ?_ | refine sC rfl ?_ | refine hC rfl ?_ | trivial)) ?_ ?_
       ·refine y8 ?_ ?_ ?_ ?_ ?_ ?_ ?_ ?_ (y4 ?_ ?_ ?_ ?_ (y2 ?_ ?_ yN))
        ·intro K _ f w u k
         show Wp K ⟨119, (upd 119 f 1 (rf 0 0)), _⟩
         refine s_move (d := (rf 0 0)) rfl k
        ·intro K _ f w u k
         show Wp K ⟨119, (upd 119 f 3 (rf 5 0)), [_, _, _, _, _, _, _, _, _, _]⟩
         refine s_fieldRef F.fo_43_2 (by decide) rfl k
        ·intro K _ f w u k
         show Wp K ⟨119, (upd 119 f 65 (rf 5 2)), [_, _, _, _, _, (some (AObj.cells true (c_dossierplain_Step a0))), _, _, _, _]⟩
         refine s_load1 (c' := (ct a0.Name)) F.ag_9 rfl rfl k
        ·intro K _ f w u k
         show Wp K ⟨119, (upd 119 f 3 (rf 5 0)), [_, _, _, _, _, _, _, _, _, _]⟩
         refine s_fieldRef F.fo_43_1 (by decide) rfl k
        ·intro K _ f w u k
         show Wp K ⟨119, (upd 119 f 67 (rf 5 1)), [_, _, _, _, _, (some (AObj.cells true (c_dossierplain_Step a0))), _, _, _, _]⟩
         refine s_load1 (c' := (ci a0.N)) F.ag_3 rfl rfl k
        ·intro K _ f w u k
         show Wp K ⟨119, (upd 119 (upd 119 (upd 119 f 68 (si a0.N)) 66 (st_ a0.Name)) 64 (rf 0 0)), [(o_vdisk_Disk_03 false (C.mp 2) (C.ref 6 0) p0), _, (om_ e_vdisk_file p0.files), _, _, _, (bx b0_3), _, _, _]⟩
         refine cc [0, 2, 6] [(o_vdisk_Disk_03 false (C.mp 2) (C.ref 6 0) r15.2.1), (w 1), (om_ e_vdisk_file r15.2.1.files), (w 3), (w 4), (w 5), (bx r15.2.2), (w 7), (w 8), (w 9)] (si r15.1) F.ca_19 rfl rfl (ac (.one (.ref rfl)) (ac (.one .sc) (ac (.one .sc) an))) (ac (.cells (ac (.mp rfl) (ac .sc (ac .sc (ac (.ref rfl) (ac .sc an)))))) (ac .map (ac (.cells (ac .sc an)) an))) (vdisk_Disk_Truncate_19.meets _ p0 a0.Name a0.N b0_3 r15 er15) k
        ·intro K _ f w u k
         show Wp K ⟨119, (upd 119 f 2 (rf 1 0)), _⟩
         refine s_move (d := (rf 1 0)) rfl k
        ·intro K _ f w u k
         show Wp K ⟨119, (upd 119 f 3 (rf 5 0)), [_, _, _, _, _, _, _, _, _, _]⟩
         refine s_fieldRef F.fo_43_2 (by decide) rfl k
        ·intro K _ f w u k
         show Wp K ⟨119, (upd 119 f 71 (rf 5 2)), [_, _, _, _, _, (some (AObj.cells true (c_dossierplain_Step a0))), _, _, _, _]⟩
         refine s_load1 (c' := (ct a0.Name)) F.ag_9 rfl rfl k
        ·intro K _ f w u k
         show Wp K ⟨119, (upd 119 f 3 (rf 5 0)), [_, _, _, _, _, _, _, _, _, _]⟩
         refine s_fieldRef F.fo_43_1 (by decide) rfl k
        ·intro K _ f w u k
         show Wp K ⟨119, (upd 119 f 73 (rf 5 1)), [_, _, _, _, _, (some (AObj.cells true (c_dossierplain_Step a0))), _, _, _, _]⟩
         refine s_load1 (c' := (ci a0.N)) F.ag_3 rfl rfl k
        ·intro K _ f w u k
         show Wp K ⟨119, (upd 119 (upd 119 (upd 119 f 74 (si a0.N)) 72 (st_ a0.Name)) 70 (rf 1 0)), [_, (o_dossierref03_Disk_0 false (C.own 7 0 p1.L.length 3) p1), _, _, _, _, _, (or_ e_dossierref03_File p1.L), _, _]⟩
         refine cc [1, 7] [(w 0), (o_dossierref03_Disk_0 false (C.own 10 0 r16.2.L.length 3) r16.2), (w 2), (w 3), (w 4), (w 5), (w 6), none, (w 8), (w 9), (or_ e_dossierref03_File r16.2.L)] (si r16.1) F.ca_41 rfl rfl (ac (.one (.ref rfl)) (ac (.one .sc) (ac (.one .sc) an))) (ac (.cells (ac (.own rfl) (ac .sc (ac .sc (ac .sc an))))) (ac (.cells (lend_row _)) an)) (dossierref03_Disk_Truncate_41.meets _ p1 a0.Name a0.N r16 er16) ?_
         refine AWops.weak (st' := ⟨119, (upd 119 (upd 119 (upd 119 (upd 119 f 74 (si a0.N)) 72 (st_ a0.Name)) 70 (rf 1 0)) 75 (si r16.1)), [(w 0), (o_dossierref03_Disk_0 false (C.own 9 0 r16.2.L.length 3) r16.2), (w 2), (w 3), (w 4), (w 5), (w 6), none, (w 8), (or_ e_dossierref03_File r16.2.L)]⟩) (wg 5 [0, 1, 2, 3, 4, 5, 6, 7, 8, 10] [] hx (le_upd2 (le_ok (p := 9) (L := 10) rfl (u 9 rfl).1) (o1 .sc)) (ac (oq 9 10 (u 9 rfl) 0) (ac (qo rfl) (ac (oq 9 10 (u 9 rfl) 2) (ac (oq 9 10 (u 9 rfl) 3) (ac (oq 9 10 (u 9 rfl) 4) (ac (oq 9 10 (u 9 rfl) 5) (ac (oq 9 10 (u 9 rfl) 6) (ac (.none _) (ac (oq 9 10 (u 9 rfl) 8) (ac (.cells id (all2_row _)) an))))))))))) k
        ·intro K _ f w u k
         show Wp K ⟨119, (upd 119 (upd 119 f 75 (si r16.1)) 69 (si r15.1)), _⟩
         refine s_binI (v := (.bool (r15.1 == r16.1))) rfl rfl rfl k
        ·intro K _ f w u k
         show Wp K ⟨119, (upd 119 f 76 (sb (r15.1 == r16.1))), _⟩
         refine s_assign (d := (sb (r15.1 == r16.1))) rfl k
       ·refine AWops.weak (st' := ⟨119, (upd 119 topF 6 (sb (r15.1 == r16.1))), [(o_vdisk_Disk_03 false (C.mp 2) (C.ref 5 0) r15.2.1), (o_dossierref03_Disk_0 false (C.own 6 0 r16.2.L.length 3) r16.2), (om_ e_vdisk_file r15.2.1.files), none, none, (bx r15.2.2), (or_ e_dossierref03_File r16.2.L)]⟩) (wg 5 [0, 1, 2, 3, 4, 6, 9] [] hx (le_upd (le_top _) (o1 .sc)) (ac (qr rfl rfl) (ac (qo rfl) (ac .map (ac (.none _) (ac (.none _) (ac qb (ac (.cells id (all2_row _)) an)))))))) (AWops.nil (AW.ret ?_))
        obtain rfl := Option.some.inj h
        exact ⟨_, rfl, (wg 5 [0, 1, 2, 3, 4, 5, 6] [] rfl (le_upd (le_top _) (o1 .sc)) (ac (qr rfl rfl) (ac (qo rfl) (ac .map (ac (.none _) (ac (.none _) (ac qb (ac (.cells id (all2_row _)) an))))))))⟩
      ·refine AW.cond_no rfl c14 (AW.seq (AW.region ?_))
       refine s_binI (v := (.bool ((IntKind.i64.wrap (Int.tmod (IntKind.u64.wrap a0.Op) 9)) == 5))) rfl rfl rfl (s_assign (d := (sb ((IntKind.i64.wrap (Int.tmod (IntKind.u64.wrap a0.Op) 9)) == 5))) rfl (AWops.nil ?_))
       rcases itH h with ⟨c17, h⟩ | ⟨c17, h⟩
       ·refine AW.cond_yes rfl c17 (AW.seq ?_)
        refine AW.weak (st' := ⟨119, (upd 119 (upd 119 (upd 119 topF 1 (rf 0 0)) 2 (rf 1 0)) 3 (rf 5 0)), [(o_vdisk_Disk_03 false (C.mp 2) (C.ref 6 0) p0), (o_dossierref03_Disk_0 false (C.own 7 0 p1.L.length 3) p1), (om_ e_vdisk_file p0.files), none, none, (some (AObj.cells true (c_dossierplain_Step a0))), (bx b0_3), (or_ e_dossierref03_File p1.L)]⟩) (wg 5 [0, 1, 2, 3, 4, 5, 6, 7] [] hx (le_upd (le_upd (le_upd (le_top _) (o1 (.ref rfl))) (o1 (.ref rfl))) (o1 (.ref rfl))) (ac (qr rfl rfl) (ac (qo rfl) (ac .map (ac (.none _) (ac (.none _) (ac (.cells (fun _ => rfl) (ac .sc (ac .sc (ac .sc (ac .sc (ac .same (ac .same an))))))) (ac qb (ac (.cells id (all2_row _)) an))))))))) ?_
        obtain ⟨r18, er18, h⟩ := bnd h
        obtain ⟨r19, er19, h⟩ := bnd h
        refine AW.draw (n := 119) (L := 10) [(ft 0 79 (rf 0 0) [(1, (rf 0 0))]), (ft 1 80 (rf 5 2) [(3, (rf 5 0))]), (2, ⟨some 81, (st_ a0.Name), [(80, (rf 5 2))], [(5, (some (AObj.cells true (c_dossierplain_Step a0))))], [], none⟩), (3, ⟨some 82, (si r18.1), [(79, (rf 0 0)), (81, (st_ a0.Name))], [(0, (o_vdisk_Disk_03 false (C.mp 2) (C.ref 6 0) p0)), (2, (om_ e_vdisk_file p0.files)), (6, (bx b0_3))], [(0, (o_vdisk_Disk_03 false (C.mp 2) (C.ref 6 0) r18.2.1)), (2, (om_ e_vdisk_file r18.2.1.files)), (6, (bx r18.2.2))], none⟩), (ft 4 83 (rf 1 0) [(2, (rf 1 0))]), (ft 5 84 (rf 5 2) [(3, (rf 5 0))]), (6, ⟨some 85, (st_ a0.Name), [(84, (rf 5 2))], [(5, (some (AObj.cells true (c_dossierplain_Step a0))))], [], none⟩), (7, ⟨some 86, (si r19.1), [(83, (rf 1 0)), (85, (st_ a0.Name))], [(1, (o_dossierref03_Disk_0 false (C.own 7 0 p1.L.length 3) p1)), (7, (or_ e_dossierref03_File p1.L))], [(1, (o_dossierref03_Disk_0 false (C.own 9 0 r19.2.L.length 3) r19.2)), (7, none), (9, (or_ e_dossierref03_File r19.2.L))], some 9⟩), (ft 8 87 (sb (r18.1 == r19.1)) [(82, (si r18.1)), (86, (si r19.1))]), (ft 9 6 (sb (r18.1 == r19.1)) [(87, (sb (r18.1 == r19.1)))])] [[], [], [1], [0, 1, 2], [], [], [5], (.range 7), (.range 8), (.range 9)] (nl rfl) [0, 0, 1, 2, 0, 0, 1, 3, 4, 5] rfl (TK := [(7, 9)]) rfl (AllK.cons' ⟨(tk_upd (tk_upd (tk_upd tk_top rfl) rfl) rfl), (tC rfl (tC rfl (tC rfl (tC rfl (tC rfl (tC rfl (tC rfl (tC (tkO_row _) AllT.nil')))))))), (fC (.inr rfl) (fC (.inr rfl) (fC (.inr rfl) (fC (.inr rfl) (fC (.inr rfl) (fC (.inr rfl) (fC (.inr rfl) (fC (.inl rfl) (fC (.inl rfl) (fC (.inl rfl) AllF.nil'))))))))))⟩ AllK.nil') (by repeat (first | refine fC ⟨?_, ?_⟩ ?_ | refine sC rfl ?_ | refine hC rfl ?_ | trivial)) ?_ ?_
        ·refine y8 ?_ ?_ ?_ ?_ ?_ ?_ ?_ ?_ (y2 ?_ ?_ yN)
         ·intro K _ f w u k
          show Wp K ⟨119, (upd 119 f 1 (rf 0 0)), _⟩
          refine s_move (d := (rf 0 0)) rfl k
         ·intro K _ f w u k
          show Wp K ⟨119, (upd 119 f 3 (rf 5 0)), [_, _, _, _, _, _, _, _, _, _]⟩
          refine s_fieldRef F.fo_43_2 (by decide) rfl k
         ·intro K _ f w u k
          show Wp K ⟨119, (upd 119 f 80 (rf 5 2)), [_, _, _, _, _, (some (AObj.cells true (c_dossierplain_Step a0))), _, _, _, _]⟩
          refine s_load1 (c' := (ct a0.Name)) F.ag_9 rfl rfl k
         ·intro K _ f w u k
          show Wp K ⟨119, (upd 119 (upd 119 f 81 (st_ a0.Name)) 79 (rf 0 0)), [(o_vdisk_Disk_03 false (C.mp 2) (C.ref 6 0) p0), _, (om_ e_vdisk_file p0.files), _, _, _, (bx b0_3), _, _, _]⟩
          refine cc [0, 2, 6] [(o_vdisk_Disk_03 false (C.mp 2) (C.ref 6 0) r18.2.1), (w 1), (om_ e_vdisk_file r18.2.1.files), (w 3), (w 4), (w 5), (bx r18.2.2), (w 7), (w 8), (w 9)] (si r18.1) F.ca_20 rfl rfl (ac (.one (.ref rfl)) (ac (.one .sc) an)) (ac (.cells (ac (.mp rfl) (ac .sc (ac .sc (ac (.ref rfl) (ac .sc an)))))) (ac .map (ac (.cells (ac .sc an)) an))) (vdisk_Disk_Remove_20.meets _ p0 a0.Name b0_3 r18 er18) k
         ·intro K _ f w u k
          show Wp K ⟨119, (upd 119 f 2 (rf 1 0)), _⟩
          refine s_move (d := (rf 1 0)) rfl k
         ·intro K _ f w u k
          show Wp K ⟨119, (upd 119 f 3 (rf 5 0)), [_, _, _, _, _, _, _, _, _, _]⟩
          refine s_fieldRef F.fo_43_2 (by decide) rfl k
         ·intro K _ f w u k
          show Wp K ⟨119, (upd 119 f 84 (rf 5 2)), [_, _, _, _, _, (some (AObj.cells true (c_dossierplain_Step a0))), _, _, _, _]⟩
          refine s_load1 (c' := (ct a0.Name)) F.ag_9 rfl rfl k
         ·intro K _ f w u k
          show Wp K ⟨119, (upd 119 (upd 119 f 85 (st_ a0.Name)) 83 (rf 1 0)), [_, (o_dossierref03_Disk_0 false (C.own 7 0 p1.L.length 3) p1), _, _, _, _, _, (or_ e_dossierref03_File p1.L), _, _]⟩
          refine cc [1, 7] [(w 0), (o_dossierref03_Disk_0 false (C.own 10 0 r19.2.L.length 3) r19.2), (w 2), (w 3), (w 4), (w 5), (w 6), none, (w 8), (w 9), (or_ e_dossierref03_File r19.2.L)] (si r19.1) F.ca_42 rfl rfl (ac (.one (.ref rfl)) (ac (.one .sc) an)) (ac (.cells (ac (.own rfl) (ac .sc (ac .sc (ac .sc an))))) (ac (.cells (lend_row _)) an)) (dossierref03_Disk_Remove_42.meets _ p1 a0.Name r19 er19) ?_
          refine AWops.weak (st' := ⟨119, (upd 119 (upd 119 (upd 119 f 85 (st_ a0.Name)) 83 (rf 1 0)) 86 (si r19.1)), [(w 0), (o_dossierref03_Disk_0 false (C.own 9 0 r19.2.L.length 3) r19.2), (w 2), (w 3), (w 4), (w 5), (w 6), none, (w 8), (or_ e_dossierref03_File r19.2.L)]⟩) (wg 5 [0, 1, 2, 3, 4, 5, 6, 7, 8, 10] [] hx (le_upd2 (le_ok (p := 9) (L := 10) rfl (u 9 rfl).1) (o1 .sc)) (ac (oq 9 10 (u 9 rfl) 0) (ac (qo rfl) (ac (oq 9 10 (u 9 rfl) 2) (ac (oq 9 10 (u 9 rfl) 3) (ac (oq 9 10 (u 9 rfl) 4) (ac (oq 9 10 (u 9 rfl) 5) (ac (oq 9 10 (u 9 rfl) 6) (ac (.none _) (ac (oq 9 10 (u 9 rfl) 8) (ac (.cells id (all2_row _)) an))))))))))) k
         ·intro K _ f w u k
          show Wp K ⟨119, (upd 119 (upd 119 f 86 (si r19.1)) 82 (si r18.1)), _⟩
          refine s_binI (v := (.bool (r18.1 == r19.1))) rfl rfl rfl k
         ·intro K _ f w u k
          show Wp K ⟨119, (upd 119 f 87 (sb (r18.1 == r19.1))), _⟩
          refine s_assign (d := (sb (r18.1 == r19.1))) rfl k
        ·refine AWops.weak (st' := ⟨119, (upd 119 topF 6 (sb (r18.1 == r19.1))), [(o_vdisk_Disk_03 false (C.mp 2) (C.ref 5 0) r18.2.1), (o_dossierref03_Disk_0 false (C.own 6 0 r19.2.L.length 3) r19.2), (om_ e_vdisk_file r18.2.1.files), none, none, (bx r18.2.2), (or_ e_dossierref03_File r19.2.L)]⟩) (wg 5 [0, 1, 2, 3, 4, 6, 9] [] hx (le_upd (le_top _) (o1 .sc)) (ac (qr rfl rfl) (ac (qo rfl) (ac .map (ac (.none _) (ac (.none _) (ac qb (ac (.cells id (all2_row _)) an)))))))) (AWops.nil (AW.ret ?_))
         obtain rfl := Option.some.inj h
         exact ⟨_, rfl, (wg 5 [0, 1, 2, 3, 4, 5, 6] [] rfl (le_upd (le_top _) (o1 .sc)) (ac (qr rfl rfl) (ac (qo rfl) (ac .map (ac (.none _) (ac (.none _) (ac qb (ac (.cells id (all2_row _)) an))))))))⟩
       ·refine AW.cond_no rfl c17 (AW.seq (AW.region ?_))
        refine s_binI (v := (.bool ((IntKind.i64.wrap (Int.tmod (IntKind.u64.wrap a0.Op) 9)) == 6))) rfl rfl rfl (s_assign (d := (sb ((IntKind.i64.wrap (Int.tmod (IntKind.u64.wrap a0.Op) 9)) == 6))) rfl (AWops.nil ?_))
        rcases itH h with ⟨c20, h⟩ | ⟨c20, h⟩
        ·refine AW.cond_yes rfl c20 (AW.seq ?_)
         refine AW.weak (st' := ⟨119, (upd 119 (upd 119 (upd 119 topF 1 (rf 0 0)) 2 (rf 1 0)) 3 (rf 5 0)), [(o_vdisk_Disk_03 false (C.mp 2) (C.ref 6 0) p0), (o_dossierref03_Disk_0 false (C.own 7 0 p1.L.length 3) p1), (om_ e_vdisk_file p0.files), none, none, (some (AObj.cells true (c_dossierplain_Step a0))), (bx b0_3), (or_ e_dossierref03_File p1.L)]⟩) (wg 5 [0, 1, 2, 3, 4, 5, 6, 7] [] hx (le_upd (le_upd (le_upd (le_top _) (o1 (.ref rfl))) (o1 (.ref rfl))) (o1 (.ref rfl))) (ac (qr rfl rfl) (ac (qo rfl) (ac .map (ac (.none _) (ac (.none _) (ac (.cells (fun _ => rfl) (ac .sc (ac .sc (ac .sc (ac .sc (ac .same (ac .same an))))))) (ac qb (ac (.cells id (all2_row _)) an))))))))) ?_
         obtain ⟨r21, er21, h⟩ := bnd h
         obtain ⟨r22, er22, h⟩ := bnd h
         refine AW.draw (n := 119) (L := 10) [(ft 0 90 (rf 0 0) [(1, (rf 0 0))]), (ft 1 91 (rf 5 1) [(3, (rf 5 0))]), (2, ⟨some 92, (si a0.N), [(91, (rf 5 1))], [(5, (some (AObj.cells true (c_dossierplain_Step a0))))], [], none⟩), (3, ⟨some 93, (si r21.1), [(90, (rf 0 0)), (92, (si a0.N))], [(0, (o_vdisk_Disk_03 false (C.mp 2) (C.ref 6 0) p0)), (2, (om_ e_vdisk_file p0.files)), (6, (bx b0_3))], [(0, (o_vdisk_Disk_03 false (C.mp 2) (C.ref 8 0) r21.2.1)), (2, (om_ e_vdisk_file r21.2.1.files)), (6, none), (8, (bx r21.2.2))], some 8⟩), (ft 4 94 (rf 1 0) [(2, (rf 1 0))]), (ft 5 95 (rf 5 1) [(3, (rf 5 0))]), (6, ⟨some 96, (si a0.N), [(95, (rf 5 1))], [(5, (some (AObj.cells true (c_dossierplain_Step a0))))], [], none⟩), (7, ⟨some 97, (si r22.1), [(94, (rf 1 0)), (96, (si a0.N))], [(1, (o_dossierref03_Disk_0 false (C.own 7 0 p1.L.length 3) p1)), (7, (or_ e_dossierref03_File p1.L))], [(1, (o_dossierref03_Disk_0 false (C.own 7 0 r22.2.L.length 3) r22.2)), (7, (or_ e_dossierref03_File r22.2.L))], none⟩), (ft 8 98 (sb (r21.1 == r22.1)) [(93, (si r21.1)), (97, (si r22.1))]), (ft 9 6 (sb (r21.1 == r22.1)) [(98, (sb (r21.1 == r22.1)))])] [[], [], [1], [0, 1, 2], [], [], [5], (.range 7), (.range 8), (.range 9)] (nl rfl) [0, 0, 1, 2, 0, 0, 1, 3, 4, 5] rfl (TK := [(3, 8)]) rfl (AllK.cons' ⟨(tk_upd (tk_upd (tk_upd tk_top rfl) rfl) rfl), (tC rfl (tC rfl (tC rfl (tC rfl (tC rfl (tC rfl (tC rfl (tC (tkO_row _) AllT.nil')))))))), (fC (.inr rfl) (fC (.inr rfl) (fC (.inr rfl) (fC (.inl rfl) (fC (.inr rfl) (fC (.inr rfl) (fC (.inr rfl) (fC (.inl rfl) (fC (.inl rfl) (fC (.inl rfl) AllF.nil'))))))))))⟩ AllK.nil') (by repeat (first | refine fC ⟨?_, ?_⟩ ?_ | refine sC rfl ?_ | refine hC rfl ?_ | trivial)) ?_ ?_
         ·refine y8 ?_ ?_ ?_ ?_ ?_ ?_ ?_ ?_ (y2 ?_ ?_ yN)
          ·intro K _ f w u k
           show Wp K ⟨119, (upd 119 f 1 (rf 0 0)), _⟩
           refine s_move (d := (rf 0 0)) rfl k
          ·intro K _ f w u k
           show Wp K ⟨119, (upd 119 f 3 (rf 5 0)), [_, _, _, _, _, _, _, _, _, _]⟩
           refine s_fieldRef F.fo_43_1 (by decide) rfl k
          ·intro K _ f w u k
           show Wp K ⟨119, (upd 119 f 91 (rf 5 1)), [_, _, _, _, _, (some (AObj.cells true (c_dossierplain_Step a0))), _, _, _, _]⟩
           refine s_load1 (c' := (ci a0.N)) F.ag_3 rfl rfl k
          ·intro K _ f w u k
           show Wp K ⟨119, (upd 119 (upd 119 f 92 (si a0.N)) 90 (rf 0 0)), [(o_vdisk_Disk_03 false (C.mp 2) (C.ref 6 0) p0), _, (om_ e_vdisk_file p0.files), _, _, _, (bx b0_3), _, _, _]⟩
           refine cc [0, 2, 6] [(o_vdisk_Disk_03 false (C.mp 2) (C.ref 10 0) r21.2.1), (w 1), (om_ e_vdisk_file r21.2.1.files), (w 3), (w 4), (w 5), none, (w 7), (w 8), (w 9), (bx r21.2.2)] (si r21.1) F.ca_21 rfl rfl (ac (.one (.ref rfl)) (ac (.one .sc) an)) (ac (.cells (ac (.mp rfl) (ac .sc (ac .sc (ac (.ref rfl) (ac .sc an)))))) (ac .map (ac (.cells (ac .sc an)) an))) (vdisk_Disk_Fuse_21x.meets _ p0 b0_3 a0.N r21 er21) ?_
           refine AWops.weak (st' := ⟨119, (upd 119 (upd 119 (upd 119 f 92 (si a0.N)) 90 (rf 0 0)) 93 (si r21.1)), [(o_vdisk_Disk_03 false (C.mp 2) (C.ref 8 0) r21.2.1), (w 1), (om_ e_vdisk_file r21.2.1.files), (w 3), (w 4), (w 5), none, (w 7), (bx r21.2.2), (w 9)]⟩) (wg 5 [0, 1, 2, 3, 4, 5, 6, 7, 10, 9] [] hx (le_upd2 (le_ok (p := 8) (L := 10) rfl (u 8 rfl).1) (o1 .sc)) (ac (qr rfl rfl) (ac (oq 8 10 (u 8 rfl) 1) (ac .map (ac (oq 8 10 (u 8 rfl) 3) (ac (oq 8 10 (u 8 rfl) 4) (ac (oq 8 10 (u 8 rfl) 5) (ac (.none _) (ac (oq 8 10 (u 8 rfl) 7) (ac qb (ac (oq 8 10 (u 8 rfl) 9) an))))))))))) k
          ·intro K _ f w u k
           show Wp K ⟨119, (upd 119 f 2 (rf 1 0)), _⟩
           refine s_move (d := (rf 1 0)) rfl k
          ·intro K _ f w u k
           show Wp K ⟨119, (upd 119 f 3 (rf 5 0)), [_, _, _, _, _, _, _, _, _, _]⟩
           refine s_fieldRef F.fo_43_1 (by decide) rfl k
          ·intro K _ f w u k
           show Wp K ⟨119, (upd 119 f 95 (rf 5 1)), [_, _, _, _, _, (some (AObj.cells true (c_dossierplain_Step a0))), _, _, _, _]⟩
           refine s_load1 (c' := (ci a0.N)) F.ag_3 rfl rfl k
          ·intro K _ f w u k
           show Wp K ⟨119, (upd 119 (upd 119 f 96 (si a0.N)) 94 (rf 1 0)), [_, (o_dossierref03_Disk_0 false (C.own 7 0 p1.L.length 3) p1), _, _, _, _, _, (or_ e_dossierref03_File p1.L), _, _]⟩
           refine cc [1, 7] [(w 0), (o_dossierref03_Disk_0 false (C.own 7 0 r22.2.L.length 3) r22.2), (w 2), (w 3), (w 4), (w 5), (w 6), (or_ e_dossierref03_File r22.2.L), (w 8), (w 9)] (si r22.1) F.ca_43 rfl rfl (ac (.one (.ref rfl)) (ac (.one .sc) an)) (ac (.cells (ac (.own rfl) (ac .sc (ac .sc (ac .sc an))))) (ac (.cells (lend_row _)) an)) (dossierref03_Disk_Fuse.meets _ p1 a0.N r22 er22) k
          ·intro K _ f w u k
           show Wp K ⟨119, (upd 119 (upd 119 f 97 (si r22.1)) 93 (si r21.1)), _⟩
           refine s_binI (v := (.bool (r21.1 == r22.1))) rfl rfl rfl k
          ·intro K _ f w u k
           show Wp K ⟨119, (upd 119 f 98 (sb (r21.1 == r22.1))), _⟩
           refine s_assign (d := (sb (r21.1 == r22.1))) rfl k
         ·refine AWops.weak (st' := ⟨119, (upd 119 topF 6 (sb (r21.1 == r22.1))), [(o_vdisk_Disk_03 false (C.mp 2) (C.ref 5 0) r21.2.1), (o_dossierref03_Disk_0 false (C.own 6 0 r22.2.L.length 3) r22.2), (om_ e_vdisk_file r21.2.1.files), none, none, (bx r21.2.2), (or_ e_dossierref03_File r22.2.L)]⟩) (wg 5 [0, 1, 2, 3, 4, 8, 7] [] hx (le_upd (le_top _) (o1 .sc)) (ac (qr rfl rfl) (ac (qo rfl) (ac .map (ac (.none _) (ac (.none _) (ac qb (ac (.cells id (all2_row _)) an)))))))) (AWops.nil (AW.ret ?_))
          obtain rfl := Option.some.inj h
          exact ⟨_, rfl, (wg 5 [0, 1, 2, 3, 4, 5, 6] [] rfl (le_upd (le_top _) (o1 .sc)) (ac (qr rfl rfl) (ac (qo rfl) (ac .map (ac (.none _) (ac (.none _) (ac qb (ac (.cells id (all2_row _)) an))))))))⟩
        ·refine AW.cond_no rfl c20 (AW.seq (AW.region ?_))
         refine s_binI (v := (.bool ((IntKind.i64.wrap (Int.tmod (IntKind.u64.wrap a0.Op) 9)) == 7))) rfl rfl rfl (s_assign (d := (sb ((IntKind.i64.wrap (Int.tmod (IntKind.u64.wrap a0.Op) 9)) == 7))) rfl (AWops.nil ?_))
         rcases itH h with ⟨c23, h⟩ | ⟨c23, h⟩
         ·refine AW.cond_yes rfl c23 (AW.seq (AW.region ?_))
          refine s_move (d := (rf 1 0)) rfl (s_fieldRef F.fo_43_5 (by decide) rfl (s_load1 (c' := (C.p false (.sl a0.Keeps.length (a0.Keeps.flatMap e_i64)))) F.ag_24 rfl rfl ?_))
          obtain ⟨r24, er24, h⟩ := bnd h
          refine cc [1, 7] [(o_vdisk_Disk_03 false (C.mp 2) (C.ref 6 0) p0), (o_dossierref03_Disk_0 false (C.own 8 0 r24.L.length 3) r24), (om_ e_vdisk_file p0.files), none, none, (some (AObj.cells true (c_dossierplain_Step a0))), (bx b0_3), none, (or_ e_dossierref03_File r24.L)] (D.tup []) F.ca_44 rfl rfl (ac (.one (.ref rfl)) (ac (.one .imm) an)) (ac (.cells (ac (.own rfl) (ac .sc (ac .sc (ac .sc an))))) (ac (.cells (lend_row _)) an)) (dossierref03_Disk_Crash_44.meets _ p1 a0.Keeps r24 er24) (AWops.nil (AW.seq (AW.region ?_)))
          refine s_move (d := (rf 0 0)) rfl (s_fieldRef F.fo_43_5 (by decide) rfl (s_load1 (c' := (C.p false (.sl a0.Keeps.length (a0.Keeps.flatMap e_i64)))) F.ag_24 rfl rfl ?_))
          obtain ⟨r25, er25, h⟩ := bnd h
          refine cc [0, 2, 6] [(o_vdisk_Disk_03 false (C.mp 2) (C.p true (.v (.pointer none))) r25.2), (o_dossierref03_Disk_0 false (C.own 8 0 r24.L.length 3) r24), (om_ e_vdisk_file r25.2.files), none, none, (some (AObj.cells true (c_dossierplain_Step a0))), none, none, (or_ e_dossierref03_File r24.L)] (si r25.1) F.ca_11 rfl rfl (ac (.one (.ref rfl)) (ac (.one .imm) an)) (ac (.cells (ac (.mp rfl) (ac .sc (ac .sc (ac (.ref rfl) (ac .sc an)))))) (ac .map (ac (.cells (ac .sc an)) an))) (vdisk_Disk_Crash_11x.meets _ p0 b0_3 a0.Keeps r25 er25) (s_binI (v := (.bool (r25.1 == 0))) rfl rfl rfl (s_assign (d := (sb (r25.1 == 0))) rfl (AWops.nil (AW.ret ?_))))
          obtain rfl := Option.some.inj h
          exact ⟨_, rfl, (wg 5 [0, 1, 2, 3, 4, 8] [] rfl (le_upd (le_top _) (o1 .sc)) (ac (qs rfl) (ac (qo rfl) (ac .map (ac (.none _) (ac (.none _) (ac (.cells id (all2_row _)) an)))))))⟩
         ·refine AW.cond_no rfl c23 (AW.skip (AW.seq ?_))
          refine AW.weak (st' := ⟨119, (upd 119 (upd 119 (upd 119 topF 1 (rf 0 0)) 2 (rf 1 0)) 3 (rf 5 0)), [(o_vdisk_Disk_03 false (C.mp 2) (C.ref 6 0) p0), (o_dossierref03_Disk_0 false (C.own 7 0 p1.L.length 3) p1), (om_ e_vdisk_file p0.files), none, none, (some (AObj.cells true (c_dossierplain_Step a0))), (bx b0_3), (or_ e_dossierref03_File p1.L)]⟩) (wg 5 [0, 1, 2, 3, 4, 5, 6, 7] [] hx (le_upd (le_upd (le_upd (le_top _) (o1 (.ref rfl))) (o1 (.ref rfl))) (o1 (.ref rfl))) (ac (qr rfl rfl) (ac (qo rfl) (ac .map (ac (.none _) (ac (.none _) (ac (.cells (fun _ => rfl) (ac .sc (ac .sc (ac .sc (ac .sc (ac .same (ac .same an))))))) (ac qb (ac (.cells id (all2_row _)) an))))))))) ?_
          obtain ⟨r26, er26, h⟩ := bnd h
          obtain ⟨r27, er27, h⟩ := bnd h
          refine AW.draw (n := 119) (L := 10) [(ft 0 110 (rf 0 0) [(1, (rf 0 0))]), (ft 1 111 (rf 5 1) [(3, (rf 5 0))]), (2, ⟨some 112, (si a0.N), [(111, (rf 5 1))], [(5, (some (AObj.cells true (c_dossierplain_Step a0))))], [], none⟩), (3, ⟨some 113, (si r26.1), [(110, (rf 0 0)), (112, (si a0.N))], [(0, (o_vdisk_Disk_03 false (C.mp 2) (C.ref 6 0) p0)), (2, (om_ e_vdisk_file p0.files)), (6, (bx b0_3))], [(0, (o_vdisk_Disk_03 false (C.mp 2) (C.ref 6 0) r26.2)), (2, (om_ e_vdisk_file r26.2.files))], none⟩), (ft 4 114 (rf 1 0) [(2, (rf 1 0))]), (ft 5 115 (rf 5 1) [(3, (rf 5 0))]), (6, ⟨some 116, (si a0.N), [(115, (rf 5 1))], [(5, (some (AObj.cells true (c_dossierplain_Step a0))))], [], none⟩), (7, ⟨some 117, (si r27.1), [(114, (rf 1 0)), (116, (si a0.N))], [(1, (o_dossierref03_Disk_0 false (C.own 7 0 p1.L.length 3) p1)), (7, (or_ e_dossierref03_File p1.L))], [(1, (o_dossierref03_Disk_0 false (C.own 7 0 r27.2.L.length 3) r27.2)), (7, (or_ e_dossierref03_File r27.2.L))], none⟩), (ft 8 118 (sb (r26.1 == r27.1)) [(113, (si r26.1)), (117, (si r27.1))]), (ft 9 6 (sb (r26.1 == r27.1)) [(118, (sb (r26.1 == r27.1)))])] [[], [], [1], [0, 1, 2], [], [], [5], (.range 7), (.range 8), (.range 9)] (nl rfl) [0, 0, 1, 2, 0, 0, 1, 3, 4, 5] rfl (TK := []) rfl AllK.nil' (by repeat (first | refine fC ⟨?_, ?_⟩ ?_ | refine sC rfl ?_ | refine hC rfl ?_ | trivial)) ?_ ?_
          ·refine y8 ?_ ?_ ?_ ?_ ?_ ?_ ?_ ?_ (y2 ?_ ?_ yN)
           ·intro K _ f w u k
            show Wp K ⟨119, (upd 119 f 1 (rf 0 0)), _⟩
            refine s_move (d := (rf 0 0)) rfl k
           ·intro K _ f w u k
            show Wp K ⟨119, (upd 119 f 3 (rf 5 0)), [_, _, _, _, _, _, _, _, _, _]⟩
            refine s_fieldRef F.fo_43_1 (by decide) rfl k
           ·intro K _ f w u k
            show Wp K ⟨119, (upd 119 f 111 (rf 5 1)), [_, _, _, _, _, (some (AObj.cells true (c_dossierplain_Step a0))), _, _, _, _]⟩
            refine s_load1 (c' := (ci a0.N)) F.ag_3 rfl rfl k
           ·intro K _ f w u k
            show Wp K ⟨119, (upd 119 (upd 119 f 112 (si a0.N)) 110 (rf 0 0)), [(o_vdisk_Disk_03 false (C.mp 2) (C.ref 6 0) p0), _, (om_ e_vdisk_file p0.files), _, _, _, (bx b0_3), _, _, _]⟩
            refine cc [0, 2, 6] [(o_vdisk_Disk_03 false (C.mp 2) (C.ref 6 0) r26.2), (w 1), (om_ e_vdisk_file r26.2.files), (w 3), (w 4), (w 5), (bx b0_3), (w 7), (w 8), (w 9)] (si r26.1) F.ca_22 rfl rfl (ac (.one (.ref rfl)) (ac (.one .sc) an)) (ac (.cells (ac (.mp rfl) (ac .sc (ac .sc (ac (.ref rfl) (ac .sc an)))))) (ac .map (ac (.cells (ac .sc an)) an))) (vdisk_Disk_Room_22.meets _ p0 a0.N b0_3 r26 er26) k
           ·intro K _ f w u k
            show Wp K ⟨119, (upd 119 f 2 (rf 1 0)), _⟩
            refine s_move (d := (rf 1 0)) rfl k
           ·intro K _ f w u k
            show Wp K ⟨119, (upd 119 f 3 (rf 5 0)), [_, _, _, _, _, _, _, _, _, _]⟩
            refine s_fieldRef F.fo_43_1 (by decide) rfl k
           ·intro K _ f w u k
            show Wp K ⟨119, (upd 119 f 115 (rf 5 1)), [_, _, _, _, _, (some (AObj.cells true (c_dossierplain_Step a0))), _, _, _, _]⟩
            refine s_load1 (c' := (ci a0.N)) F.ag_3 rfl rfl k
           ·intro K _ f w u k
            show Wp K ⟨119, (upd 119 (upd 119 f 116 (si a0.N)) 114 (rf 1 0)), [_, (o_dossierref03_Disk_0 false (C.own 7 0 p1.L.length 3) p1), _, _, _, _, _, (or_ e_dossierref03_File p1.L), _, _]⟩
            refine cc [1, 7] [(w 0), (o_dossierref03_Disk_0 false (C.own 7 0 r27.2.L.length 3) r27.2), (w 2), (w 3), (w 4), (w 5), (w 6), (or_ e_dossierref03_File r27.2.L), (w 8), (w 9)] (si r27.1) F.ca_45 rfl rfl (ac (.one (.ref rfl)) (ac (.one .sc) an)) (ac (.cells (ac (.own rfl) (ac .sc (ac .sc (ac .sc an))))) (ac (.cells (lend_row _)) an)) (dossierref03_Disk_Room.meets _ p1 a0.N r27 er27) k
           ·intro K _ f w u k
            show Wp K ⟨119, (upd 119 (upd 119 f 117 (si r27.1)) 113 (si r26.1)), _⟩
            refine s_binI (v := (.bool (r26.1 == r27.1))) rfl rfl rfl k
           ·intro K _ f w u k
            show Wp K ⟨119, (upd 119 f 118 (sb (r26.1 == r27.1))), _⟩
            refine s_assign (d := (sb (r26.1 == r27.1))) rfl k
          ·refine AWops.weak (st' := ⟨119, (upd 119 topF 6 (sb (r26.1 == r27.1))), [(o_vdisk_Disk_03 false (C.mp 2) (C.ref 5 0) r26.2), (o_dossierref03_Disk_0 false (C.own 6 0 r27.2.L.length 3) r27.2), (om_ e_vdisk_file r26.2.files), none, none, (bx b0_3), (or_ e_dossierref03_File r27.2.L)]⟩) (wg 5 [0, 1, 2, 3, 4, 6, 7] [] hx (le_upd (le_top _) (o1 .sc)) (ac (qr rfl rfl) (ac (qo rfl) (ac .map (ac (.none _) (ac (.none _) (ac qb (ac (.cells id (all2_row _)) an)))))))) (AWops.nil (AW.ret ?_))
           obtain rfl := Option.some.inj h
           exact ⟨_, rfl, (wg 5 [0, 1, 2, 3, 4, 5, 6] [] rfl (le_upd (le_top _) (o1 .sc)) (ac (qr rfl rfl) (ac (qo rfl) (ac .map (ac (.none _) (ac (.none _) (ac qb (ac (.cells id (all2_row _)) an))))))))⟩
def slices_Clone_byte_byte.f (k : Nat) (a0 : List Int) : Option (List Int) := if (decide (([] : List Int).length + a0.length ≤ 140737488355328)) = true then (some a0) else none
theorem slices_Clone_byte_byte.meets (k : Nat) (a0 : List Int) (r : (List Int)) (h : slices_Clone_byte_byte.f k a0 = some r) : Meets Try.prog 36 [(D.one (C.p false (.sl a0.length (a0.flatMap e_u8))))] [] (D.one (C.own 0 0 r.length 1)) [(ow_ e_u8 r)] := by
 unfold slices_Clone_byte_byte.f at h
 refine Meets.of_body (n := 8) Try.func36 rfl rfl (nl rfl) fun x hx => ?_
 replace hx : x.k = 0 := hx
 show AW _ x _ _ ⟨8, fr0 [(D.one (C.p false (.sl a0.length (a0.flatMap e_u8))))], []⟩
 refine AW.seq (AW.region ?_)
 refine s_assign (d := (sc (.slice none 0 0))) rfl (AWops.nil (AW.seq (AW.seq (AW.region ?_))))
 refine s_move (d := (D.one (C.p false (.sl a0.length (a0.flatMap e_u8))))) rfl (s_eqNil (n := _) F.u_22 rfl (fun _ _ h => by cases h) rfl (.inl rfl) (fun b w => ?_))
 cases b with
 | false =>
  refine AWops.nil ?_
  refine AW.cond_no rfl rfl (AW.skip (AW.seq (AW.region ?_)))
  refine s_buildSlice (n := 0) (ps := []) (cs := rowC e_u8 ([] : List Int)) F.u_22 F.sz_5 F.z_5 rfl rfl (by decide) (by decide) rfl rfl (s_move (d := (D.one (C.p false (.sl a0.length (a0.flatMap e_u8))))) rfl ?_)
  obtain ⟨c1, h⟩ := gdH h
  have dc1 := of_decide_eq_true c1
  refine t_append (xs := ([] : List Int)) (ys := a0) (zs := a0) (H' := [none, (ow_ e_u8 a0)]) F.u_22 F.in_5 rfl e_u8_len (.own rfl rfl) .imm F.u_22 (by omega) (by omega) rfl rfl (s_assign (d := (D.one (C.own 1 0 a0.length 1))) rfl (AWops.nil (AW.ret ?_)))
  obtain rfl := Option.some.inj h
  exact ⟨_, rfl, (wg 0 [1] [] rfl (le_upd (le_top _) (o1 (.own rfl))) (ac (.cells (fun _ => rfl) (all2_row _)) an))⟩
 | true =>
  obtain rfl : a0 = [] := by cases a0 with | nil => rfl | cons _ _ => exact absurd (w (by simp)) (by decide)
  replace h : (some ([] : List Int)) = some r := by simpa [bytesI] using h
  skip
  refine AWops.nil ?_
  refine AW.cond_yes rfl rfl (AW.seq (AW.region ?_))
  refine s_assign (d := (sc (.slice none 0 0))) rfl (AWops.nil (AW.ret ?_))
  obtain rfl := Option.some.inj h
  exact ⟨_, rfl, (Weak.trans (Weak.nil (sz := 1) (i := 0) rfl) (wg 0 [0] [] rfl (le_upd (le_top _) (o1 (CLe.ownN rfl (by simp)))) (ac (.cells (fun _ => rfl) an) an)))⟩
def vdisk_Disk_Read.f (k : Nat) (p0 : vdisk_Disk) (a1 : ByteArray) : Option ((List Int) × Int) := (vdisk_Disk_none.f k p0).bind fun r1 => if p0.dead = true then (some (([] : List Int), 70)) else (if ((mget a1 p0.files).isSome) = true then ((slices_Clone_byte_byte.f k ((lk_vdisk_file a1 p0.files).b)).bind fun r4 => some (r4, 0)) else (some (([] : List Int), 33)))
theorem vdisk_Disk_Read.meets (k : Nat) (p0 : vdisk_Disk) (a1 : ByteArray) (r : (List Int) × Int) (h : vdisk_Disk_Read.f k p0 a1 = some r) : Meets Try.prog 12 [(rf 0 0), (st_ a1)] [(o_vdisk_Disk_03 false (C.mp 1) (C.p true (.v (.pointer none))) p0), (om_ e_vdisk_file p0.files)] (D.tup [(D.one (C.own 2 0 r.1.length 1)), (si r.2)]) [(o_vdisk_Disk_03 false (C.mp 1) (C.p true (.v (.pointer none))) p0), (om_ e_vdisk_file p0.files), (ow_ e_u8 r.1)] := by
 unfold vdisk_Disk_Read.f at h
 refine Meets.of_body (n := 30) Try.func12 rfl rfl (nl rfl) fun x hx => ?_
 replace hx : x.k = 2 := hx
 show AW _ x _ _ ⟨30, fr0 [(rf 0 0), (st_ a1)], [(o_vdisk_Disk_03 false (C.mp 1) (C.p true (.v (.pointer none))) p0), (om_ e_vdisk_file p0.files)]⟩
 refine AW.seq (AW.region ?_)
 refine s_assign (d := (sc (.slice none 0 0))) rfl (s_assign (d := (si 0)) rfl (AWops.nil (AW.seq (AW.block (AW.seq (AW.region (s_move (d := (rf 0 0)) rfl ?_)))))))
 obtain ⟨r1, er1, h⟩ := bnd h
 have kr1 := vdisk_Disk_none.const er1
 subst kr1
 refine cc [0, 1] [(o_vdisk_Disk_03 false (C.mp 1) (C.p true (.v (.pointer none))) p0), (om_ e_vdisk_file p0.files)] (sb false) F.ca_35 rfl rfl (ac (.one (.ref rfl)) an) (ac (.cells (ac (.mp rfl) (ac .sc (ac .sc (ac .sc (ac .sc an)))))) (ac .map an)) (vdisk_Disk_none.meets _ p0 false er1) (s_assign (d := (sb false)) rfl (AWops.nil ?_))
 refine AW.cond_no rfl rfl (AW.seq (AW.region ?_))
 refine s_move (d := (rf 0 0)) rfl (s_nilCheck (d := (rf 0 0)) rfl (.inl ⟨_, _, rfl⟩) (s_fieldRef F.fo_50_4 (by decide) rfl (s_load1 (c' := (cb p0.dead)) F.ag_4 rfl rfl (s_assign (d := (sb p0.dead)) rfl (AWops.nil ?_)))))
 rcases itH h with ⟨c2, h⟩ | ⟨c2, h⟩
 ·refine AW.cond_yes rfl c2 (AW.seq (AW.region ?_))
  refine s_assign (d := (sc (.slice none 0 0))) rfl (s_assign (d := (si 70)) rfl (AWops.nil (AW.ret ?_)))
  obtain rfl := Option.some.inj h
  exact ⟨_, rfl, (Weak.trans (Weak.nilT (j := 0) (sz := 1) rfl rfl rfl) (wg 2 [0, 1, 2] [] rfl (le_upd (le_top _) (DLe.tup (ac (TLe.one (CLe.ownN rfl (by simp))) (ac (TLe.one .sc) an)))) (ac (qs rfl) (ac .map (ac (.cells (fun _ => rfl) an) an)))))⟩
 ·refine AW.cond_no rfl c2 (AW.skip (AW.seq (AW.region ?_)))
  refine s_move (d := (rf 0 0)) rfl (s_nilCheck (d := (rf 0 0)) rfl (.inl ⟨_, _, rfl⟩) (s_fieldRef F.fo_50_0 (by decide) rfl (s_load1 (c' := (C.mp 1)) F.ag_47 rfl rfl (s_move (d := (st_ a1)) rfl (t_lookupOk (b := true) F.u_47 F.u_9 F.z_65 (z := ((⟨([] : List Int), 0⟩ : vdisk_file) : vdisk_file)) (zs := [(.slice none 0 0), (.int .i64 0)]) rfl (fun h => by cases h) (ac ZRel.n (ac (ZRel.v _ rfl) an)) rfl rfl rfl rfl ?_)))))
  refine s_move (d := (D.tup [(D.agg (c_vdisk_file (lk_vdisk_file a1 p0.files))), (sb ((mget a1 p0.files).isSome))])) rfl (s_extract (d := (D.agg (c_vdisk_file (lk_vdisk_file a1 p0.files)))) rfl rfl (s_extract (d := (sb ((mget a1 p0.files).isSome))) rfl rfl (s_alloc (cs := [(C.p true (.v (.slice none 0 0))), (ci 0)]) F.z_65 rfl rfl (s_store (cs' := (c_vdisk_file (lk_vdisk_file a1 p0.files))) rfl rfl rfl (List.cons_ne_nil _ _) rfl F.sz_65 (nl rfl) rfl (s_assign (d := (sb ((mget a1 p0.files).isSome))) rfl (AWops.nil (AW.seq (AW.seq (AW.region ?_)))))))))
  refine s_move (d := (sb ((mget a1 p0.files).isSome))) rfl (s_not rfl (AWops.nil ?_))
  rcases itH h with ⟨c3, h⟩ | ⟨c3, h⟩
  ·refine AW.cond_no rfl (by rw [c3] <;> rfl) (AW.skip (AW.seq (AW.region ?_)))
   refine s_fieldRef F.fo_65_0 (by decide) rfl (s_load1 (c' := (C.p false (.sl ((lk_vdisk_file a1 p0.files).b).length (((lk_vdisk_file a1 p0.files).b).flatMap e_u8)))) F.ag_22 rfl rfl ?_)
   obtain ⟨r4, er4, h⟩ := bnd h
   refine cc [] [(o_vdisk_Disk_03 false (C.mp 1) (C.p true (.v (.pointer none))) p0), (om_ e_vdisk_file p0.files), (some (AObj.cells true (c_vdisk_file (lk_vdisk_file a1 p0.files)))), (ow_ e_u8 r4)] (D.one (C.own 3 0 r4.length 1)) F.ca_36 rfl rfl (ac (.one .imm) an) an (slices_Clone_byte_byte.meets _ ((lk_vdisk_file a1 p0.files).b) r4 er4) (s_assign (d := (D.one (C.own 3 0 r4.length 1))) rfl (s_assign (d := (si 0)) rfl (AWops.nil (AW.ret ?_))))
   obtain rfl := Option.some.inj h
   exact ⟨_, rfl, (wg 2 [0, 1, 3] [] rfl (le_upd (le_top _) (DLe.tup (ac (TLe.one (.own rfl)) (ac (TLe.one .sc) an)))) (ac (qs rfl) (ac .map (ac (.cells (fun _ => rfl) (all2_row _)) an))))⟩
  ·refine AW.cond_yes rfl (by rw [c3] <;> rfl) (AW.seq (AW.region ?_))
   refine s_assign (d := (sc (.slice none 0 0))) rfl (s_assign (d := (si 33)) rfl (AWops.nil (AW.ret ?_)))
   obtain rfl := Option.some.inj h
   exact ⟨_, rfl, (Weak.trans (Weak.nilT (j := 0) (sz := 1) rfl rfl rfl) (wg 2 [0, 1, 3] [] rfl (le_upd (le_top _) (DLe.tup (ac (TLe.one (CLe.ownN rfl (by simp))) (ac (TLe.one .sc) an)))) (ac (qs rfl) (ac .map (ac (.cells (fun _ => rfl) an) an)))))⟩
def dossierref03_Disk_Read.f (k : Nat) (p0 : dossierref03_Disk) (a1 : ByteArray) : Option ((List Int) × Int) := (dossierref03_Disk_there.f k p0 a1).bind fun r1 => if (r1.2 != 0) = true then (some (([] : List Int), r1.2)) else (if (decide (([] : List Int).length + r1.1.B.length ≤ 140737488355328)) = true then (some (r1.1.B, 0)) else none)
theorem dossierref03_Disk_Read.meets (k : Nat) (p0 : dossierref03_Disk) (a1 : ByteArray) (r : (List Int) × Int) (h : dossierref03_Disk_Read.f k p0 a1 = some r) : Meets Try.prog 27 [(rf 0 0), (st_ a1)] [(o_dossierref03_Disk_0 false (C.own 1 0 p0.L.length 3) p0), (or_ e_dossierref03_File p0.L)] (D.tup [(D.one (C.p false (.sl r.1.length (r.1.flatMap e_u8)))), (si r.2)]) [(o_dossierref03_Disk_0 false (C.own 1 0 p0.L.length 3) p0), (or_ e_dossierref03_File p0.L)] := by
 unfold dossierref03_Disk_Read.f at h
 refine Meets.of_body (n := 21) Try.func27 rfl rfl (nl rfl) fun x hx => ?_
 replace hx : x.k = 2 := hx
 show AW _ x _ _ ⟨21, fr0 [(rf 0 0), (st_ a1)], [(o_dossierref03_Disk_0 false (C.own 1 0 p0.L.length 3) p0), (or_ e_dossierref03_File p0.L)]⟩
 refine AW.seq (AW.region ?_)
 refine s_assign (d := (sc (.slice none 0 0))) rfl (s_assign (d := (si 0)) rfl (AWops.nil (AW.seq (AW.region (s_move (d := (rf 0 0)) rfl (s_move (d := (st_ a1)) rfl ?_))))))
 obtain ⟨r1, er1, h⟩ := bnd h
 refine cc [0, 1] [(o_dossierref03_Disk_0 false (C.own 1 0 p0.L.length 3) p0), (or_ e_dossierref03_File p0.L)] (D.tup [(D.agg (c_dossierref03_File r1.1)), (si r1.2)]) F.ca_53 rfl rfl (ac (.one (.ref rfl)) (ac (.one .sc) an)) (ac (.cells (ac (.own rfl) (ac .sc (ac .sc (ac .sc an))))) (ac (.cells (lend_row _)) an)) (dossierref03_Disk_there.meets _ p0 a1 r1 er1) (s_move (d := (D.tup [(D.agg (c_dossierref03_File r1.1)), (si r1.2)])) rfl (s_extract (d := (D.agg (c_dossierref03_File r1.1))) rfl rfl (s_extract (d := (si r1.2)) rfl rfl (s_alloc (cs := [(ct (⟨#[]⟩ : ByteArray)), (C.p true (.v (.slice none 0 0))), (ci 0)]) F.z_82 rfl rfl (s_store (cs' := (c_dossierref03_File r1.1)) rfl rfl rfl (List.cons_ne_nil _ _) rfl F.sz_82 (nl rfl) rfl ?_)))))
 refine s_assign (d := (si r1.2)) rfl (AWops.nil (AW.seq (AW.seq (AW.region ?_))))
 refine s_move (d := (si r1.2)) rfl (s_binI (v := (.bool (r1.2 != 0))) rfl rfl rfl (AWops.nil ?_))
 rcases itH h with ⟨c2, h⟩ | ⟨c2, h⟩
 ·refine AW.cond_yes rfl c2 (AW.seq (AW.region ?_))
  refine s_move (d := (si r1.2)) rfl (s_assign (d := (sc (.slice none 0 0))) rfl (s_assign (d := (si r1.2)) rfl (AWops.nil (AW.ret ?_))))
  obtain rfl := Option.some.inj h
  exact ⟨_, rfl, (wg 2 [0, 1] [] rfl (le_upd (le_top _) (DLe.tup (ac (TLe.one .nil) (ac (TLe.one .sc) an)))) (ac (qo rfl) (ac (.cells id (all2_row _)) an)))⟩
 ·refine AW.cond_no rfl c2 (AW.skip (AW.seq (AW.region ?_)))
  refine s_buildSlice (n := 0) (ps := []) (cs := rowC e_u8 ([] : List Int)) F.u_22 F.sz_5 F.z_5 rfl rfl (by decide) (by decide) rfl rfl (s_fieldRef F.fo_82_1 (by decide) rfl (s_load1 (c' := (C.p false (.sl r1.1.B.length (r1.1.B.flatMap e_u8)))) F.ag_22 rfl rfl ?_))
  obtain ⟨c3, h⟩ := gdH h
  have dc3 := of_decide_eq_true c3
  refine t_append (xs := ([] : List Int)) (ys := r1.1.B) (zs := r1.1.B) (H' := [(o_dossierref03_Disk_0 false (C.own 1 0 p0.L.length 3) p0), (or_ e_dossierref03_File p0.L), (some (AObj.cells true (c_dossierref03_File r1.1))), none, (ow_ e_u8 r1.1.B)]) F.u_22 F.in_5 rfl e_u8_len (.own rfl rfl) .imm F.u_22 (by omega) (by omega) rfl rfl (s_assign (d := (D.one (C.own 4 0 r1.1.B.length 1))) rfl (s_assign (d := (si 0)) rfl (AWops.nil (AW.ret ?_))))
  obtain rfl := Option.some.inj h
  exact ⟨_, rfl, (wg 2 [0, 1] [4] rfl (le_upd (le_top _) (DLe.tup (ac (TLe.one (CLe.frz e_u8_len rfl rfl rfl)) (ac (TLe.one .sc) an)))) (ac (qo rfl) (ac (.cells id (all2_row _)) an)))⟩
def bytes_Equal.f (k : Nat) (a0 : List Int) (a1 : List Int) : Option Bool := some ((ofNums a0).toList == (ofNums a1).toList)
theorem bytes_Equal.meets (k : Nat) (a0 : List Int) (a1 : List Int) (r : Bool) (h : bytes_Equal.f k a0 a1 = some r) : Meets Try.prog 28 [(D.one (C.p false (.sl a0.length (a0.flatMap e_u8)))), (D.one (C.p false (.sl a1.length (a1.flatMap e_u8))))] [] (sb r) [] := by
 unfold bytes_Equal.f at h
 refine Meets.of_body (n := 10) Try.func28 rfl rfl (nl rfl) fun x hx => ?_
 replace hx : x.k = 0 := hx
 show AW _ x _ _ ⟨10, fr0 [(D.one (C.p false (.sl a0.length (a0.flatMap e_u8)))), (D.one (C.p false (.sl a1.length (a1.flatMap e_u8))))], []⟩
 refine AW.seq (AW.region ?_)
 refine s_assign (d := (sb false)) rfl (AWops.nil (AW.seq (AW.region ?_)))
 refine s_move (d := (D.one (C.p false (.sl a0.length (a0.flatMap e_u8))))) rfl (t_toStr (xs := a0) F.u_22 F.u_5 F.u_9 .imm (s_move (d := (D.one (C.p false (.sl a1.length (a1.flatMap e_u8))))) rfl (t_toStr (xs := a1) F.u_22 F.u_5 F.u_9 .imm (s_binS (v := (.bool ((ofNums a0).toList == (ofNums a1).toList))) rfl rfl rfl (s_assign (d := (sb ((ofNums a0).toList == (ofNums a1).toList))) rfl (AWops.nil (AW.ret ?_)))))))
 obtain rfl := Option.some.inj h
 exact ⟨_, rfl, (wg 0 [] [] rfl (le_upd (le_top _) (o1 .sc)) an)⟩
def vdisk_Disk_Copy.f (k : Nat) (p0 : vdisk_Disk) : Option vdisk_Disk := (vdisk_Disk_none.f k p0).bind fun r1 => some p0
theorem vdisk_Disk_Copy.meets (k : Nat) (p0 : vdisk_Disk) (r : vdisk_Disk) (h : vdisk_Disk_Copy.f k p0 = some r) : Meets Try.prog 25 [(rf 0 0)] [(o_vdisk_Disk_03 false (C.mp 1) (C.p true (.v (.pointer none))) p0), (om_ e_vdisk_file p0.files)] (rf 2 0) [(o_vdisk_Disk_03 false (C.mp 1) (C.p true (.v (.pointer none))) p0), (om_ e_vdisk_file p0.files), (o_vdisk_Disk_03 true (C.mp 3) (C.p true (.v (.pointer none))) r), (om_ e_vdisk_file r.files)] := by
 unfold vdisk_Disk_Copy.f at h
 refine Meets.of_body (n := 28) Try.func25 rfl rfl (nl rfl) fun x hx => ?_
 replace hx : x.k = 2 := hx
 show AW _ x _ _ ⟨28, fr0 [(rf 0 0)], [(o_vdisk_Disk_03 false (C.mp 1) (C.p true (.v (.pointer none))) p0), (om_ e_vdisk_file p0.files)]⟩
 refine AW.seq (AW.region ?_)
 refine s_assign (d := (sc (.pointer none))) rfl (AWops.nil (AW.seq (AW.seq (AW.region ?_))))
 refine s_move (d := (rf 0 0)) rfl ?_
 obtain ⟨r1, er1, h⟩ := bnd h
 have kr1 := vdisk_Disk_none.const er1
 subst kr1
 refine cc [0, 1] [(o_vdisk_Disk_03 false (C.mp 1) (C.p true (.v (.pointer none))) p0), (om_ e_vdisk_file p0.files)] (sb false) F.ca_35 rfl rfl (ac (.one (.ref rfl)) an) (ac (.cells (ac (.mp rfl) (ac .sc (ac .sc (ac .sc (ac .sc an)))))) (ac .map an)) (vdisk_Disk_none.meets _ p0 false er1) (AWops.nil ?_)
 refine AW.cond_no rfl rfl (AW.skip (AW.seq (AW.region ?_)))
 refine s_move (d := (rf 0 0)) rfl (s_nilCheck (d := (rf 0 0)) rfl (.inl ⟨_, _, rfl⟩) (s_loadN (ds := [(C.mp 1), (ci p0.room), (ci p0.used), (C.p true (.v (.pointer none))), (cb p0.dead)]) F.ag_50 F.sz_50 rfl rfl rfl (s_alloc (cs := [(C.p true (.v (.map none))), (ci 0), (ci 0), (C.p true (.v (.pointer none))), (cb false)]) F.z_50 rfl rfl (s_store (cs' := [(C.mp 1), (ci p0.room), (ci p0.used), (C.p true (.v (.pointer none))), (cb p0.dead)]) rfl rfl rfl (List.cons_ne_nil _ _) rfl F.sz_50 (nl rfl) rfl (AWops.nil (AW.seq (AW.region (s_move (d := (rf 0 0)) rfl ?_))))))))
 refine s_nilCheck (d := (rf 0 0)) rfl (.inl ⟨_, _, rfl⟩) (s_fieldRef F.fo_50_0 (by decide) rfl (s_load1 (c' := (C.mp 1)) F.ag_47 rfl rfl (cc [1] [(o_vdisk_Disk_03 false (C.mp 1) (C.p true (.v (.pointer none))) p0), (om_ e_vdisk_file p0.files), (o_vdisk_Disk_03 true (C.mp 1) (C.p true (.v (.pointer none))) p0), (om_ e_vdisk_file p0.files)] (D.one (C.mp 3)) F.ca_49 rfl rfl (ac (.one (.mp rfl)) an) (ac .map an) (SK.clone _) (s_fieldRef F.fo_50_0 (by decide) rfl (s_store (cs' := [(C.mp 3), (ci p0.room), (ci p0.used), (C.p true (.v (.pointer none))), (cb p0.dead)]) rfl rfl rfl (List.cons_ne_nil _ _) rfl F.sz_47 (nl rfl) rfl (AWops.nil (AW.seq (AW.seq (AW.region ?_)))))))))
 refine s_move (d := (rf 0 0)) rfl (s_nilCheck (d := (rf 0 0)) rfl (.inl ⟨_, _, rfl⟩) (s_fieldRef F.fo_50_3 (by decide) rfl (s_load1 (c' := (C.p true (.v (.pointer none)))) F.ag_48 rfl rfl (s_ptrNil (b := true) F.u_48 rfl (.inr ⟨⟨_, rfl⟩, rfl⟩) (.inr rfl) (AWops.nil ?_)))))
 refine AW.cond_no rfl rfl (AW.skip (AW.seq (AW.region ?_)))
 refine s_assign (d := (rf 2 0)) rfl (AWops.nil (AW.ret ?_))
 obtain rfl := Option.some.inj h
 exact ⟨_, rfl, (wg 2 [0, 1, 2, 3] [] rfl (le_upd (le_top _) (o1 (.ref rfl))) (ac (qs rfl) (ac .map (ac (.cells (fun _ => rfl) (ac (.mp rfl) (ac .sc (ac .sc (ac .sc (ac .sc an)))))) (ac .map an)))))⟩
def dossierref03_Disk_Copy.f (k : Nat) (p0 : dossierref03_Disk) : Option dossierref03_Disk := if (decide (([] : List dossierref03_File).length + p0.L.length ≤ 2932031007402)) = true then (some p0) else none
theorem dossierref03_Disk_Copy.meets (k : Nat) (p0 : dossierref03_Disk) (r : dossierref03_Disk) (h : dossierref03_Disk_Copy.f k p0 = some r) : Meets Try.prog 30 [(rf 0 0)] [(o_dossierref03_Disk_0 false (C.own 1 0 p0.L.length 3) p0), (or_ e_dossierref03_File p0.L)] (rf 2 0) [(o_dossierref03_Disk_0 false (C.own 1 0 p0.L.length 3) p0), (or_ e_dossierref03_File p0.L), (o_dossierref03_Disk_0 true (C.own 3 0 r.L.length 3) r), (or_ e_dossierref03_File r.L)] := by
 unfold dossierref03_Disk_Copy.f at h
 refine Meets.of_body (n := 14) Try.func30 rfl rfl (nl rfl) fun x hx => ?_
 replace hx : x.k = 2 := hx
 show AW _ x _ _ ⟨14, fr0 [(rf 0 0)], [(o_dossierref03_Disk_0 false (C.own 1 0 p0.L.length 3) p0), (or_ e_dossierref03_File p0.L)]⟩
 refine AW.seq (AW.region ?_)
 refine s_assign (d := (sc (.pointer none))) rfl (AWops.nil (AW.seq (AW.region ?_)))
 refine s_move (d := (rf 0 0)) rfl (s_nilCheck (d := (rf 0 0)) rfl (.inl ⟨_, _, rfl⟩) (s_loadN (ds := [(C.own 1 0 p0.L.length 3), (ci p0.Most), (ci p0.Burns), (cb p0.Off)]) F.ag_72 F.sz_72 rfl rfl rfl (s_alloc (cs := [(C.p true (.v (.slice none 0 0))), (ci 0), (ci 0), (cb false)]) F.z_72 rfl rfl (s_store (cs' := [(C.own 1 0 p0.L.length 3), (ci p0.Most), (ci p0.Burns), (cb p0.Off)]) rfl rfl rfl (List.cons_ne_nil _ _) rfl F.sz_72 (nl rfl) rfl (AWops.nil (AW.seq (AW.region (s_buildSlice (n := 0) (ps := []) (cs := rowC e_dossierref03_File ([] : List dossierref03_File)) F.u_70 F.sz_82 F.z_82 rfl rfl (by decide) (by decide) rfl rfl ?_))))))))
 refine s_move (d := (rf 0 0)) rfl (s_nilCheck (d := (rf 0 0)) rfl (.inl ⟨_, _, rfl⟩) (s_fieldRef F.fo_72_0 (by decide) rfl (s_load1 (c' := (C.own 1 0 p0.L.length 3)) F.ag_70 rfl rfl ?_)))
 obtain ⟨c1, h⟩ := gdH h
 have dc1 := of_decide_eq_true c1
 refine t_append (xs := ([] : List dossierref03_File)) (ys := p0.L) (zs := p0.L) (H' := [(o_dossierref03_Disk_0 false (C.own 1 0 p0.L.length 3) p0), (or_ e_dossierref03_File p0.L), (o_dossierref03_Disk_0 true (C.own 1 0 p0.L.length 3) p0), none, (ow_ e_dossierref03_File p0.L)]) F.u_70 F.in_82 rfl e_dossierref03_File_len (.own rfl rfl) (.own rfl rfl) F.u_70 (by omega) (by omega) rfl rfl (s_fieldRef F.fo_72_0 (by decide) rfl (s_store (cs' := [(C.own 4 0 p0.L.length 3), (ci p0.Most), (ci p0.Burns), (cb p0.Off)]) rfl rfl rfl (List.cons_ne_nil _ _) rfl F.sz_70 (nl rfl) rfl (AWops.nil (AW.seq (AW.region (s_assign (d := (rf 2 0)) rfl (AWops.nil (AW.ret ?_))))))))
 obtain rfl := Option.some.inj h
 exact ⟨_, rfl, (wg 2 [0, 1, 2, 4] [] rfl (le_upd (le_top _) (o1 (.ref rfl))) (ac (qo rfl) (ac (.cells id (all2_row _)) (ac (.cells (fun _ => rfl) (ac (.own rfl) (ac .sc (ac .sc (ac .sc an))))) (ac (.cells (fun _ => rfl) (all2_row _)) an)))))⟩
mutual
def dossierref03_Disk_Names.l0 : Nat → (List ByteArray) → Int → dossierref03_Disk → Option (List ByteArray)
 | 0, _, _, _ => none
 | k + 1, x1, x2, p0 => if (decide (x2 < (p0.L.length : Int))) = true then ((rd p0.L x2).bind fun v4 => if (decide (x1.length + ([v4.Name] : List ByteArray).length ≤ 8796093022208)) = true then (dossierref03_Disk_Names.l0 k (x1 ++ ([v4.Name] : List ByteArray)) (IntKind.i64.wrap (x2 + 1)) p0) else none) else (some x1)
end
def dossierref03_Disk_Names.f (k : Nat) (p0 : dossierref03_Disk) : Option (List ByteArray) := dossierref03_Disk_Names.l0 k ([] : List ByteArray) 0 p0
theorem dossierref03_Disk_Names.meets (k : Nat) (p0 : dossierref03_Disk) (r : (List ByteArray)) (h : dossierref03_Disk_Names.f k p0 = some r) : Meets Try.prog 51 [(rf 0 0)] [(o_dossierref03_Disk_0 false (C.own 1 0 p0.L.length 3) p0), (or_ e_dossierref03_File p0.L)] (D.one (C.own 2 0 r.length 1)) [(o_dossierref03_Disk_0 false (C.own 1 0 p0.L.length 3) p0), (or_ e_dossierref03_File p0.L), (ow_ e_str r)] := by
 unfold dossierref03_Disk_Names.f at h
 refine Meets.of_body (n := 22) Try.func51 rfl rfl (nl rfl) fun x hx => ?_
 replace hx : x.k = 2 := hx
 show AW _ x _ _ ⟨22, fr0 [(rf 0 0)], [(o_dossierref03_Disk_0 false (C.own 1 0 p0.L.length 3) p0), (or_ e_dossierref03_File p0.L)]⟩
 refine AW.seq (AW.region ?_)
 refine s_assign (d := (sc (.slice none 0 0))) rfl (AWops.nil (AW.seq (AW.region ?_)))
 refine s_assign (d := (sc (.slice none 0 0))) rfl (AWops.nil (AW.seq (AW.seq (AW.region ?_))))
 refine s_move (d := (rf 0 0)) rfl (s_nilCheck (d := (rf 0 0)) rfl (.inl ⟨_, _, rfl⟩) (s_fieldRef F.fo_72_0 (by decide) rfl (s_load1 (c' := (C.own 1 0 p0.L.length 3)) F.ag_70 rfl rfl (s_len (n := p0.L.length) F.u_70 rfl (.inr ⟨(fun _ _ h => by cases h), ⟨_, rfl⟩⟩) (s_move (d := (si 0)) rfl (AWops.nil (AW.block ?_)))))))
 refine AW.loopw (st0 := ⟨22, (upd 22 (upd 22 (upd 22 (upd 22 topF 3 (D.one (C.own 2 0 ([] : List ByteArray).length 1))) 9 (D.one (C.own 1 0 p0.L.length 3))) 10 (si (p0.L.length : Int))) 11 (si 0)), [(o_dossierref03_Disk_0 false (C.own 1 0 p0.L.length 3) p0), (or_ e_dossierref03_File p0.L), (some (AObj.cells true (rowC e_str ([] : List ByteArray))))]⟩) (fun kv st => kv ≤ k ∧ ∃ (x1 : List ByteArray) (x2 : Int), dossierref03_Disk_Names.l0 kv x1 x2 p0 = some r ∧ st = ⟨22, (upd 22 (upd 22 (upd 22 (upd 22 topF 3 (D.one (C.own 2 0 x1.length 1))) 9 (D.one (C.own 1 0 p0.L.length 3))) 10 (si (p0.L.length : Int))) 11 (si x2)), [(o_dossierref03_Disk_0 false (C.own 1 0 p0.L.length 3) p0), (or_ e_dossierref03_File p0.L), (ow_ e_str x1)]⟩) (k := k) (Weak.trans (Weak.nil (sz := 1) (i := 3) rfl) (wg 2 [0, 1, 2] [] hx (le_upd (le_upd (le_upd (le_upd (le_top _) (o1 (.own rfl))) (o1 (.own rfl))) (o1 .sc)) (o1 .sc)) (ac (qo rfl) (ac (.cells id (all2_row _)) (ac (.cells (fun _ => rfl) an) an))))) ⟨Nat.le_refl _, ([] : List ByteArray), 0, h, rfl⟩ ?_
 rintro ql0 st ⟨hkl0, x1, x2, h, rfl⟩
 cases ql0 with
 | zero => exact absurd h (by simp [dossierref03_Disk_Names.l0])
 | succ ql0 =>
  replace h := (dossierref03_Disk_Names.l0.eq_2 _ _ _ _).symm.trans h
  refine AW.seq (AW.region ?_)
  refine s_binI (v := (.bool (decide (x2 < (p0.L.length : Int))))) rfl rfl rfl (AWops.nil (AW.seq ?_))
  rcases itH h with ⟨c3, h⟩ | ⟨c3, h⟩
  ·refine AW.cond_yes rfl c3 (AW.skip (AW.seq (AW.block (AW.seq (AW.region ?_)))))
   obtain ⟨v4, ev4, h⟩ := bnd h
   obtain ⟨pv4, qv4, gv4⟩ := rd_some ev4
   refine s_indexOwn (d := (D.one (C.ref 1 (0 + x2.toNat * 3)))) F.u_70 F.sz_82 rfl rfl pv4 qv4 rfl ?_
   obtain ⟨R5, hR5⟩ := row_at (f := e_dossierref03_File) (sz := 3) (o := 0) e_dossierref03_File_len gv4 (e_dossierref03_File_eq v4) (by decide)
   refine s_loadN (ds := (c_dossierref03_File v4)) F.ag_82 F.sz_82 (congrArg some hR5) rfl rfl (s_alloc (cs := [(ct (⟨#[]⟩ : ByteArray)), (C.p true (.v (.slice none 0 0))), (ci 0)]) F.z_82 rfl rfl (s_store (cs' := (c_dossierref03_File v4)) rfl rfl rfl (List.cons_ne_nil _ _) rfl F.sz_82 (nl rfl) rfl (AWops.nil (AW.region (s_move (d := (D.one (C.own 2 0 x1.length 1))) rfl (s_fieldRef F.fo_82_0 (by decide) rfl (s_load1 (c' := (ct v4.Name)) F.ag_9 rfl rfl ?_)))))))
   refine s_buildSlice (n := 1) (ps := [(0, (st_ v4.Name))]) (cs := rowC e_str ([v4.Name] : List ByteArray)) F.u_55 F.sz_9 F.z_9 rfl rfl (by decide) (by decide) rfl rfl ?_
   obtain ⟨c6, h⟩ := gdH h
   have dc6 := of_decide_eq_true c6
   refine t_append (xs := x1) (ys := ([v4.Name] : List ByteArray)) (zs := x1 ++ ([v4.Name] : List ByteArray)) (H' := [(o_dossierref03_Disk_0 false (C.own 1 0 p0.L.length 3) p0), (or_ e_dossierref03_File p0.L), none, (some (AObj.cells true (c_dossierref03_File v4))), (some (AObj.cells true (rowC e_str ([v4.Name] : List ByteArray)))), (some (AObj.cells true (rowC e_str (x1 ++ ([v4.Name] : List ByteArray)))))]) F.u_55 F.in_9 rfl e_str_len (.own rfl rfl) (.own rfl rfl) F.u_55 (by omega) (by omega) rfl rfl (s_assign (d := (D.one (C.own 5 0 ((x1 ++ ([v4.Name] : List ByteArray)).length) 1))) rfl (AWops.nil (AW.region (s_binI (v := (.int .i64 (IntKind.i64.wrap (x2 + 1)))) rfl rfl rfl (s_move (d := (si (IntKind.i64.wrap (x2 + 1)))) rfl (AWops.nil ?_))))))
   exact ⟨_, ⟨22, (upd 22 (upd 22 (upd 22 (upd 22 topF 3 (D.one (C.own 2 0 (x1 ++ ([v4.Name] : List ByteArray)).length 1))) 9 (D.one (C.own 1 0 p0.L.length 3))) 10 (si (p0.L.length : Int))) 11 (si (IntKind.i64.wrap (x2 + 1)))), [(o_dossierref03_Disk_0 false (C.own 1 0 p0.L.length 3) p0), (or_ e_dossierref03_File p0.L), (some (AObj.cells true (rowC e_str (x1 ++ ([v4.Name] : List ByteArray)))))]⟩, by omega, (wg 2 [0, 1, 5] [] hx (le_upd (le_upd (le_upd (le_upd (le_top _) (o1 (.own rfl))) (o1 (.own rfl))) (o1 .sc)) (o1 .sc)) (ac (qo rfl) (ac (.cells id (all2_row _)) (ac (.cells (fun _ => rfl) (all2_row _)) an)))), by omega, x1 ++ ([v4.Name] : List ByteArray), IntKind.i64.wrap (x2 + 1), h, rfl⟩
  ·refine AW.cond_no rfl c3 (AW.exit (AW.seq (AW.region ?_)))
   refine s_move (d := (D.one (C.own 2 0 x1.length 1))) rfl (s_assign (d := (D.one (C.own 2 0 x1.length 1))) rfl (AWops.nil (AW.ret ?_)))
   obtain rfl := Option.some.inj h
   exact ⟨_, rfl, (wg 2 [0, 1, 2] [] rfl (le_upd (le_top _) (o1 (.own rfl))) (ac (qo rfl) (ac (.cells id (all2_row _)) (ac (.cells (fun _ => rfl) (all2_row _)) an))))⟩
mutual
def slices_Equal_string_string.l0 : Nat → Int → (List ByteArray) → (List ByteArray) → Option Bool
 | 0, _, _, _ => none
 | k + 1, x2, a0, a1 => if (decide (x2 < (a0.length : Int))) = true then ((rd a0 x2).bind fun v4 => (rd a1 x2).bind fun v5 => if (v4.toList == v5.toList) = true then (slices_Equal_string_string.l0 k (IntKind.i64.wrap (x2 + 1)) a0 a1) else (some false)) else (some true)
end
def slices_Equal_string_string.f (k : Nat) (a0 : List ByteArray) (a1 : List ByteArray) : Option Bool := if ((a0.length : Int) != (a1.length : Int)) = true then (some false) else (slices_Equal_string_string.l0 k 0 a0 a1)
theorem slices_Equal_string_string.meets (k : Nat) (a0 : List ByteArray) (a1 : List ByteArray) (r : Bool) (h : slices_Equal_string_string.f k a0 a1 = some r) : Meets Try.prog 50 [(D.one (C.p false (.sl a0.length (a0.flatMap e_str)))), (D.one (C.p false (.sl a1.length (a1.flatMap e_str))))] [] (sb r) [] := by
 unfold slices_Equal_string_string.f at h
 refine Meets.of_body (n := 26) Try.func50 rfl rfl (nl rfl) fun x hx => ?_
 replace hx : x.k = 0 := hx
 show AW _ x _ _ ⟨26, fr0 [(D.one (C.p false (.sl a0.length (a0.flatMap e_str)))), (D.one (C.p false (.sl a1.length (a1.flatMap e_str))))], []⟩
 refine AW.seq (AW.region ?_)
 refine s_assign (d := (sb false)) rfl (AWops.nil (AW.seq (AW.seq (AW.region ?_))))
 refine s_move (d := (D.one (C.p false (.sl a0.length (a0.flatMap e_str))))) rfl (s_len (n := a0.length) F.u_55 rfl (.inr ⟨(fun _ _ h => by cases h), ⟨_, rfl⟩⟩) (s_move (d := (D.one (C.p false (.sl a1.length (a1.flatMap e_str))))) rfl (s_len (n := a1.length) F.u_55 rfl (.inr ⟨(fun _ _ h => by cases h), ⟨_, rfl⟩⟩) (s_binI (v := (.bool ((a0.length : Int) != (a1.length : Int)))) rfl rfl rfl (AWops.nil ?_)))))
 rcases itH h with ⟨c1, h⟩ | ⟨c1, h⟩
 ·refine AW.cond_yes rfl c1 (AW.seq (AW.region ?_))
  refine s_assign (d := (sb false)) rfl (AWops.nil (AW.ret ?_))
  obtain rfl := Option.some.inj h
  exact ⟨_, rfl, (wg 0 [] [] rfl (le_upd (le_top _) (o1 .sc)) an)⟩
 ·refine AW.cond_no rfl c1 (AW.skip (AW.seq (AW.seq (AW.region ?_))))
  refine s_move (d := (D.one (C.p false (.sl a0.length (a0.flatMap e_str))))) rfl (s_len (n := a0.length) F.u_55 rfl (.inr ⟨(fun _ _ h => by cases h), ⟨_, rfl⟩⟩) (s_move (d := (si 0)) rfl (AWops.nil (AW.block ?_))))
  refine AW.loopw (st0 := ⟨26, (upd 26 (upd 26 (upd 26 (upd 26 topF 0 (D.one (C.p false (.sl a0.length (a0.flatMap e_str))))) 1 (D.one (C.p false (.sl a1.length (a1.flatMap e_str))))) 12 (si (a0.length : Int))) 13 (si 0)), []⟩) (fun kv st => kv ≤ k ∧ ∃ (x2 : Int), slices_Equal_string_string.l0 kv x2 a0 a1 = some r ∧ st = ⟨26, (upd 26 (upd 26 (upd 26 (upd 26 topF 0 (D.one (C.p false (.sl a0.length (a0.flatMap e_str))))) 1 (D.one (C.p false (.sl a1.length (a1.flatMap e_str))))) 12 (si (a0.length : Int))) 13 (si x2)), []⟩) (k := k) (wg 0 [] [] hx (le_upd (le_upd (le_upd (le_upd (le_top _) (o1 .same)) (o1 .same)) (o1 .sc)) (o1 .sc)) an) ⟨Nat.le_refl _, 0, h, rfl⟩ ?_
  rintro ql0 st ⟨hkl0, x2, h, rfl⟩
  cases ql0 with
  | zero => exact absurd h (by simp [slices_Equal_string_string.l0])
  | succ ql0 =>
   replace h := (slices_Equal_string_string.l0.eq_2 _ _ _ _).symm.trans h
   refine AW.seq (AW.region ?_)
   refine s_binI (v := (.bool (decide (x2 < (a0.length : Int))))) rfl rfl rfl (AWops.nil (AW.seq ?_))
   rcases itH h with ⟨c3, h⟩ | ⟨c3, h⟩
   ·refine AW.cond_yes rfl c3 (AW.skip (AW.seq (AW.block (AW.seq (AW.region ?_)))))
    refine s_move (d := (si x2)) rfl (s_assign (d := (si x2)) rfl (AWops.nil (AW.seq ?_)))
    refine AW.weak (st' := ⟨26, (upd 26 (upd 26 (upd 26 (upd 26 (upd 26 topF 0 (D.one (C.p false (.sl a0.length (a0.flatMap e_str))))) 1 (D.one (C.p false (.sl a1.length (a1.flatMap e_str))))) 5 (si x2)) 12 (si (a0.length : Int))) 13 (si x2)), []⟩) (wg 0 [] [] hx (le_upd (le_upd (le_upd (le_upd (le_upd (le_top _) (o1 .same)) (o1 .same)) (o1 .sc)) (o1 .sc)) (o1 .sc)) an) ?_
    obtain ⟨v4, ev4, h⟩ := bnd h
    obtain ⟨pv4, qv4, gv4⟩ := rd_some ev4
    obtain ⟨v5, ev5, h⟩ := bnd h
    obtain ⟨pv5, qv5, gv5⟩ := rd_some ev5
    refine AW.draw (n := 26) (L := 0) [(ft 0 16 (D.one (C.p false (.sl a0.length (a0.flatMap e_str)))) [(0, (D.one (C.p false (.sl a0.length (a0.flatMap e_str)))))]), (ft 1 17 (si x2) [(5, (si x2))]), (ft 2 18 (D.one (C.peek false [P.v (.string v4)])) [(16, (D.one (C.p false (.sl a0.length (a0.flatMap e_str))))), (17, (si x2))]), (ft 3 19 (st_ v4) [(18, (D.one (C.peek false [P.v (.string v4)])))]), (ft 4 20 (D.one (C.p false (.sl a1.length (a1.flatMap e_str)))) [(1, (D.one (C.p false (.sl a1.length (a1.flatMap e_str)))))]), (ft 5 21 (si x2) [(5, (si x2))]), (ft 6 22 (D.one (C.peek false [P.v (.string v5)])) [(20, (D.one (C.p false (.sl a1.length (a1.flatMap e_str))))), (21, (si x2))]), (ft 7 23 (st_ v5) [(22, (D.one (C.peek false [P.v (.string v5)])))]), (ft 8 24 (sb (!(v4.toList == v5.toList))) [(19, (st_ v4)), (23, (st_ v5))])] [[], [], [0, 1], [0, 1, 2], [], [], [4, 5], [4, 5, 6], (.range 8)] (nl rfl) [0, 0, 1, 2, 0, 0, 1, 2, 3] rfl (TK := []) rfl AllK.nil' (by repeat (first | refine fC ⟨?_, ?_⟩ ?_ | refine sC rfl ?_ | refine hC rfl ?_ | trivial)) ?_ ?_
    ·refine y8 ?_ ?_ ?_ ?_ ?_ ?_ ?_ ?_ (pC ?_ yN)
     ·intro K _ f w u k
      show Wp K ⟨26, (upd 26 f 0 (D.one (C.p false (.sl a0.length (a0.flatMap e_str))))), _⟩
      refine s_move (d := (D.one (C.p false (.sl a0.length (a0.flatMap e_str))))) rfl k
     ·intro K _ f w u k
      show Wp K ⟨26, (upd 26 f 5 (si x2)), _⟩
      refine s_move (d := (si x2)) rfl k
     ·intro K _ f w u k
      show Wp K ⟨26, (upd 26 (upd 26 f 17 (si x2)) 16 (D.one (C.p false (.sl a0.length (a0.flatMap e_str))))), []⟩
      refine s_indexImm (ps := [P.v (.string v4)]) F.u_55 F.sz_9 rfl rfl pv4 qv4 (flat_at e_str_len gv4 (e_str_eq v4)) k
     ·intro K _ f w u k
      show Wp K ⟨26, (upd 26 f 18 (D.one (C.peek false [P.v (.string v4)]))), []⟩
      refine s_load1 (c' := (ct v4)) F.ag_9 rfl rfl k
     ·intro K _ f w u k
      show Wp K ⟨26, (upd 26 f 1 (D.one (C.p false (.sl a1.length (a1.flatMap e_str))))), _⟩
      refine s_move (d := (D.one (C.p false (.sl a1.length (a1.flatMap e_str))))) rfl k
     ·intro K _ f w u k
      show Wp K ⟨26, (upd 26 f 5 (si x2)), _⟩
      refine s_move (d := (si x2)) rfl k
     ·intro K _ f w u k
      show Wp K ⟨26, (upd 26 (upd 26 f 21 (si x2)) 20 (D.one (C.p false (.sl a1.length (a1.flatMap e_str))))), []⟩
      refine s_indexImm (ps := [P.v (.string v5)]) F.u_55 F.sz_9 rfl rfl pv5 qv5 (flat_at e_str_len gv5 (e_str_eq v5)) k
     ·intro K _ f w u k
      show Wp K ⟨26, (upd 26 f 22 (D.one (C.peek false [P.v (.string v5)]))), []⟩
      refine s_load1 (c' := (ct v5)) F.ag_9 rfl rfl k
     ·intro K _ f w u k
      show Wp K ⟨26, (upd 26 (upd 26 f 23 (st_ v5)) 19 (st_ v4)), []⟩
      refine s_binS (v := (.bool (!(v4.toList == v5.toList)))) rfl rfl rfl k
    ·refine AWops.weak (st' := ⟨26, (upd 26 (upd 26 (upd 26 (upd 26 (upd 26 topF 0 (D.one (C.p false (.sl a0.length (a0.flatMap e_str))))) 1 (D.one (C.p false (.sl a1.length (a1.flatMap e_str))))) 12 (si (a0.length : Int))) 13 (si x2)) 24 (sb (!(v4.toList == v5.toList)))), []⟩) (wg 0 [] [] hx (le_upd (le_upd (le_upd (le_upd (le_upd (le_top _) (o1 .same)) (o1 .same)) (o1 .sc)) (o1 .sc)) (o1 .sc)) an) (AWops.nil ?_)
     rcases itH h with ⟨c6, h⟩ | ⟨c6, h⟩
     ·refine AW.cond_no rfl (by rw [c6] <;> rfl) (AW.skip (AW.region ?_))
      refine s_binI (v := (.int .i64 (IntKind.i64.wrap (x2 + 1)))) rfl rfl rfl (s_move (d := (si (IntKind.i64.wrap (x2 + 1)))) rfl (AWops.nil ?_))
      exact ⟨_, ⟨26, (upd 26 (upd 26 (upd 26 (upd 26 topF 0 (D.one (C.p false (.sl a0.length (a0.flatMap e_str))))) 1 (D.one (C.p false (.sl a1.length (a1.flatMap e_str))))) 12 (si (a0.length : Int))) 13 (si (IntKind.i64.wrap (x2 + 1)))), []⟩, by omega, (wg 0 [] [] hx (le_upd (le_upd (le_upd (le_upd (le_top _) (o1 .same)) (o1 .same)) (o1 .sc)) (o1 .sc)) an), by omega, IntKind.i64.wrap (x2 + 1), h, rfl⟩
     ·refine AW.cond_yes rfl (by rw [c6] <;> rfl) (AW.seq (AW.region ?_))
      refine s_assign (d := (sb false)) rfl (AWops.nil (AW.ret ?_))
      obtain rfl := Option.some.inj h
      exact ⟨_, rfl, (wg 0 [] [] rfl (le_upd (le_top _) (o1 .sc)) an)⟩
   ·refine AW.cond_no rfl c3 (AW.exit (AW.seq (AW.region ?_)))
    refine s_assign (d := (sb true)) rfl (AWops.nil (AW.ret ?_))
    obtain rfl := Option.some.inj h
    exact ⟨_, rfl, (wg 0 [] [] rfl (le_upd (le_top _) (o1 .sc)) an)⟩
def vdisk_Disk_Used.f (k : Nat) (p0 : vdisk_Disk) : Option Int := (vdisk_Disk_none.f k p0).bind fun r1 => some p0.used
theorem vdisk_Disk_Used.meets (k : Nat) (p0 : vdisk_Disk) (r : Int) (h : vdisk_Disk_Used.f k p0 = some r) : Meets Try.prog 17 [(rf 0 0)] [(o_vdisk_Disk_03 false (C.mp 1) (C.p true (.v (.pointer none))) p0), (om_ e_vdisk_file p0.files)] (si r) [(o_vdisk_Disk_03 false (C.mp 1) (C.p true (.v (.pointer none))) p0), (om_ e_vdisk_file p0.files)] := by
 unfold vdisk_Disk_Used.f at h
 refine Meets.of_body (n := 9) Try.func17 rfl rfl (nl rfl) fun x hx => ?_
 replace hx : x.k = 2 := hx
 show AW _ x _ _ ⟨9, fr0 [(rf 0 0)], [(o_vdisk_Disk_03 false (C.mp 1) (C.p true (.v (.pointer none))) p0), (om_ e_vdisk_file p0.files)]⟩
 refine AW.seq (AW.region ?_)
 refine s_assign (d := (si 0)) rfl (AWops.nil (AW.seq (AW.seq (AW.region ?_))))
 refine s_move (d := (rf 0 0)) rfl ?_
 obtain ⟨r1, er1, h⟩ := bnd h
 have kr1 := vdisk_Disk_none.const er1
 subst kr1
 refine cc [0, 1] [(o_vdisk_Disk_03 false (C.mp 1) (C.p true (.v (.pointer none))) p0), (om_ e_vdisk_file p0.files)] (sb false) F.ca_35 rfl rfl (ac (.one (.ref rfl)) an) (ac (.cells (ac (.mp rfl) (ac .sc (ac .sc (ac .sc (ac .sc an)))))) (ac .map an)) (vdisk_Disk_none.meets _ p0 false er1) (AWops.nil ?_)
 refine AW.cond_no rfl rfl (AW.skip (AW.seq (AW.region ?_)))
 refine s_move (d := (rf 0 0)) rfl (s_nilCheck (d := (rf 0 0)) rfl (.inl ⟨_, _, rfl⟩) (s_fieldRef F.fo_50_2 (by decide) rfl (s_load1 (c' := (ci p0.used)) F.ag_3 rfl rfl (s_assign (d := (si p0.used)) rfl (AWops.nil (AW.ret ?_))))))
 obtain rfl := Option.some.inj h
 exact ⟨_, rfl, (wg 2 [0, 1] [] rfl (le_upd (le_top _) (o1 .sc)) (ac (qs rfl) (ac .map an)))⟩
def vdisk_Disk_Dead.f (k : Nat) (p0 : vdisk_Disk) : Option Bool := (vdisk_Disk_none.f k p0).bind fun r1 => some p0.dead
theorem vdisk_Disk_Dead.meets (k : Nat) (p0 : vdisk_Disk) (r : Bool) (h : vdisk_Disk_Dead.f k p0 = some r) : Meets Try.prog 23 [(rf 0 0)] [(o_vdisk_Disk_03 false (C.mp 1) (C.p true (.v (.pointer none))) p0), (om_ e_vdisk_file p0.files)] (sb r) [(o_vdisk_Disk_03 false (C.mp 1) (C.p true (.v (.pointer none))) p0), (om_ e_vdisk_file p0.files)] := by
 unfold vdisk_Disk_Dead.f at h
 refine Meets.of_body (n := 11) Try.func23 rfl rfl (nl rfl) fun x hx => ?_
 replace hx : x.k = 2 := hx
 show AW _ x _ _ ⟨11, fr0 [(rf 0 0)], [(o_vdisk_Disk_03 false (C.mp 1) (C.p true (.v (.pointer none))) p0), (om_ e_vdisk_file p0.files)]⟩
 refine AW.seq (AW.region ?_)
 refine s_assign (d := (sb false)) rfl (AWops.nil (AW.seq (AW.region ?_)))
 refine s_move (d := (rf 0 0)) rfl ?_
 obtain ⟨r1, er1, h⟩ := bnd h
 have kr1 := vdisk_Disk_none.const er1
 subst kr1
 refine cc [0, 1] [(o_vdisk_Disk_03 false (C.mp 1) (C.p true (.v (.pointer none))) p0), (om_ e_vdisk_file p0.files)] (sb false) F.ca_35 rfl rfl (ac (.one (.ref rfl)) an) (ac (.cells (ac (.mp rfl) (ac .sc (ac .sc (ac .sc (ac .sc an)))))) (ac .map an)) (vdisk_Disk_none.meets _ p0 false er1) (s_move (d := (sb false)) rfl ?_)
 refine AWops.guard_yes rfl (nl rfl) rfl rfl ?_
 refine s_move (d := (rf 0 0)) rfl ?_
 refine AWops.guard_yes rfl (nl rfl) rfl rfl ?_
 refine s_nilCheck (d := (rf 0 0)) rfl (.inl ⟨_, _, rfl⟩) ?_
 refine AWops.guard_yes rfl (nl rfl) rfl rfl ?_
 refine s_fieldRef F.fo_50_4 (by decide) rfl ?_
 refine AWops.guard_yes rfl (nl rfl) rfl rfl ?_
 refine s_load1 (c' := (cb p0.dead)) F.ag_4 rfl rfl (s_pick_no (d := (sb p0.dead)) rfl rfl rfl (s_assign (d := (sb p0.dead)) rfl (AWops.nil (AW.ret ?_))))
 obtain rfl := Option.some.inj h
 exact ⟨_, rfl, (wg 2 [0, 1] [] rfl (le_upd (le_top _) (o1 .sc)) (ac (qs rfl) (ac .map an)))⟩
mutual
def dossierplain_Same.l0 : Nat → Int → vdisk_Disk → dossierref03_Disk → Option Bool
 | 0, _, _, _ => none
 | k + 1, x10, p0, p1 => if (decide (x10 < (p1.L.length : Int))) = true then ((rd p1.L x10).bind fun v12 => (vdisk_Disk_Read.f k p0 v12.Name).bind fun r14 => (dossierref03_Disk_Read.f k p1 v12.Name).bind fun r15 => if (r14.2 != r15.2) = true then (some false) else ((bytes_Equal.f k r14.1 r15.1).bind fun r17 => if r17 = true then (dossierplain_Same.l0 k (IntKind.i64.wrap (x10 + 1)) p0 p1) else (some false))) else (some true)
end
def dossierplain_Same.f (k : Nat) (p0 : vdisk_Disk) (p1 : dossierref03_Disk) : Option Bool := (vdisk_Disk_Names.f k p0).bind fun r1 => (dossierref03_Disk_Names.f k p1).bind fun r2 => (slices_Equal_string_string.f k r1 r2).bind fun r3 => if r3 = true then ((vdisk_Disk_Used.f k p0).bind fun r5 => (dossierref03_Disk_Used.f k p1).bind fun r6 => if (r5 != r6) = true then (some false) else ((vdisk_Disk_Dead.f k p0).bind fun r8 => if (r8 == p1.Off) = true then (dossierplain_Same.l0 k 0 p0 p1) else (some false))) else (some false)
theorem dossierplain_Same.meets (k : Nat) (p0 : vdisk_Disk) (p1 : dossierref03_Disk) (r : Bool) (h : dossierplain_Same.f k p0 p1 = some r) : Meets Try.prog 26 [(rf 0 0), (rf 1 0)] [(o_vdisk_Disk_03 false (C.mp 2) (C.p true (.v (.pointer none))) p0), (o_dossierref03_Disk_0 false (C.own 3 0 p1.L.length 3) p1), (om_ e_vdisk_file p0.files), (or_ e_dossierref03_File p1.L)] (sb r) [(o_vdisk_Disk_03 false (C.mp 2) (C.p true (.v (.pointer none))) p0), (o_dossierref03_Disk_0 false (C.own 3 0 p1.L.length 3) p1), (om_ e_vdisk_file p0.files), (or_ e_dossierref03_File p1.L)] := by
 unfold dossierplain_Same.f at h
 refine Meets.of_body (n := 66) Try.func26 rfl rfl (nl rfl) fun x hx => ?_
 replace hx : x.k = 4 := hx
 show AW _ x _ _ ⟨66, fr0 [(rf 0 0), (rf 1 0)], [(o_vdisk_Disk_03 false (C.mp 2) (C.p true (.v (.pointer none))) p0), (o_dossierref03_Disk_0 false (C.own 3 0 p1.L.length 3) p1), (om_ e_vdisk_file p0.files), (or_ e_dossierref03_File p1.L)]⟩
 refine AW.seq (AW.region ?_)
 refine s_assign (d := (sb false)) rfl (AWops.nil (AW.seq (AW.seq ?_)))
 refine AW.weak (st' := ⟨66, (upd 66 (upd 66 topF 0 (rf 0 0)) 1 (rf 1 0)), [(o_vdisk_Disk_03 false (C.mp 2) (C.p true (.v (.pointer none))) p0), (o_dossierref03_Disk_0 false (C.own 3 0 p1.L.length 3) p1), (om_ e_vdisk_file p0.files), (or_ e_dossierref03_File p1.L)]⟩) (wg 4 [0, 1, 2, 3] [] hx (le_upd (le_upd (le_top _) (o1 (.ref rfl))) (o1 (.ref rfl))) (ac (qs rfl) (ac (qo rfl) (ac .map (ac (.cells id (all2_row _)) an))))) ?_
 obtain ⟨r1, er1, h⟩ := bnd h
 obtain ⟨r2, er2, h⟩ := bnd h
 obtain ⟨r3, er3, h⟩ := bnd h
 rcases itH h with ⟨c4, h⟩ | ⟨c4, h⟩
 ·obtain ⟨r5, er5, h⟩ := bnd h
  obtain ⟨r6, er6, h⟩ := bnd h
  rcases itH h with ⟨c7, h⟩ | ⟨c7, h⟩
  ·refine AW.draw (n := 66) (L := 10) [(ft 0 11 (rf 0 0) [(0, (rf 0 0))]), (1, ⟨some 12, (D.one (C.own 4 0 r1.length 1)), [(11, (rf 0 0))], [(0, (o_vdisk_Disk_03 false (C.mp 2) (C.p true (.v (.pointer none))) p0)), (2, (om_ e_vdisk_file p0.files))], [(4, (ow_ e_str r1))], some 4⟩), (ft 2 13 (rf 1 0) [(1, (rf 1 0))]), (3, ⟨some 14, (D.one (C.own 5 0 r2.length 1)), [(13, (rf 1 0))], [(1, (o_dossierref03_Disk_0 false (C.own 3 0 p1.L.length 3) p1)), (3, (or_ e_dossierref03_File p1.L))], [(5, (ow_ e_str r2))], some 5⟩), (4, ⟨some 15, (sb r3), [(12, (D.one (C.own 4 0 r1.length 1))), (14, (D.one (C.own 5 0 r2.length 1)))], [(4, (ow_ e_str r1)), (5, (ow_ e_str r2))], [], none⟩), (ft 5 16 (sb (!r3)) [(15, (sb r3))]), (ft 6 17 (sb (!r3)) [(16, (sb (!r3)))]), (ft 7 18 (rf 0 0) [(0, (rf 0 0)), (17, (sb (!r3)))]), (8, ⟨some 19, (si r5), [(17, (sb (!r3))), (18, (rf 0 0))], [(0, (o_vdisk_Disk_03 false (C.mp 2) (C.p true (.v (.pointer none))) p0)), (2, (om_ e_vdisk_file p0.files))], [], none⟩), (ft 9 20 (rf 1 0) [(1, (rf 1 0)), (17, (sb (!r3)))]), (10, ⟨some 21, (si r6), [(17, (sb (!r3))), (20, (rf 1 0))], [(1, (o_dossierref03_Disk_0 false (C.own 3 0 p1.L.length 3) p1)), (3, (or_ e_dossierref03_File p1.L))], [], none⟩), (ft 11 22 (sb (r5 != r6)) [(17, (sb (!r3))), (19, (si r5)), (21, (si r6))]), (ft 12 23 (sb (r5 != r6)) [(17, (sb (!r3))), (22, (sb (r5 != r6)))]), (ft 13 24 (sb (r5 != r6)) [(23, (sb (r5 != r6)))]), (ft 14 25 (D.tup []) [(0, (rf 0 0)), (24, (sb (r5 != r6)))]), (ft 15 26 (D.tup []) [(24, (sb (r5 != r6)))]), (ft 16 27 (D.tup []) [(24, (sb (r5 != r6)))]), (ft 17 28 (D.tup []) [(24, (sb (r5 != r6)))]), (ft 18 29 (D.tup []) [(24, (sb (r5 != r6)))]), (ft 19 30 (D.tup []) [(24, (sb (r5 != r6)))]), (ft 20 31 (D.tup []) [(24, (sb (r5 != r6)))]), (ft 21 32 (sb true) [(24, (sb (r5 != r6)))])] [[], [0], [], [0, 1, 2], [0, 1, 2, 3], (.range 5), (.range 6), (.range 7), (.range 8), (.range 7), (.range 10), (.range 11), (.range 12), (.range 13), (.range 14), (.range 15), (.range 14), (.range 14 ++ [16]), (.range 14 ++ [16, 17]), (.range 14 ++ [16, 17, 18]), (.range 20), (.range 21)] (nl rfl) [0, 1, 0, 2, 3, 4, 5, 6, 7, 6, 8, 9, 10, 11, 12, 13, 12, 13, 14, 15, 16, 17] rfl (TK := [(1, 4), (3, 5)]) rfl (AllK.cons' ⟨(tk_upd (tk_upd tk_top rfl) rfl), (tC rfl (tC rfl (tC rfl (tC (tkO_row _) AllT.nil')))), (by repeat (first | refine fC (.inl rfl) ?_ | refine fC (.inr rfl) ?_ | refine fC (.inr (by unfold tkFoot; simp only [List.all_cons, List.all_nil, tkO_row, Bool.and_true, Bool.true_and]; rfl)) ?_ | trivial))⟩ (AllK.cons' ⟨(tk_upd (tk_upd tk_top rfl) rfl), (tC rfl (tC rfl (tC rfl (tC (tkO_row _) AllT.nil')))), (by repeat (first | refine fC (.inl rfl) ?_ | refine fC (.inr rfl) ?_ | refine fC (.inr (by unfold tkFoot; simp only [List.all_cons, List.all_nil, tkO_row, Bool.and_true, Bool.true_and]; rfl)) ?_ | trivial))⟩ AllK.nil')) (by repeat (first | refine fC ⟨?_, ?_⟩ ?_ | refine sC rfl ?_ | refine hC rfl ?_ | trivial)) ?_ ?_
   ·refine y8 ?_ ?_ ?_ ?_ ?_ ?_ ?_ ?_ (y8 ?_ ?_ ?_ ?_ ?_ ?_ ?_ ?_ (y4 ?_ ?_ ?_ ?_ (y2 ?_ ?_ yN)))
    ·intro K _ f w u k
     show Wp K ⟨66, (upd 66 f 0 (rf 0 0)), _⟩
     refine s_move (d := (rf 0 0)) rfl k
    ·intro K _ f w u k
     show Wp K ⟨66, (upd 66 f 11 (rf 0 0)), [(o_vdisk_Disk_03 false (C.mp 2) (C.p true (.v (.pointer none))) p0), _, (om_ e_vdisk_file p0.files), _, _, _, _, _, _, _]⟩
     refine cc [0, 2] [(o_vdisk_Disk_03 false (C.mp 2) (C.p true (.v (.pointer none))) p0), (w 1), (om_ e_vdisk_file p0.files), (w 3), (w 4), (w 5), (w 6), (w 7), (w 8), (w 9), (ow_ e_str r1)] (D.one (C.own 10 0 r1.length 1)) F.ca_24 rfl rfl (ac (.one (.ref rfl)) an) (ac (.cells (ac (.mp rfl) (ac .sc (ac .sc (ac .sc (ac .sc an)))))) (ac .map an)) (vdisk_Disk_Names.meets _ p0 r1 er1) ?_
     refine AWops.weak (st' := ⟨66, (upd 66 (upd 66 f 11 (rf 0 0)) 12 (D.one (C.own 4 0 r1.length 1))), [(o_vdisk_Disk_03 false (C.mp 2) (C.p true (.v (.pointer none))) p0), (w 1), (om_ e_vdisk_file p0.files), (w 3), (ow_ e_str r1), (w 5), (w 6), (w 7), (w 8), (w 9)]⟩) (wg 4 [0, 1, 2, 3, 10, 5, 6, 7, 8, 9] [] hx (le_upd2 (le_ok (p := 4) (L := 10) rfl (u 4 rfl).1) (o1 (.own rfl))) (ac (qs rfl) (ac (oq 4 10 (u 4 rfl) 1) (ac .map (ac (oq 4 10 (u 4 rfl) 3) (ac (.cells (fun _ => rfl) (all2_row _)) (ac (oq 4 10 (u 4 rfl) 5) (ac (oq 4 10 (u 4 rfl) 6) (ac (oq 4 10 (u 4 rfl) 7) (ac (oq 4 10 (u 4 rfl) 8) (ac (oq 4 10 (u 4 rfl) 9) an))))))))))) k
    ·intro K _ f w u k
     show Wp K ⟨66, (upd 66 f 1 (rf 1 0)), _⟩
     refine s_move (d := (rf 1 0)) rfl k
    ·intro K _ f w u k
     show Wp K ⟨66, (upd 66 f 13 (rf 1 0)), [_, (o_dossierref03_Disk_0 false (C.own 3 0 p1.L.length 3) p1), _, (or_ e_dossierref03_File p1.L), _, _, _, _, _, _]⟩
     refine cc [1, 3] [(w 0), (o_dossierref03_Disk_0 false (C.own 3 0 p1.L.length 3) p1), (w 2), (or_ e_dossierref03_File p1.L), (w 4), (w 5), (w 6), (w 7), (w 8), (w 9), (ow_ e_str r2)] (D.one (C.own 10 0 r2.length 1)) F.ca_51 rfl rfl (ac (.one (.ref rfl)) an) (ac (.cells (ac (.own rfl) (ac .sc (ac .sc (ac .sc an))))) (ac (.cells (lend_row _)) an)) (dossierref03_Disk_Names.meets _ p1 r2 er2) ?_
     refine AWops.weak (st' := ⟨66, (upd 66 (upd 66 f 13 (rf 1 0)) 14 (D.one (C.own 5 0 r2.length 1))), [(w 0), (o_dossierref03_Disk_0 false (C.own 3 0 p1.L.length 3) p1), (w 2), (or_ e_dossierref03_File p1.L), (w 4), (ow_ e_str r2), (w 6), (w 7), (w 8), (w 9)]⟩) (wg 4 [0, 1, 2, 3, 4, 10, 6, 7, 8, 9] [] hx (le_upd2 (le_ok (p := 5) (L := 10) rfl (u 5 rfl).1) (o1 (.own rfl))) (ac (oq 5 10 (u 5 rfl) 0) (ac (qo rfl) (ac (oq 5 10 (u 5 rfl) 2) (ac (.cells id (all2_row _)) (ac (oq 5 10 (u 5 rfl) 4) (ac (.cells (fun _ => rfl) (all2_row _)) (ac (oq 5 10 (u 5 rfl) 6) (ac (oq 5 10 (u 5 rfl) 7) (ac (oq 5 10 (u 5 rfl) 8) (ac (oq 5 10 (u 5 rfl) 9) an))))))))))) k
    ·intro K _ f w u k
     show Wp K ⟨66, (upd 66 (upd 66 f 14 (D.one (C.own 5 0 r2.length 1))) 12 (D.one (C.own 4 0 r1.length 1))), [_, _, _, _, (ow_ e_str r1), (ow_ e_str r2), _, _, _, _]⟩
     refine s_call2 (ρ := []) (br := true) (H2 := [(w 0), (w 1), (w 2), (w 3), (ow_ e_str r1), (ow_ e_str r2), (w 6), (w 7), (w 8), (w 9)]) (d := (sb r3)) F.ca_50 rfl rfl (ac (.one (LendC.bor e_str_len rfl rfl rfl)) (ac (.one (LendC.bor e_str_len rfl rfl rfl)) an)) an (by decide) rfl (slices_Equal_string_string.meets _ r1 r2 r3 er3) (.inr ⟨rfl, rfl⟩) rfl rfl k
    ·intro K _ f w u k
     show Wp K ⟨66, (upd 66 f 15 (sb r3)), [_, _, _, _, _, _, _, _, _, _]⟩
     refine s_not rfl k
    ·intro K _ f w u k
     show Wp K ⟨66, (upd 66 f 16 (sb (!r3))), _⟩
     refine s_move (d := (sb (!r3))) rfl k
    ·intro K _ f w u k
     show Wp K ⟨66, (upd 66 (upd 66 f 17 (sb (!r3))) 0 (rf 0 0)), _⟩
     refine AWops.guard_yes rfl (nl rfl) rfl (by rw [c4] <;> rfl) ?_
     refine s_move (d := (rf 0 0)) rfl k
    ·intro K _ f w u k
     show Wp K ⟨66, (upd 66 (upd 66 f 18 (rf 0 0)) 17 (sb (!r3))), [(o_vdisk_Disk_03 false (C.mp 2) (C.p true (.v (.pointer none))) p0), _, (om_ e_vdisk_file p0.files), _, _, _, _, _, _, _]⟩
     refine AWops.guard_yes rfl (nl rfl) rfl (by rw [c4] <;> rfl) ?_
     refine cc [0, 2] [(o_vdisk_Disk_03 false (C.mp 2) (C.p true (.v (.pointer none))) p0), (w 1), (om_ e_vdisk_file p0.files), (w 3), (w 4), (w 5), (w 6), (w 7), (w 8), (w 9)] (si r5) F.ca_17 rfl rfl (ac (.one (.ref rfl)) an) (ac (.cells (ac (.mp rfl) (ac .sc (ac .sc (ac .sc (ac .sc an)))))) (ac .map an)) (vdisk_Disk_Used.meets _ p0 r5 er5) k
    ·intro K _ f w u k
     show Wp K ⟨66, (upd 66 (upd 66 f 17 (sb (!r3))) 1 (rf 1 0)), _⟩
     refine AWops.guard_yes rfl (nl rfl) rfl (by rw [c4] <;> rfl) ?_
     refine s_move (d := (rf 1 0)) rfl k
    ·intro K _ f w u k
     show Wp K ⟨66, (upd 66 (upd 66 f 20 (rf 1 0)) 17 (sb (!r3))), [_, (o_dossierref03_Disk_0 false (C.own 3 0 p1.L.length 3) p1), _, (or_ e_dossierref03_File p1.L), _, _, _, _, _, _]⟩
     refine AWops.guard_yes rfl (nl rfl) rfl (by rw [c4] <;> rfl) ?_
     refine cc [1, 3] [(w 0), (o_dossierref03_Disk_0 false (C.own 3 0 p1.L.length 3) p1), (w 2), (or_ e_dossierref03_File p1.L), (w 4), (w 5), (w 6), (w 7), (w 8), (w 9)] (si r6) F.ca_52 rfl rfl (ac (.one (.ref rfl)) an) (ac (.cells (ac (.own rfl) (ac .sc (ac .sc (ac .sc an))))) (ac (.cells (lend_row _)) an)) (dossierref03_Disk_Used.meets _ p1 r6 er6) k
    ·intro K _ f w u k
     show Wp K ⟨66, (upd 66 (upd 66 (upd 66 f 21 (si r6)) 19 (si r5)) 17 (sb (!r3))), _⟩
     refine AWops.guard_yes rfl (nl rfl) rfl (by rw [c4] <;> rfl) ?_
     refine s_binI (v := (.bool (r5 != r6))) rfl rfl rfl k
    ·intro K _ f w u k
     show Wp K ⟨66, (upd 66 (upd 66 f 22 (sb (r5 != r6))) 17 (sb (!r3))), _⟩
     refine s_pick_no (d := (sb (r5 != r6))) rfl (by rw [c4] <;> rfl) rfl k
    ·intro K _ f w u k
     show Wp K ⟨66, (upd 66 f 23 (sb (r5 != r6))), _⟩
     refine s_move (d := (sb (r5 != r6))) rfl k
    ·intro K _ f w u k
     show Wp K ⟨66, (upd 66 (upd 66 f 24 (sb (r5 != r6))) 0 (rf 0 0)), _⟩
     refine AWops.guard_no rfl (nl rfl) rfl c7 k
    ·intro K _ f w u k
     show Wp K ⟨66, (upd 66 f 24 (sb (r5 != r6))), _⟩
     refine AWops.guard_no rfl (nl rfl) rfl c7 k
    ·intro K _ f w u k
     show Wp K ⟨66, (upd 66 f 24 (sb (r5 != r6))), _⟩
     refine AWops.guard_no rfl (nl rfl) rfl c7 k
    ·intro K _ f w u k
     show Wp K ⟨66, (upd 66 f 24 (sb (r5 != r6))), _⟩
     refine AWops.guard_no rfl (nl rfl) rfl c7 k
    ·intro K _ f w u k
     show Wp K ⟨66, (upd 66 f 24 (sb (r5 != r6))), _⟩
     refine AWops.guard_no rfl (nl rfl) rfl c7 k
    ·intro K _ f w u k
     show Wp K ⟨66, (upd 66 f 24 (sb (r5 != r6))), _⟩
     refine AWops.guard_no rfl (nl rfl) rfl c7 k
    ·intro K _ f w u k
     show Wp K ⟨66, (upd 66 f 24 (sb (r5 != r6))), _⟩
     refine AWops.guard_no rfl (nl rfl) rfl c7 k
    ·intro K _ f w u k
     show Wp K ⟨66, (upd 66 f 24 (sb (r5 != r6))), _⟩
     refine s_pick_yes (d := (sb true)) rfl c7 rfl k
   ·refine AWops.weak (st' := ⟨66, (upd 66 (upd 66 (upd 66 topF 0 (rf 0 0)) 1 (rf 1 0)) 32 (sb true)), [(o_vdisk_Disk_03 false (C.mp 2) (C.p true (.v (.pointer none))) p0), (o_dossierref03_Disk_0 false (C.own 3 0 p1.L.length 3) p1), (om_ e_vdisk_file p0.files), (or_ e_dossierref03_File p1.L)]⟩) (wg 4 [0, 1, 2, 3] [] hx (le_upd (le_upd (le_upd (le_top _) (o1 (.ref rfl))) (o1 (.ref rfl))) (o1 .sc)) (ac (qs rfl) (ac (qo rfl) (ac .map (ac (.cells id (all2_row _)) an))))) (AWops.nil ?_)
    refine AW.cond_yes rfl rfl (AW.seq (AW.region ?_))
    refine s_assign (d := (sb false)) rfl (AWops.nil (AW.ret ?_))
    obtain rfl := Option.some.inj h
    exact ⟨_, rfl, (wg 4 [0, 1, 2, 3] [] rfl (le_upd (le_top _) (o1 .sc)) (ac (qs rfl) (ac (qo rfl) (ac .map (ac (.cells id (all2_row _)) an)))))⟩
  ·obtain ⟨r8, er8, h⟩ := bnd h
   refine AW.draw (n := 66) (L := 10) [(ft 0 11 (rf 0 0) [(0, (rf 0 0))]), (1, ⟨some 12, (D.one (C.own 4 0 r1.length 1)), [(11, (rf 0 0))], [(0, (o_vdisk_Disk_03 false (C.mp 2) (C.p true (.v (.pointer none))) p0)), (2, (om_ e_vdisk_file p0.files))], [(4, (ow_ e_str r1))], some 4⟩), (ft 2 13 (rf 1 0) [(1, (rf 1 0))]), (3, ⟨some 14, (D.one (C.own 5 0 r2.length 1)), [(13, (rf 1 0))], [(1, (o_dossierref03_Disk_0 false (C.own 3 0 p1.L.length 3) p1)), (3, (or_ e_dossierref03_File p1.L))], [(5, (ow_ e_str r2))], some 5⟩), (4, ⟨some 15, (sb r3), [(12, (D.one (C.own 4 0 r1.length 1))), (14, (D.one (C.own 5 0 r2.length 1)))], [(4, (ow_ e_str r1)), (5, (ow_ e_str r2))], [], none⟩), (ft 5 16 (sb (!r3)) [(15, (sb r3))]), (ft 6 17 (sb (!r3)) [(16, (sb (!r3)))]), (ft 7 18 (rf 0 0) [(0, (rf 0 0)), (17, (sb (!r3)))]), (8, ⟨some 19, (si r5), [(17, (sb (!r3))), (18, (rf 0 0))], [(0, (o_vdisk_Disk_03 false (C.mp 2) (C.p true (.v (.pointer none))) p0)), (2, (om_ e_vdisk_file p0.files))], [], none⟩), (ft 9 20 (rf 1 0) [(1, (rf 1 0)), (17, (sb (!r3)))]), (10, ⟨some 21, (si r6), [(17, (sb (!r3))), (20, (rf 1 0))], [(1, (o_dossierref03_Disk_0 false (C.own 3 0 p1.L.length 3) p1)), (3, (or_ e_dossierref03_File p1.L))], [], none⟩), (ft 11 22 (sb (r5 != r6)) [(17, (sb (!r3))), (19, (si r5)), (21, (si r6))]), (ft 12 23 (sb (r5 != r6)) [(17, (sb (!r3))), (22, (sb (r5 != r6)))]), (ft 13 24 (sb (r5 != r6)) [(23, (sb (r5 != r6)))]), (ft 14 25 (rf 0 0) [(0, (rf 0 0)), (24, (sb (r5 != r6)))]), (15, ⟨some 26, (sb r8), [(24, (sb (r5 != r6))), (25, (rf 0 0))], [(0, (o_vdisk_Disk_03 false (C.mp 2) (C.p true (.v (.pointer none))) p0)), (2, (om_ e_vdisk_file p0.files))], [], none⟩), (ft 16 27 (rf 1 0) [(1, (rf 1 0)), (24, (sb (r5 != r6)))]), (ft 17 28 (rf 1 0) [(24, (sb (r5 != r6))), (27, (rf 1 0))]), (ft 18 29 (rf 1 3) [(24, (sb (r5 != r6))), (28, (rf 1 0))]), (19, ⟨some 30, (sb p1.Off), [(24, (sb (r5 != r6))), (29, (rf 1 3))], [(1, (o_dossierref03_Disk_0 false (C.own 3 0 p1.L.length 3) p1))], [], none⟩), (ft 20 31 (sb (!(r8 == p1.Off))) [(24, (sb (r5 != r6))), (26, (sb r8)), (30, (sb p1.Off))]), (ft 21 32 (sb (!(r8 == p1.Off))) [(24, (sb (r5 != r6))), (31, (sb (!(r8 == p1.Off))))])] [[], [0], [], [0, 1, 2], [0, 1, 2, 3], (.range 5), (.range 6), (.range 7), (.range 8), (.range 7), (.range 10), (.range 11), (.range 12), (.range 13), (.range 14), (.range 15), (.range 14), (.range 14 ++ [16]), (.range 14 ++ [16, 17]), (.range 14 ++ [16, 17, 18]), (.range 20), (.range 21)] (nl rfl) [0, 1, 0, 2, 3, 4, 5, 6, 7, 6, 8, 9, 10, 11, 12, 13, 12, 13, 14, 15, 16, 17] rfl (TK := [(1, 4), (3, 5)]) rfl (AllK.cons' ⟨(tk_upd (tk_upd tk_top rfl) rfl), (tC rfl (tC rfl (tC rfl (tC (tkO_row _) AllT.nil')))), (by repeat (first | refine fC (.inl rfl) ?_ | refine fC (.inr rfl) ?_ | refine fC (.inr (by unfold tkFoot; simp only [List.all_cons, List.all_nil, tkO_row, Bool.and_true, Bool.true_and]; rfl)) ?_ | trivial))⟩ (AllK.cons' ⟨(tk_upd (tk_upd tk_top rfl) rfl), (tC rfl (tC rfl (tC rfl (tC (tkO_row _) AllT.nil')))), (by repeat (first | refine fC (.inl rfl) ?_ | refine fC (.inr rfl) ?_ | refine fC (.inr (by unfold tkFoot; simp only [List.all_cons, List.all_nil, tkO_row, Bool.and_true, Bool.true_and]; rfl)) ?_ | trivial))⟩ AllK.nil')) (by repeat (first | refine fC ⟨?_, ?_⟩ ?_ | refine sC rfl ?_ | refine hC rfl ?_ | trivial)) ?_ ?_
   ·refine y8 ?_ ?_ ?_ ?_ ?_ ?_ ?_ ?_ (y8 ?_ ?_ ?_ ?_ ?_ ?_ ?_ ?_ (y4 ?_ ?_ ?_ ?_ (y2 ?_ ?_ yN)))
    ·intro K _ f w u k
     show Wp K ⟨66, (upd 66 f 0 (rf 0 0)), _⟩
     refine s_move (d := (rf 0 0)) rfl k
    ·intro K _ f w u k
     show Wp K ⟨66, (upd 66 f 11 (rf 0 0)), [(o_vdisk_Disk_03 false (C.mp 2) (C.p true (.v (.pointer none))) p0), _, (om_ e_vdisk_file p0.files), _, _, _, _, _, _, _]⟩
     refine cc [0, 2] [(o_vdisk_Disk_03 false (C.mp 2) (C.p true (.v (.pointer none))) p0), (w 1), (om_ e_vdisk_file p0.files), (w 3), (w 4), (w 5), (w 6), (w 7), (w 8), (w 9), (ow_ e_str r1)] (D.one (C.own 10 0 r1.length 1)) F.ca_24 rfl rfl (ac (.one (.ref rfl)) an) (ac (.cells (ac (.mp rfl) (ac .sc (ac .sc (ac .sc (ac .sc an)))))) (ac .map an)) (vdisk_Disk_Names.meets _ p0 r1 er1) ?_
     refine AWops.weak (st' := ⟨66, (upd 66 (upd 66 f 11 (rf 0 0)) 12 (D.one (C.own 4 0 r1.length 1))), [(o_vdisk_Disk_03 false (C.mp 2) (C.p true (.v (.pointer none))) p0), (w 1), (om_ e_vdisk_file p0.files), (w 3), (ow_ e_str r1), (w 5), (w 6), (w 7), (w 8), (w 9)]⟩) (wg 4 [0, 1, 2, 3, 10, 5, 6, 7, 8, 9] [] hx (le_upd2 (le_ok (p := 4) (L := 10) rfl (u 4 rfl).1) (o1 (.own rfl))) (ac (qs rfl) (ac (oq 4 10 (u 4 rfl) 1) (ac .map (ac (oq 4 10 (u 4 rfl) 3) (ac (.cells (fun _ => rfl) (all2_row _)) (ac (oq 4 10 (u 4 rfl) 5) (ac (oq 4 10 (u 4 rfl) 6) (ac (oq 4 10 (u 4 rfl) 7) (ac (oq 4 10 (u 4 rfl) 8) (ac (oq 4 10 (u 4 rfl) 9) an))))))))))) k
    ·intro K _ f w u k
     show Wp K ⟨66, (upd 66 f 1 (rf 1 0)), _⟩
     refine s_move (d := (rf 1 0)) rfl k
    ·intro K _ f w u k
     show Wp K ⟨66, (upd 66 f 13 (rf 1 0)), [_, (o_dossierref03_Disk_0 false (C.own 3 0 p1.L.length 3) p1), _, (or_ e_dossierref03_File p1.L), _, _, _, _, _, _]⟩
     refine cc [1, 3] [(w 0), (o_dossierref03_Disk_0 false (C.own 3 0 p1.L.length 3) p1), (w 2), (or_ e_dossierref03_File p1.L), (w 4), (w 5), (w 6), (w 7), (w 8), (w 9), (ow_ e_str r2)] (D.one (C.own 10 0 r2.length 1)) F.ca_51 rfl rfl (ac (.one (.ref rfl)) an) (ac (.cells (ac (.own rfl) (ac .sc (ac .sc (ac .sc an))))) (ac (.cells (lend_row _)) an)) (dossierref03_Disk_Names.meets _ p1 r2 er2) ?_
     refine AWops.weak (st' := ⟨66, (upd 66 (upd 66 f 13 (rf 1 0)) 14 (D.one (C.own 5 0 r2.length 1))), [(w 0), (o_dossierref03_Disk_0 false (C.own 3 0 p1.L.length 3) p1), (w 2), (or_ e_dossierref03_File p1.L), (w 4), (ow_ e_str r2), (w 6), (w 7), (w 8), (w 9)]⟩) (wg 4 [0, 1, 2, 3, 4, 10, 6, 7, 8, 9] [] hx (le_upd2 (le_ok (p := 5) (L := 10) rfl (u 5 rfl).1) (o1 (.own rfl))) (ac (oq 5 10 (u 5 rfl) 0) (ac (qo rfl) (ac (oq 5 10 (u 5 rfl) 2) (ac (.cells id (all2_row _)) (ac (oq 5 10 (u 5 rfl) 4) (ac (.cells (fun _ => rfl) (all2_row _)) (ac (oq 5 10 (u 5 rfl) 6) (ac (oq 5 10 (u 5 rfl) 7) (ac (oq 5 10 (u 5 rfl) 8) (ac (oq 5 10 (u 5 rfl) 9) an))))))))))) k
    ·intro K _ f w u k
     show Wp K ⟨66, (upd 66 (upd 66 f 14 (D.one (C.own 5 0 r2.length 1))) 12 (D.one (C.own 4 0 r1.length 1))), [_, _, _, _, (ow_ e_str r1), (ow_ e_str r2), _, _, _, _]⟩
     refine s_call2 (ρ := []) (br := true) (H2 := [(w 0), (w 1), (w 2), (w 3), (ow_ e_str r1), (ow_ e_str r2), (w 6), (w 7), (w 8), (w 9)]) (d := (sb r3)) F.ca_50 rfl rfl (ac (.one (LendC.bor e_str_len rfl rfl rfl)) (ac (.one (LendC.bor e_str_len rfl rfl rfl)) an)) an (by decide) rfl (slices_Equal_string_string.meets _ r1 r2 r3 er3) (.inr ⟨rfl, rfl⟩) rfl rfl k
    ·intro K _ f w u k
     show Wp K ⟨66, (upd 66 f 15 (sb r3)), [_, _, _, _, _, _, _, _, _, _]⟩
     refine s_not rfl k
    ·intro K _ f w u k
     show Wp K ⟨66, (upd 66 f 16 (sb (!r3))), _⟩
     refine s_move (d := (sb (!r3))) rfl k
    ·intro K _ f w u k
     show Wp K ⟨66, (upd 66 (upd 66 f 17 (sb (!r3))) 0 (rf 0 0)), _⟩
     refine AWops.guard_yes rfl (nl rfl) rfl (by rw [c4] <;> rfl) ?_
     refine s_move (d := (rf 0 0)) rfl k
    ·intro K _ f w u k
     show Wp K ⟨66, (upd 66 (upd 66 f 18 (rf 0 0)) 17 (sb (!r3))), [(o_vdisk_Disk_03 false (C.mp 2) (C.p true (.v (.pointer none))) p0), _, (om_ e_vdisk_file p0.files), _, _, _, _, _, _, _]⟩
     refine AWops.guard_yes rfl (nl rfl) rfl (by rw [c4] <;> rfl) ?_
     refine cc [0, 2] [(o_vdisk_Disk_03 false (C.mp 2) (C.p true (.v (.pointer none))) p0), (w 1), (om_ e_vdisk_file p0.files), (w 3), (w 4), (w 5), (w 6), (w 7), (w 8), (w 9)] (si r5) F.ca_17 rfl rfl (ac (.one (.ref rfl)) an) (ac (.cells (ac (.mp rfl) (ac .sc (ac .sc (ac .sc (ac .sc an)))))) (ac .map an)) (vdisk_Disk_Used.meets _ p0 r5 er5) k
    ·intro K _ f w u k
     show Wp K ⟨66, (upd 66 (upd 66 f 17 (sb (!r3))) 1 (rf 1 0)), _⟩
     refine AWops.guard_yes rfl (nl rfl) rfl (by rw [c4] <;> rfl) ?_
     refine s_move (d := (rf 1 0)) rfl k
    ·intro K _ f w u k
     show Wp K ⟨66, (upd 66 (upd 66 f 20 (rf 1 0)) 17 (sb (!r3))), [_, (o_dossierref03_Disk_0 false (C.own 3 0 p1.L.length 3) p1), _, (or_ e_dossierref03_File p1.L), _, _, _, _, _, _]⟩
     refine AWops.guard_yes rfl (nl rfl) rfl (by rw [c4] <;> rfl) ?_
     refine cc [1, 3] [(w 0), (o_dossierref03_Disk_0 false (C.own 3 0 p1.L.length 3) p1), (w 2), (or_ e_dossierref03_File p1.L), (w 4), (w 5), (w 6), (w 7), (w 8), (w 9)] (si r6) F.ca_52 rfl rfl (ac (.one (.ref rfl)) an) (ac (.cells (ac (.own rfl) (ac .sc (ac .sc (ac .sc an))))) (ac (.cells (lend_row _)) an)) (dossierref03_Disk_Used.meets _ p1 r6 er6) k
    ·intro K _ f w u k
     show Wp K ⟨66, (upd 66 (upd 66 (upd 66 f 21 (si r6)) 19 (si r5)) 17 (sb (!r3))), _⟩
     refine AWops.guard_yes rfl (nl rfl) rfl (by rw [c4] <;> rfl) ?_
     refine s_binI (v := (.bool (r5 != r6))) rfl rfl rfl k
    ·intro K _ f w u k
     show Wp K ⟨66, (upd 66 (upd 66 f 22 (sb (r5 != r6))) 17 (sb (!r3))), _⟩
     refine s_pick_no (d := (sb (r5 != r6))) rfl (by rw [c4] <;> rfl) rfl k
    ·intro K _ f w u k
     show Wp K ⟨66, (upd 66 f 23 (sb (r5 != r6))), _⟩
     refine s_move (d := (sb (r5 != r6))) rfl k
    ·intro K _ f w u k
     show Wp K ⟨66, (upd 66 (upd 66 f 24 (sb (r5 != r6))) 0 (rf 0 0)), _⟩
     refine AWops.guard_yes rfl (nl rfl) rfl c7 ?_
     refine s_move (d := (rf 0 0)) rfl k
    ·intro K _ f w u k
     show Wp K ⟨66, (upd 66 (upd 66 f 25 (rf 0 0)) 24 (sb (r5 != r6))), [(o_vdisk_Disk_03 false (C.mp 2) (C.p true (.v (.pointer none))) p0), _, (om_ e_vdisk_file p0.files), _, _, _, _, _, _, _]⟩
     refine AWops.guard_yes rfl (nl rfl) rfl c7 ?_
     refine cc [0, 2] [(o_vdisk_Disk_03 false (C.mp 2) (C.p true (.v (.pointer none))) p0), (w 1), (om_ e_vdisk_file p0.files), (w 3), (w 4), (w 5), (w 6), (w 7), (w 8), (w 9)] (sb r8) F.ca_23 rfl rfl (ac (.one (.ref rfl)) an) (ac (.cells (ac (.mp rfl) (ac .sc (ac .sc (ac .sc (ac .sc an)))))) (ac .map an)) (vdisk_Disk_Dead.meets _ p0 r8 er8) k
    ·intro K _ f w u k
     show Wp K ⟨66, (upd 66 (upd 66 f 24 (sb (r5 != r6))) 1 (rf 1 0)), _⟩
     refine AWops.guard_yes rfl (nl rfl) rfl c7 ?_
     refine s_move (d := (rf 1 0)) rfl k
    ·intro K _ f w u k
     show Wp K ⟨66, (upd 66 (upd 66 f 27 (rf 1 0)) 24 (sb (r5 != r6))), [_, _, _, _, _, _, _, _, _, _]⟩
     refine AWops.guard_yes rfl (nl rfl) rfl c7 ?_
     refine s_nilCheck (d := (rf 1 0)) rfl (.inl ⟨_, _, rfl⟩) k
    ·intro K _ f w u k
     show Wp K ⟨66, (upd 66 (upd 66 f 28 (rf 1 0)) 24 (sb (r5 != r6))), [_, _, _, _, _, _, _, _, _, _]⟩
     refine AWops.guard_yes rfl (nl rfl) rfl c7 ?_
     refine s_fieldRef F.fo_72_3 (by decide) rfl k
    ·intro K _ f w u k
     show Wp K ⟨66, (upd 66 (upd 66 f 29 (rf 1 3)) 24 (sb (r5 != r6))), [_, (o_dossierref03_Disk_0 false (C.own 3 0 p1.L.length 3) p1), _, _, _, _, _, _, _, _]⟩
     refine AWops.guard_yes rfl (nl rfl) rfl c7 ?_
     refine s_load1 (c' := (cb p1.Off)) F.ag_4 rfl rfl k
    ·intro K _ f w u k
     show Wp K ⟨66, (upd 66 (upd 66 (upd 66 f 30 (sb p1.Off)) 26 (sb r8)) 24 (sb (r5 != r6))), _⟩
     refine AWops.guard_yes rfl (nl rfl) rfl c7 ?_
     refine s_binB (b := (!(r8 == p1.Off))) F.u_4 rfl rfl (.inr ⟨rfl, rfl⟩) k
    ·intro K _ f w u k
     show Wp K ⟨66, (upd 66 (upd 66 f 31 (sb (!(r8 == p1.Off)))) 24 (sb (r5 != r6))), _⟩
     refine s_pick_no (d := (sb (!(r8 == p1.Off)))) rfl c7 rfl k
   ·refine AWops.weak (st' := ⟨66, (upd 66 (upd 66 (upd 66 topF 0 (rf 0 0)) 1 (rf 1 0)) 32 (sb (!(r8 == p1.Off)))), [(o_vdisk_Disk_03 false (C.mp 2) (C.p true (.v (.pointer none))) p0), (o_dossierref03_Disk_0 false (C.own 3 0 p1.L.length 3) p1), (om_ e_vdisk_file p0.files), (or_ e_dossierref03_File p1.L)]⟩) (wg 4 [0, 1, 2, 3] [] hx (le_upd (le_upd (le_upd (le_top _) (o1 (.ref rfl))) (o1 (.ref rfl))) (o1 .sc)) (ac (qs rfl) (ac (qo rfl) (ac .map (ac (.cells id (all2_row _)) an))))) (AWops.nil ?_)
    rcases itH h with ⟨c9, h⟩ | ⟨c9, h⟩
    ·refine AW.cond_no rfl (by rw [c9] <;> rfl) (AW.skip (AW.seq (AW.seq (AW.region ?_))))
     refine s_move (d := (rf 1 0)) rfl (s_nilCheck (d := (rf 1 0)) rfl (.inl ⟨_, _, rfl⟩) (s_fieldRef F.fo_72_0 (by decide) rfl (s_load1 (c' := (C.own 3 0 p1.L.length 3)) F.ag_70 rfl rfl (s_len (n := p1.L.length) F.u_70 rfl (.inr ⟨(fun _ _ h => by cases h), ⟨_, rfl⟩⟩) (s_move (d := (si 0)) rfl (AWops.nil (AW.block ?_)))))))
     refine AW.loopw (st0 := ⟨66, (upd 66 (upd 66 (upd 66 (upd 66 (upd 66 topF 0 (rf 0 0)) 1 (rf 1 0)) 36 (D.one (C.own 3 0 p1.L.length 3))) 37 (si (p1.L.length : Int))) 38 (si 0)), [(o_vdisk_Disk_03 false (C.mp 2) (C.p true (.v (.pointer none))) p0), (o_dossierref03_Disk_0 false (C.own 3 0 p1.L.length 3) p1), (om_ e_vdisk_file p0.files), (or_ e_dossierref03_File p1.L)]⟩) (fun kv st => kv ≤ k ∧ ∃ (x10 : Int), dossierplain_Same.l0 kv x10 p0 p1 = some r ∧ st = ⟨66, (upd 66 (upd 66 (upd 66 (upd 66 (upd 66 topF 0 (rf 0 0)) 1 (rf 1 0)) 36 (D.one (C.own 3 0 p1.L.length 3))) 37 (si (p1.L.length : Int))) 38 (si x10)), [(o_vdisk_Disk_03 false (C.mp 2) (C.p true (.v (.pointer none))) p0), (o_dossierref03_Disk_0 false (C.own 3 0 p1.L.length 3) p1), (om_ e_vdisk_file p0.files), (or_ e_dossierref03_File p1.L)]⟩) (k := k) (wg 4 [0, 1, 2, 3] [] hx (le_upd (le_upd (le_upd (le_upd (le_upd (le_top _) (o1 (.ref rfl))) (o1 (.ref rfl))) (o1 (.own rfl))) (o1 .sc)) (o1 .sc)) (ac (qs rfl) (ac (qo rfl) (ac .map (ac (.cells id (all2_row _)) an))))) ⟨Nat.le_refl _, 0, h, rfl⟩ ?_
     rintro ql0 st ⟨hkl0, x10, h, rfl⟩
     cases ql0 with
     | zero => exact absurd h (by simp [dossierplain_Same.l0])
     | succ ql0 =>
      replace h := (dossierplain_Same.l0.eq_2 _ _ _ _).symm.trans h
      refine AW.seq (AW.region ?_)
      refine s_binI (v := (.bool (decide (x10 < (p1.L.length : Int))))) rfl rfl rfl (AWops.nil (AW.seq ?_))
      rcases itH h with ⟨c11, h⟩ | ⟨c11, h⟩
      ·refine AW.cond_yes rfl c11 (AW.skip (AW.seq (AW.block (AW.seq (AW.region ?_)))))
       obtain ⟨v12, ev12, h⟩ := bnd h
       obtain ⟨pv12, qv12, gv12⟩ := rd_some ev12
       refine s_indexOwn (d := (D.one (C.ref 3 (0 + x10.toNat * 3)))) F.u_70 F.sz_82 rfl rfl pv12 qv12 rfl ?_
       obtain ⟨R13, hR13⟩ := row_at (f := e_dossierref03_File) (sz := 3) (o := 0) e_dossierref03_File_len gv12 (e_dossierref03_File_eq v12) (by decide)
       refine s_loadN (ds := (c_dossierref03_File v12)) F.ag_82 F.sz_82 (congrArg some hR13) rfl rfl (s_alloc (cs := [(ct (⟨#[]⟩ : ByteArray)), (C.p true (.v (.slice none 0 0))), (ci 0)]) F.z_82 rfl rfl (s_store (cs' := (c_dossierref03_File v12)) rfl rfl rfl (List.cons_ne_nil _ _) rfl F.sz_82 (nl rfl) rfl (AWops.nil (AW.seq (AW.region (s_move (d := (rf 0 0)) rfl (s_fieldRef F.fo_82_0 (by decide) rfl (s_load1 (c' := (ct v12.Name)) F.ag_9 rfl rfl ?_))))))))
       obtain ⟨r14, er14, h⟩ := bnd h
       refine cc [0, 2] [(o_vdisk_Disk_03 false (C.mp 2) (C.p true (.v (.pointer none))) p0), (o_dossierref03_Disk_0 false (C.own 3 0 p1.L.length 3) p1), (om_ e_vdisk_file p0.files), (or_ e_dossierref03_File p1.L), (some (AObj.cells true (c_dossierref03_File v12))), (ow_ e_u8 r14.1)] (D.tup [(D.one (C.own 5 0 r14.1.length 1)), (si r14.2)]) F.ca_12 rfl rfl (ac (.one (.ref rfl)) (ac (.one .sc) an)) (ac (.cells (ac (.mp rfl) (ac .sc (ac .sc (ac .sc (ac .sc an)))))) (ac .map an)) (vdisk_Disk_Read.meets _ p0 v12.Name r14 er14) (s_move (d := (D.tup [(D.one (C.own 5 0 r14.1.length 1)), (si r14.2)])) rfl (s_extract (d := (D.one (C.own 5 0 r14.1.length 1))) rfl rfl (s_extract (d := (si r14.2)) rfl rfl (s_assign (d := (D.one (C.own 5 0 r14.1.length 1))) rfl (s_assign (d := (si r14.2)) rfl (AWops.nil (AW.seq (AW.region ?_))))))))
       refine s_move (d := (rf 1 0)) rfl (s_fieldRef F.fo_82_0 (by decide) rfl (s_load1 (c' := (ct v12.Name)) F.ag_9 rfl rfl ?_))
       obtain ⟨r15, er15, h⟩ := bnd h
       refine cc [1, 3] [(o_vdisk_Disk_03 false (C.mp 2) (C.p true (.v (.pointer none))) p0), (o_dossierref03_Disk_0 false (C.own 3 0 p1.L.length 3) p1), (om_ e_vdisk_file p0.files), (or_ e_dossierref03_File p1.L), (some (AObj.cells true (c_dossierref03_File v12))), (ow_ e_u8 r14.1)] (D.tup [(D.one (C.p false (.sl r15.1.length (r15.1.flatMap e_u8)))), (si r15.2)]) F.ca_27 rfl rfl (ac (.one (.ref rfl)) (ac (.one .sc) an)) (ac (.cells (ac (.own rfl) (ac .sc (ac .sc (ac .sc an))))) (ac (.cells (lend_row _)) an)) (dossierref03_Disk_Read.meets _ p1 v12.Name r15 er15) (s_move (d := (D.tup [(D.one (C.p false (.sl r15.1.length (r15.1.flatMap e_u8)))), (si r15.2)])) rfl (s_extract (d := (D.one (C.p false (.sl r15.1.length (r15.1.flatMap e_u8))))) rfl rfl (s_extract (d := (si r15.2)) rfl rfl (s_assign (d := (D.one (C.p false (.sl r15.1.length (r15.1.flatMap e_u8))))) rfl (s_assign (d := (si r15.2)) rfl (AWops.nil (AW.seq (AW.region ?_))))))))
       refine s_move (d := (si r14.2)) rfl (s_move (d := (si r15.2)) rfl (s_binI (v := (.bool (r14.2 != r15.2))) rfl rfl rfl (s_move (d := (sb (r14.2 != r15.2))) rfl ?_)))
       rcases itH h with ⟨c16, h⟩ | ⟨c16, h⟩
       ·iterate 4 refine AWops.guard_no rfl (nl rfl) rfl c16 ?_
        refine s_pick_yes (d := (sb true)) rfl c16 rfl (AWops.nil ?_)
        refine AW.cond_yes rfl rfl (AW.seq (AW.region ?_))
        refine s_assign (d := (sb false)) rfl (AWops.nil (AW.ret ?_))
        obtain rfl := Option.some.inj h
        exact ⟨_, rfl, (wg 4 [0, 1, 2, 3] [] rfl (le_upd (le_top _) (o1 .sc)) (ac (qs rfl) (ac (qo rfl) (ac .map (ac (.cells id (all2_row _)) an)))))⟩
       ·refine AWops.guard_yes rfl (nl rfl) rfl c16 ?_
        refine s_move (d := (D.one (C.own 5 0 r14.1.length 1))) rfl ?_
        refine AWops.guard_yes rfl (nl rfl) rfl c16 ?_
        refine s_move (d := (D.one (C.p false (.sl r15.1.length (r15.1.flatMap e_u8))))) rfl ?_
        refine AWops.guard_yes rfl (nl rfl) rfl c16 ?_
        obtain ⟨r17, er17, h⟩ := bnd h
        refine s_call2 (ρ := []) (br := true) (H2 := [(o_vdisk_Disk_03 false (C.mp 2) (C.p true (.v (.pointer none))) p0), (o_dossierref03_Disk_0 false (C.own 3 0 p1.L.length 3) p1), (om_ e_vdisk_file p0.files), (or_ e_dossierref03_File p1.L), (some (AObj.cells true (c_dossierref03_File v12))), (ow_ e_u8 r14.1)]) (d := (sb r17)) F.ca_28 rfl rfl (ac (.one (LendC.bor e_u8_len rfl rfl rfl)) (ac (.one .imm) an)) an (by decide) rfl (bytes_Equal.meets _ r14.1 r15.1 r17 er17) (.inr ⟨rfl, rfl⟩) rfl rfl ?_
        refine AWops.guard_yes rfl (nl rfl) rfl c16 ?_
        refine s_not rfl (s_pick_no (d := (sb (!r17))) rfl c16 rfl (AWops.nil ?_))
        rcases itH h with ⟨c18, h⟩ | ⟨c18, h⟩
        ·refine AW.cond_no rfl (by rw [c18] <;> rfl) (AW.skip (AW.region ?_))
         refine s_binI (v := (.int .i64 (IntKind.i64.wrap (x10 + 1)))) rfl rfl rfl (s_move (d := (si (IntKind.i64.wrap (x10 + 1)))) rfl (AWops.nil ?_))
         exact ⟨_, ⟨66, (upd 66 (upd 66 (upd 66 (upd 66 (upd 66 topF 0 (rf 0 0)) 1 (rf 1 0)) 36 (D.one (C.own 3 0 p1.L.length 3))) 37 (si (p1.L.length : Int))) 38 (si (IntKind.i64.wrap (x10 + 1)))), [(o_vdisk_Disk_03 false (C.mp 2) (C.p true (.v (.pointer none))) p0), (o_dossierref03_Disk_0 false (C.own 3 0 p1.L.length 3) p1), (om_ e_vdisk_file p0.files), (or_ e_dossierref03_File p1.L)]⟩, by omega, (wg 4 [0, 1, 2, 3] [] hx (le_upd (le_upd (le_upd (le_upd (le_upd (le_top _) (o1 (.ref rfl))) (o1 (.ref rfl))) (o1 (.own rfl))) (o1 .sc)) (o1 .sc)) (ac (qs rfl) (ac (qo rfl) (ac .map (ac (.cells id (all2_row _)) an))))), by omega, IntKind.i64.wrap (x10 + 1), h, rfl⟩
        ·refine AW.cond_yes rfl (by rw [c18] <;> rfl) (AW.seq (AW.region ?_))
         refine s_assign (d := (sb false)) rfl (AWops.nil (AW.ret ?_))
         obtain rfl := Option.some.inj h
         exact ⟨_, rfl, (wg 4 [0, 1, 2, 3] [] rfl (le_upd (le_top _) (o1 .sc)) (ac (qs rfl) (ac (qo rfl) (ac .map (ac (.cells id (all2_row _)) an)))))⟩
      ·refine AW.cond_no rfl c11 (AW.exit (AW.seq (AW.region ?_)))
       refine s_assign (d := (sb true)) rfl (AWops.nil (AW.ret ?_))
       obtain rfl := Option.some.inj h
       exact ⟨_, rfl, (wg 4 [0, 1, 2, 3] [] rfl (le_upd (le_top _) (o1 .sc)) (ac (qs rfl) (ac (qo rfl) (ac .map (ac (.cells id (all2_row _)) an)))))⟩
    ·refine AW.cond_yes rfl (by rw [c9] <;> rfl) (AW.seq (AW.region ?_))
     refine s_assign (d := (sb false)) rfl (AWops.nil (AW.ret ?_))
     obtain rfl := Option.some.inj h
     exact ⟨_, rfl, (wg 4 [0, 1, 2, 3] [] rfl (le_upd (le_top _) (o1 .sc)) (ac (qs rfl) (ac (qo rfl) (ac .map (ac (.cells id (all2_row _)) an)))))⟩
 ·refine AW.draw (n := 66) (L := 10) [(ft 0 11 (rf 0 0) [(0, (rf 0 0))]), (1, ⟨some 12, (D.one (C.own 4 0 r1.length 1)), [(11, (rf 0 0))], [(0, (o_vdisk_Disk_03 false (C.mp 2) (C.p true (.v (.pointer none))) p0)), (2, (om_ e_vdisk_file p0.files))], [(4, (ow_ e_str r1))], some 4⟩), (ft 2 13 (rf 1 0) [(1, (rf 1 0))]), (3, ⟨some 14, (D.one (C.own 5 0 r2.length 1)), [(13, (rf 1 0))], [(1, (o_dossierref03_Disk_0 false (C.own 3 0 p1.L.length 3) p1)), (3, (or_ e_dossierref03_File p1.L))], [(5, (ow_ e_str r2))], some 5⟩), (4, ⟨some 15, (sb r3), [(12, (D.one (C.own 4 0 r1.length 1))), (14, (D.one (C.own 5 0 r2.length 1)))], [(4, (ow_ e_str r1)), (5, (ow_ e_str r2))], [], none⟩), (ft 5 16 (sb (!r3)) [(15, (sb r3))]), (ft 6 17 (sb (!r3)) [(16, (sb (!r3)))]), (ft 7 18 (D.tup []) [(0, (rf 0 0)), (17, (sb (!r3)))]), (ft 8 19 (D.tup []) [(17, (sb (!r3)))]), (ft 9 20 (D.tup []) [(17, (sb (!r3)))]), (ft 10 21 (D.tup []) [(17, (sb (!r3)))]), (ft 11 22 (D.tup []) [(17, (sb (!r3)))]), (ft 12 23 (sb true) [(17, (sb (!r3)))]), (ft 13 24 (sb true) [(23, (sb true))]), (ft 14 25 (D.tup []) [(24, (sb true))]), (ft 15 26 (D.tup []) [(24, (sb true))]), (ft 16 27 (D.tup []) [(24, (sb true))]), (ft 17 28 (D.tup []) [(24, (sb true))]), (ft 18 29 (D.tup []) [(24, (sb true))]), (ft 19 30 (D.tup []) [(24, (sb true))]), (ft 20 31 (D.tup []) [(24, (sb true))]), (ft 21 32 (sb true) [(24, (sb true))])] [[], [0], [], [0, 1, 2], [0, 1, 2, 3], (.range 5), (.range 6), (.range 7), (.range 8), (.range 7), (.range 10), (.range 11), (.range 12), (.range 13), (.range 14), (.range 15), (.range 14), (.range 14 ++ [16]), (.range 14 ++ [16, 17]), (.range 14 ++ [16, 17, 18]), (.range 20), (.range 21)] (nl rfl) [0, 1, 0, 2, 3, 4, 5, 6, 7, 6, 8, 9, 10, 11, 12, 13, 12, 13, 14, 15, 16, 17] rfl (TK := [(1, 4), (3, 5)]) rfl (AllK.cons' ⟨(tk_upd (tk_upd tk_top rfl) rfl), (tC rfl (tC rfl (tC rfl (tC (tkO_row _) AllT.nil')))), (by repeat (first | refine fC (.inl rfl) ?_ | refine fC (.inr rfl) ?_ | refine fC (.inr (by unfold tkFoot; simp only [List.all_cons, List.all_nil, tkO_row, Bool.and_true, Bool.true_and]; rfl)) ?_ | trivial))⟩ (AllK.cons' ⟨(tk_upd (tk_upd tk_top rfl) rfl), (tC rfl (tC rfl (tC rfl (tC (tkO_row _) AllT.nil')))), (by repeat (first | refine fC (.inl rfl) ?_ | refine fC (.inr rfl) ?_ | refine fC (.inr (by unfold tkFoot; simp only [List.all_cons, List.all_nil, tkO_row, Bool.and_true, Bool.true_and]; rfl)) ?_ | trivial))⟩ AllK.nil')) (by repeat (first | refine fC ⟨?_, ?_⟩ ?_ | refine sC rfl ?_ | refine hC rfl ?_ | trivial)) ?_ ?_
  ·refine y8 ?_ ?_ ?_ ?_ ?_ ?_ ?_ ?_ (y8 ?_ ?_ ?_ ?_ ?_ ?_ ?_ ?_ (y4 ?_ ?_ ?_ ?_ (y2 ?_ ?_ yN)))
   ·intro K _ f w u k
    show Wp K ⟨66, (upd 66 f 0 (rf 0 0)), _⟩
    refine s_move (d := (rf 0 0)) rfl k
   ·intro K _ f w u k
    show Wp K ⟨66, (upd 66 f 11 (rf 0 0)), [(o_vdisk_Disk_03 false (C.mp 2) (C.p true (.v (.pointer none))) p0), _, (om_ e_vdisk_file p0.files), _, _, _, _, _, _, _]⟩
    refine cc [0, 2] [(o_vdisk_Disk_03 false (C.mp 2) (C.p true (.v (.pointer none))) p0), (w 1), (om_ e_vdisk_file p0.files), (w 3), (w 4), (w 5), (w 6), (w 7), (w 8), (w 9), (ow_ e_str r1)] (D.one (C.own 10 0 r1.length 1)) F.ca_24 rfl rfl (ac (.one (.ref rfl)) an) (ac (.cells (ac (.mp rfl) (ac .sc (ac .sc (ac .sc (ac .sc an)))))) (ac .map an)) (vdisk_Disk_Names.meets _ p0 r1 er1) ?_
    refine AWops.weak (st' := ⟨66, (upd 66 (upd 66 f 11 (rf 0 0)) 12 (D.one (C.own 4 0 r1.length 1))), [(o_vdisk_Disk_03 false (C.mp 2) (C.p true (.v (.pointer none))) p0), (w 1), (om_ e_vdisk_file p0.files), (w 3), (ow_ e_str r1), (w 5), (w 6), (w 7), (w 8), (w 9)]⟩) (wg 4 [0, 1, 2, 3, 10, 5, 6, 7, 8, 9] [] hx (le_upd2 (le_ok (p := 4) (L := 10) rfl (u 4 rfl).1) (o1 (.own rfl))) (ac (qs rfl) (ac (oq 4 10 (u 4 rfl) 1) (ac .map (ac (oq 4 10 (u 4 rfl) 3) (ac (.cells (fun _ => rfl) (all2_row _)) (ac (oq 4 10 (u 4 rfl) 5) (ac (oq 4 10 (u 4 rfl) 6) (ac (oq 4 10 (u 4 rfl) 7) (ac (oq 4 10 (u 4 rfl) 8) (ac (oq 4 10 (u 4 rfl) 9) an))))))))))) k
   ·intro K _ f w u k
    show Wp K ⟨66, (upd 66 f 1 (rf 1 0)), _⟩
    refine s_move (d := (rf 1 0)) rfl k
   ·intro K _ f w u k
    show Wp K ⟨66, (upd 66 f 13 (rf 1 0)), [_, (o_dossierref03_Disk_0 false (C.own 3 0 p1.L.length 3) p1), _, (or_ e_dossierref03_File p1.L), _, _, _, _, _, _]⟩
    refine cc [1, 3] [(w 0), (o_dossierref03_Disk_0 false (C.own 3 0 p1.L.length 3) p1), (w 2), (or_ e_dossierref03_File p1.L), (w 4), (w 5), (w 6), (w 7), (w 8), (w 9), (ow_ e_str r2)] (D.one (C.own 10 0 r2.length 1)) F.ca_51 rfl rfl (ac (.one (.ref rfl)) an) (ac (.cells (ac (.own rfl) (ac .sc (ac .sc (ac .sc an))))) (ac (.cells (lend_row _)) an)) (dossierref03_Disk_Names.meets _ p1 r2 er2) ?_
    refine AWops.weak (st' := ⟨66, (upd 66 (upd 66 f 13 (rf 1 0)) 14 (D.one (C.own 5 0 r2.length 1))), [(w 0), (o_dossierref03_Disk_0 false (C.own 3 0 p1.L.length 3) p1), (w 2), (or_ e_dossierref03_File p1.L), (w 4), (ow_ e_str r2), (w 6), (w 7), (w 8), (w 9)]⟩) (wg 4 [0, 1, 2, 3, 4, 10, 6, 7, 8, 9] [] hx (le_upd2 (le_ok (p := 5) (L := 10) rfl (u 5 rfl).1) (o1 (.own rfl))) (ac (oq 5 10 (u 5 rfl) 0) (ac (qo rfl) (ac (oq 5 10 (u 5 rfl) 2) (ac (.cells id (all2_row _)) (ac (oq 5 10 (u 5 rfl) 4) (ac (.cells (fun _ => rfl) (all2_row _)) (ac (oq 5 10 (u 5 rfl) 6) (ac (oq 5 10 (u 5 rfl) 7) (ac (oq 5 10 (u 5 rfl) 8) (ac (oq 5 10 (u 5 rfl) 9) an))))))))))) k
   ·intro K _ f w u k
    show Wp K ⟨66, (upd 66 (upd 66 f 14 (D.one (C.own 5 0 r2.length 1))) 12 (D.one (C.own 4 0 r1.length 1))), [_, _, _, _, (ow_ e_str r1), (ow_ e_str r2), _, _, _, _]⟩
    refine s_call2 (ρ := []) (br := true) (H2 := [(w 0), (w 1), (w 2), (w 3), (ow_ e_str r1), (ow_ e_str r2), (w 6), (w 7), (w 8), (w 9)]) (d := (sb r3)) F.ca_50 rfl rfl (ac (.one (LendC.bor e_str_len rfl rfl rfl)) (ac (.one (LendC.bor e_str_len rfl rfl rfl)) an)) an (by decide) rfl (slices_Equal_string_string.meets _ r1 r2 r3 er3) (.inr ⟨rfl, rfl⟩) rfl rfl k
   ·intro K _ f w u k
    show Wp K ⟨66, (upd 66 f 15 (sb r3)), [_, _, _, _, _, _, _, _, _, _]⟩
    refine s_not rfl k
   ·intro K _ f w u k
    show Wp K ⟨66, (upd 66 f 16 (sb (!r3))), _⟩
    refine s_move (d := (sb (!r3))) rfl k
   ·intro K _ f w u k
    show Wp K ⟨66, (upd 66 (upd 66 f 17 (sb (!r3))) 0 (rf 0 0)), _⟩
    refine AWops.guard_no rfl (nl rfl) rfl (by rw [c4] <;> rfl) k
   ·intro K _ f w u k
    show Wp K ⟨66, (upd 66 f 17 (sb (!r3))), _⟩
    refine AWops.guard_no rfl (nl rfl) rfl (by rw [c4] <;> rfl) k
   ·intro K _ f w u k
    show Wp K ⟨66, (upd 66 f 17 (sb (!r3))), _⟩
    refine AWops.guard_no rfl (nl rfl) rfl (by rw [c4] <;> rfl) k
   ·intro K _ f w u k
    show Wp K ⟨66, (upd 66 f 17 (sb (!r3))), _⟩
    refine AWops.guard_no rfl (nl rfl) rfl (by rw [c4] <;> rfl) k
   ·intro K _ f w u k
    show Wp K ⟨66, (upd 66 f 17 (sb (!r3))), _⟩
    refine AWops.guard_no rfl (nl rfl) rfl (by rw [c4] <;> rfl) k
   ·intro K _ f w u k
    show Wp K ⟨66, (upd 66 f 17 (sb (!r3))), _⟩
    refine s_pick_yes (d := (sb true)) rfl (by rw [c4] <;> rfl) rfl k
   ·intro K _ f w u k
    show Wp K ⟨66, (upd 66 f 23 (sb true)), _⟩
    refine s_move (d := (sb true)) rfl k
   ·intro K _ f w u k
    show Wp K ⟨66, (upd 66 f 24 (sb true)), _⟩
    refine AWops.guard_no rfl (nl rfl) rfl rfl k
   ·intro K _ f w u k
    show Wp K ⟨66, (upd 66 f 24 (sb true)), _⟩
    refine AWops.guard_no rfl (nl rfl) rfl rfl k
   ·intro K _ f w u k
    show Wp K ⟨66, (upd 66 f 24 (sb true)), _⟩
    refine AWops.guard_no rfl (nl rfl) rfl rfl k
   ·intro K _ f w u k
    show Wp K ⟨66, (upd 66 f 24 (sb true)), _⟩
    refine AWops.guard_no rfl (nl rfl) rfl rfl k
   ·intro K _ f w u k
    show Wp K ⟨66, (upd 66 f 24 (sb true)), _⟩
    refine AWops.guard_no rfl (nl rfl) rfl rfl k
   ·intro K _ f w u k
    show Wp K ⟨66, (upd 66 f 24 (sb true)), _⟩
    refine AWops.guard_no rfl (nl rfl) rfl rfl k
   ·intro K _ f w u k
    show Wp K ⟨66, (upd 66 f 24 (sb true)), _⟩
    refine AWops.guard_no rfl (nl rfl) rfl rfl k
   ·intro K _ f w u k
    show Wp K ⟨66, (upd 66 f 24 (sb true)), _⟩
    refine s_pick_yes (d := (sb true)) rfl rfl rfl k
  ·refine AWops.weak (st' := ⟨66, (upd 66 (upd 66 (upd 66 topF 0 (rf 0 0)) 1 (rf 1 0)) 32 (sb true)), [(o_vdisk_Disk_03 false (C.mp 2) (C.p true (.v (.pointer none))) p0), (o_dossierref03_Disk_0 false (C.own 3 0 p1.L.length 3) p1), (om_ e_vdisk_file p0.files), (or_ e_dossierref03_File p1.L)]⟩) (wg 4 [0, 1, 2, 3] [] hx (le_upd (le_upd (le_upd (le_top _) (o1 (.ref rfl))) (o1 (.ref rfl))) (o1 .sc)) (ac (qs rfl) (ac (qo rfl) (ac .map (ac (.cells id (all2_row _)) an))))) (AWops.nil ?_)
   refine AW.cond_yes rfl rfl (AW.seq (AW.region ?_))
   refine s_assign (d := (sb false)) rfl (AWops.nil (AW.ret ?_))
   obtain rfl := Option.some.inj h
   exact ⟨_, rfl, (wg 4 [0, 1, 2, 3] [] rfl (le_upd (le_top _) (o1 .sc)) (ac (qs rfl) (ac (qo rfl) (ac .map (ac (.cells id (all2_row _)) an)))))⟩
end Go.Abs.GenRd
