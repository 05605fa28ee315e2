import Derived.Test.YtiegaebmhpdnmaaGenRmd
set_option linter.unusedVariables false
set_option linter.unusedSimpArgs false
set_option maxRecDepth 100000
set_option maxHeartbeats 4000000
namespace Go.Abs.GenRm
open Go.Abs Go.Proofs
mutual
def dossierplain_Step_Do_16xx.j0 : Nat → Bool → dossierplain_Step → vdisk_Disk → Int → dossierref03_Disk → Option (Bool × vdisk_Disk × dossierref03_Disk × (Option Int))
 | 0, _, _, _, _, _ => none
 | k + 1, x2, a0, p0, b0_3, p1 => if x2 = true then ((bytes_Clone.f k a0.B).bind fun r4 => (vdisk_Disk_Append_9.f k p0 a0.Name r4 b0_3).bind fun r5 => (dossierplain_Spoil.f k () r4).bind fun r6 => (dossierref03_Disk_Append_38.f k p1 a0.Name a0.B).bind fun r7 => some ((r5.1 == r7.1), r5.2.1, r7.2, some r5.2.2)) else (if ((IntKind.i64.wrap (Int.tmod (IntKind.u64.wrap a0.Op) 9)) == 2) = true then ((vdisk_Disk_Sync_10.f k p0 a0.Name b0_3).bind fun r9 => (dossierref03_Disk_Sync_39.f k p1 a0.Name).bind fun r10 => some ((r9.1 == r10.1), r9.2.1, r10.2, some r9.2.2)) else (if ((IntKind.i64.wrap (Int.tmod (IntKind.u64.wrap a0.Op) 9)) == 3) = true then ((vdisk_Disk_Rename_18.f k p0 a0.Name a0.To b0_3).bind fun r12 => (dossierref03_Disk_Rename_40.f k p1 a0.Name a0.To).bind fun r13 => some ((r12.1 == r13.1), r12.2.1, r13.2, some r12.2.2)) else (if ((IntKind.i64.wrap (Int.tmod (IntKind.u64.wrap a0.Op) 9)) == 4) = true then ((vdisk_Disk_Truncate_19.f k p0 a0.Name a0.N b0_3).bind fun r15 => (dossierref03_Disk_Truncate_41.f k p1 a0.Name a0.N).bind fun r16 => some ((r15.1 == r16.1), r15.2.1, r16.2, some r15.2.2)) else (if ((IntKind.i64.wrap (Int.tmod (IntKind.u64.wrap a0.Op) 9)) == 5) = true then ((vdisk_Disk_Remove_20.f k p0 a0.Name b0_3).bind fun r18 => (dossierref03_Disk_Remove_42.f k p1 a0.Name).bind fun r19 => some ((r18.1 == r19.1), r18.2.1, r19.2, some r18.2.2)) else (if ((IntKind.i64.wrap (Int.tmod (IntKind.u64.wrap a0.Op) 9)) == 6) = true then ((vdisk_Disk_Fuse_21x.f k p0 b0_3 a0.N).bind fun r21 => (dossierref03_Disk_Fuse.f k p1 a0.N).bind fun r22 => some ((r21.1 == r22.1), r21.2.1, r22.2, some r21.2.2)) else (if ((IntKind.i64.wrap (Int.tmod (IntKind.u64.wrap a0.Op) 9)) == 7) = true then ((dossierref03_Disk_Crash_44.f k p1 a0.Keeps).bind fun r24 => (vdisk_Disk_Crash_11x.f k p0 b0_3 a0.Keeps).bind fun r25 => some ((r25.1 == 0), r25.2, r24, (none : Option Int))) else ((vdisk_Disk_Room_22.f k p0 a0.N b0_3).bind fun r26 => (dossierref03_Disk_Room.f k p1 a0.N).bind fun r27 => some ((r26.1 == r27.1), r26.2, r27.2, some b0_3))))))))
end
def dossierplain_Step_Do_16xx.f (k : Nat) (a0 : dossierplain_Step) (p0 : vdisk_Disk) (b0_3 : Int) (p1 : dossierref03_Disk) : Option (Bool × vdisk_Disk × dossierref03_Disk × (Option Int)) := if ((IntKind.i64.wrap (Int.tmod (IntKind.u64.wrap a0.Op) 9)) == 0) = true then (dossierplain_Step_Do_16xx.j0 k ((IntKind.i64.wrap (Int.tmod (IntKind.u64.wrap a0.Op) 9)) == 0) a0 p0 b0_3 p1) else (dossierplain_Step_Do_16xx.j0 k ((IntKind.i64.wrap (Int.tmod (IntKind.u64.wrap a0.Op) 9)) == 1) a0 p0 b0_3 p1)
theorem dossierplain_Step_Do_16xx.meets (k : Nat) (a0 : dossierplain_Step) (p0 : vdisk_Disk) (b0_3 : Int) (p1 : dossierref03_Disk) (r : Bool × vdisk_Disk × dossierref03_Disk × (Option Int)) (h : dossierplain_Step_Do_16xx.f k a0 p0 b0_3 p1 = some r) : Meets Try.prog 16 [(D.agg (c_dossierplain_Step a0)), (rf 0 0), (rf 1 0)] [(o_vdisk_Disk_03 false (C.mp 2) (C.ref 3 0) p0), (o_dossierref03_Disk_0 false (C.own 4 0 p1.L.length 3) p1), (om_ e_vdisk_file p0.files), (some (AObj.cells false [(ci b0_3)])), (or_ e_dossierref03_File p1.L)] (optE r.2.2.2 (sb r.1) (fun z1 : Int => (sb r.1))) (optE r.2.2.2 [(o_vdisk_Disk_03 false (C.mp 2) (C.p true (.v (.pointer none))) r.2.1), (o_dossierref03_Disk_0 false (C.own 5 0 r.2.2.1.L.length 3) r.2.2.1), (om_ e_vdisk_file r.2.1.files), none, none, (or_ e_dossierref03_File r.2.2.1.L)] (fun z1 : Int => [(o_vdisk_Disk_03 false (C.mp 2) (C.ref 5 0) r.2.1), (o_dossierref03_Disk_0 false (C.own 6 0 r.2.2.1.L.length 3) r.2.2.1), (om_ e_vdisk_file r.2.1.files), none, none, (some (AObj.cells false [(ci z1)])), (or_ e_dossierref03_File r.2.2.1.L)])) := by
 unfold dossierplain_Step_Do_16xx.f at h
 refine Meets.of_body (n := 119) Try.func16 rfl rfl (nl rfl) fun x hx => ?_
 replace hx : x.k = 5 := hx
 show AW _ x _ _ ⟨119, fr0 [(D.agg (c_dossierplain_Step a0)), (rf 0 0), (rf 1 0)], [(o_vdisk_Disk_03 false (C.mp 2) (C.ref 3 0) p0), (o_dossierref03_Disk_0 false (C.own 4 0 p1.L.length 3) p1), (om_ e_vdisk_file p0.files), (some (AObj.cells false [(ci b0_3)])), (or_ e_dossierref03_File p1.L)]⟩
 refine AW.weak (st' := ⟨119, (upd 119 (upd 119 (upd 119 topF 0 (D.agg (c_dossierplain_Step a0))) 1 (rf 0 0)) 2 (rf 1 0)), [(o_vdisk_Disk_03 false (C.mp 2) (C.ref 5 0) p0), (o_dossierref03_Disk_0 false (C.own 6 0 p1.L.length 3) p1), (om_ e_vdisk_file p0.files), none, none, (some (AObj.cells false [(ci b0_3)])), (or_ e_dossierref03_File p1.L)]⟩) (Weak.genL (kk := 5) [0, 1, 2, 3, 4, 3, 4] [] hx rfl (by decide) rfl rfl rfl rfl (le_upd (le_upd (le_upd (le_top _) (.t (.agg (ac .sc (ac .sc (ac .sc (ac .sc (ac .same (ac .same an))))))))) (.t (.one (.ref rfl)))) (.t (.one (.ref rfl)))) (ac (.cells id (ac (.mp rfl) (ac .sc (ac .sc (ac (.ref rfl) (ac .sc an)))))) (ac (.cells id (ac (.own rfl) (ac .sc (ac .sc (ac .sc an))))) (ac .map (ac (.none _) (ac (.none _) (ac (.cells id (ac .sc an)) (ac (.cells id (all2_row _)) an)))))))) (AW.seq (AW.region ?_))
 refine s_box (cs := (c_dossierplain_Step a0)) rfl (List.cons_ne_nil _ _) rfl ?_
 refine s_assign (d := (sb false)) rfl (AWops.nil (AW.seq (AW.seq (AW.region ?_))))
 refine s_fieldRef F.fo_43_0 (by decide) rfl ?_
 refine s_load1 (c' := (ci a0.Op)) F.ag_3 rfl rfl ?_
 refine s_convI F.u_3 F.u_38 rfl ?_
 refine s_binI (v := (.int .u64 (Int.tmod (IntKind.u64.wrap a0.Op) 9))) rfl rfl rfl ?_
 refine s_convI F.u_38 F.u_3 rfl (AWops.nil (AW.block ?_))
 refine AW.seqJ (fun st => ∃ (x2 : Bool), dossierplain_Step_Do_16xx.j0 k x2 a0 p0 b0_3 p1 = some r ∧ st = ⟨119, (upd 119 (upd 119 (upd 119 (upd 119 (upd 119 topF 1 (rf 0 0)) 2 (rf 1 0)) 3 (rf 5 0)) 13 (si (IntKind.i64.wrap (Int.tmod (IntKind.u64.wrap a0.Op) 9)))) 14 (sb x2)), [(o_vdisk_Disk_03 false (C.mp 2) (C.ref 6 0) p0), (o_dossierref03_Disk_0 false (C.own 7 0 p1.L.length 3) p1), (om_ e_vdisk_file p0.files), none, none, (some (AObj.cells true (c_dossierplain_Step a0))), (some (AObj.cells false [(ci b0_3)])), (or_ e_dossierref03_File p1.L)]⟩) ?_ ?_
 ·refine AW.seq (AW.region ?_)
  refine s_binI (v := (.bool ((IntKind.i64.wrap (Int.tmod (IntKind.u64.wrap a0.Op) 9)) == 0))) rfl rfl rfl ?_
  refine s_assign (d := (sb ((IntKind.i64.wrap (Int.tmod (IntKind.u64.wrap a0.Op) 9)) == 0))) rfl (AWops.nil ?_)
  rcases itH h with ⟨c1, h⟩ | ⟨c1, h⟩
  ·refine AW.cond_yes rfl c1 (AW.skip ?_)
   exact ⟨⟨119, (upd 119 (upd 119 (upd 119 (upd 119 (upd 119 topF 1 (rf 0 0)) 2 (rf 1 0)) 3 (rf 5 0)) 13 (si (IntKind.i64.wrap (Int.tmod (IntKind.u64.wrap a0.Op) 9)))) 14 (sb ((IntKind.i64.wrap (Int.tmod (IntKind.u64.wrap a0.Op) 9)) == 0))), [(o_vdisk_Disk_03 false (C.mp 2) (C.ref 6 0) p0), (o_dossierref03_Disk_0 false (C.own 7 0 p1.L.length 3) p1), (om_ e_vdisk_file p0.files), none, none, (some (AObj.cells true (c_dossierplain_Step a0))), (some (AObj.cells false [(ci b0_3)])), (or_ e_dossierref03_File p1.L)]⟩, (wg 5 [0, 1, 2, 3, 4, 7, 5, 6] [] hx (le_upd (le_upd (le_upd (le_upd (le_upd (le_top _) (.t (.one (.ref rfl)))) (.t (.one (.ref rfl)))) (.t (.one (.ref rfl)))) (.t (.one .sc))) (.t (.one .sc))) (ac (.cells id (ac (.mp rfl) (ac .sc (ac .sc (ac (.ref rfl) (ac .sc an)))))) (ac (.cells id (ac (.own rfl) (ac .sc (ac .sc (ac .sc an))))) (ac .map (ac (.none _) (ac (.none _) (ac (.cells (fun _ => rfl) (ac .sc (ac .sc (ac .sc (ac .sc (ac .same (ac .same an))))))) (ac (.cells id (ac .sc an)) (ac (.cells id (all2_row _)) an))))))))), ((IntKind.i64.wrap (Int.tmod (IntKind.u64.wrap a0.Op) 9)) == 0), h, rfl⟩
  ·refine AW.cond_no rfl c1 (AW.region ?_)
   refine s_binI (v := (.bool ((IntKind.i64.wrap (Int.tmod (IntKind.u64.wrap a0.Op) 9)) == 1))) rfl rfl rfl ?_
   refine s_assign (d := (sb ((IntKind.i64.wrap (Int.tmod (IntKind.u64.wrap a0.Op) 9)) == 1))) rfl (AWops.nil ?_)
   exact ⟨⟨119, (upd 119 (upd 119 (upd 119 (upd 119 (upd 119 topF 1 (rf 0 0)) 2 (rf 1 0)) 3 (rf 5 0)) 13 (si (IntKind.i64.wrap (Int.tmod (IntKind.u64.wrap a0.Op) 9)))) 14 (sb ((IntKind.i64.wrap (Int.tmod (IntKind.u64.wrap a0.Op) 9)) == 1))), [(o_vdisk_Disk_03 false (C.mp 2) (C.ref 6 0) p0), (o_dossierref03_Disk_0 false (C.own 7 0 p1.L.length 3) p1), (om_ e_vdisk_file p0.files), none, none, (some (AObj.cells true (c_dossierplain_Step a0))), (some (AObj.cells false [(ci b0_3)])), (or_ e_dossierref03_File p1.L)]⟩, (wg 5 [0, 1, 2, 3, 4, 7, 5, 6] [] hx (le_upd (le_upd (le_upd (le_upd (le_upd (le_top _) (.t (.one (.ref rfl)))) (.t (.one (.ref rfl)))) (.t (.one (.ref rfl)))) (.t (.one .sc))) (.t (.one .sc))) (ac (.cells id (ac (.mp rfl) (ac .sc (ac .sc (ac (.ref rfl) (ac .sc an)))))) (ac (.cells id (ac (.own rfl) (ac .sc (ac .sc (ac .sc an))))) (ac .map (ac (.none _) (ac (.none _) (ac (.cells (fun _ => rfl) (ac .sc (ac .sc (ac .sc (ac .sc (ac .same (ac .same an))))))) (ac (.cells id (ac .sc an)) (ac (.cells id (all2_row _)) an))))))))), ((IntKind.i64.wrap (Int.tmod (IntKind.u64.wrap a0.Op) 9)) == 1), h, rfl⟩
 ·rintro st ⟨x2, h, rfl⟩
  cases k with
  | zero => exact absurd h (by simp [dossierplain_Step_Do_16xx.j0])
  | succ qj0 =>
   replace h := (dossierplain_Step_Do_16xx.j0.eq_2 _ _ _ _ _ _).symm.trans h
   rcases itH h with ⟨c3, h⟩ | ⟨c3, h⟩
   ·refine AW.cond_yes rfl c3 (AW.seq (AW.region ?_))
    refine s_fieldRef F.fo_43_4 (by decide) rfl ?_
    refine s_load1 (c' := (C.p false (.sl a0.B.length (a0.B.flatMap e_u8)))) F.ag_22 rfl rfl ?_
    obtain ⟨r4, er4, h⟩ := bnd h
    refine s_call2 (ρ := []) (br := false) (H2 := [(o_vdisk_Disk_03 false (C.mp 2) (C.ref 6 0) p0), (o_dossierref03_Disk_0 false (C.own 7 0 p1.L.length 3) p1), (om_ e_vdisk_file p0.files), none, none, (some (AObj.cells true (c_dossierplain_Step a0))), (some (AObj.cells false [(ci b0_3)])), (or_ e_dossierref03_File p1.L), (ow_ e_u8 r4)]) (d := (D.one (C.own 8 0 r4.length 1))) F.ca_37 rfl rfl (ac (.one .imm) an) an (by decide) rfl (bytes_Clone.meets _ a0.B r4 er4) (.inl rfl) (by first | rfl | (simp only [mS]; done) | (simp only [mS]; rfl)) rfl ?_
    refine s_assign (d := (D.one (C.own 8 0 r4.length 1))) rfl (AWops.nil (AW.seq (AW.region ?_)))
    refine s_move (d := (rf 0 0)) rfl ?_
    refine s_fieldRef F.fo_43_2 (by decide) rfl ?_
    refine s_load1 (c' := (ct a0.Name)) F.ag_9 rfl rfl ?_
    refine s_move (d := (D.one (C.own 8 0 r4.length 1))) rfl ?_
    obtain ⟨r5, er5, h⟩ := bnd h
    refine s_call2 (ρ := [0, 8, 2, 6]) (br := false) (H2 := [(o_vdisk_Disk_03 false (C.mp 2) (C.ref 6 0) r5.2.1), (o_dossierref03_Disk_0 false (C.own 7 0 p1.L.length 3) p1), (om_ e_vdisk_file r5.2.1.files), none, none, (some (AObj.cells true (c_dossierplain_Step a0))), (some (AObj.cells false [(ci r5.2.2)])), (or_ e_dossierref03_File p1.L), (ow_ e_u8 r4)]) (d := (si r5.1)) F.ca_9 rfl rfl (ac (.one (.ref rfl)) (ac (.one .sc) (ac (.one (.own rfl)) an))) (ac (.cells (ac (.mp rfl) (ac .sc (ac .sc (ac (.ref rfl) (ac .sc an)))))) (ac (.cells (lend_row _)) (ac .map (ac (.cells (ac .sc an)) an)))) (by decide) rfl (vdisk_Disk_Append_9.meets _ p0 a0.Name r4 b0_3 r5 er5) (.inl rfl) (by first | rfl | (simp only [mS]; done) | (simp only [mS]; rfl)) rfl ?_
    refine s_assign (d := (si r5.1)) rfl (AWops.nil (AW.seq (AW.region ?_)))
    refine s_move (d := (D.one (C.own 8 0 r4.length 1))) rfl ?_
    refine s_buildSlice (n := 1) (ps := [(0, (D.one (C.own 8 0 r4.length 1)))]) (cs := [(C.own 8 0 r4.length 1)]) F.u_23 F.sz_22 F.z_22 rfl rfl (by decide) (by decide) rfl rfl ?_
    obtain ⟨r6, er6, h⟩ := bnd h
    refine s_call2 (ρ := [9, 8]) (br := false) (H2 := [(o_vdisk_Disk_03 false (C.mp 2) (C.ref 6 0) r5.2.1), (o_dossierref03_Disk_0 false (C.own 7 0 p1.L.length 3) p1), (om_ e_vdisk_file r5.2.1.files), none, none, (some (AObj.cells true (c_dossierplain_Step a0))), (some (AObj.cells false [(ci r5.2.2)])), (or_ e_dossierref03_File p1.L), (ow_ e_u8 r6), (some (AObj.cells true [(C.own 8 0 r6.length 1)]))]) (d := (D.tup [])) F.ca_29 rfl rfl (ac (.one (.own rfl)) an) (ac (.cells (ac (.own rfl) an)) (ac (.cells (lend_row _)) an)) (by decide) rfl (dossierplain_Spoil.meets _ () r4 r6 er6) (.inl rfl) (by first | rfl | (simp only [mS]; done) | (simp only [mS]; rfl)) rfl (AWops.nil (AW.seq (AW.region ?_)))
    refine s_move (d := (si r5.1)) rfl ?_
    refine s_move (d := (rf 1 0)) rfl ?_
    refine s_fieldRef F.fo_43_2 (by decide) rfl ?_
    refine s_load1 (c' := (ct a0.Name)) F.ag_9 rfl rfl ?_
    refine s_fieldRef F.fo_43_4 (by decide) rfl ?_
    refine s_load1 (c' := (C.p false (.sl a0.B.length (a0.B.flatMap e_u8)))) F.ag_22 rfl rfl ?_
    obtain ⟨r7, er7, h⟩ := bnd h
    refine s_call2 (ρ := [1, 7]) (br := false) (H2 := [(o_vdisk_Disk_03 false (C.mp 2) (C.ref 6 0) r5.2.1), (o_dossierref03_Disk_0 false (C.own 10 0 r7.2.L.length 3) r7.2), (om_ e_vdisk_file r5.2.1.files), none, none, (some (AObj.cells true (c_dossierplain_Step a0))), (some (AObj.cells false [(ci r5.2.2)])), none, (ow_ e_u8 r6), (some (AObj.cells true [(C.own 8 0 r6.length 1)])), (or_ e_dossierref03_File r7.2.L)]) (d := (si r7.1)) F.ca_38 rfl rfl (ac (.one (.ref rfl)) (ac (.one .sc) (ac (.one .imm) an))) (ac (.cells (ac (.own rfl) (ac .sc (ac .sc (ac .sc an))))) (ac (.cells (lend_row _)) an)) (by decide) rfl (dossierref03_Disk_Append_38.meets _ p1 a0.Name a0.B r7 er7) (.inl rfl) (by first | rfl | (simp only [mS]; done) | (simp only [mS]; rfl)) rfl ?_
    refine s_binI (v := (.bool (r5.1 == r7.1))) rfl rfl rfl ?_
    refine s_assign (d := (sb (r5.1 == r7.1))) rfl (AWops.nil (AW.ret ?_))
    obtain rfl := Option.some.inj h
    exact ⟨_, rfl, (wg 5 [0, 1, 2, 3, 4, 6, 10] [] rfl (le_upd (le_top _) (.t (.one .sc))) (ac (.cells id (ac (.mp rfl) (ac .sc (ac .sc (ac (.ref rfl) (ac .sc an)))))) (ac (.cells id (ac (.own rfl) (ac .sc (ac .sc (ac .sc an))))) (ac .map (ac (.none _) (ac (.none _) (ac (.cells id (ac .sc an)) (ac (.cells id (all2_row _)) an))))))))⟩
   ·refine AW.cond_no rfl c3 (AW.seq (AW.region ?_))
    refine s_binI (v := (.bool ((IntKind.i64.wrap (Int.tmod (IntKind.u64.wrap a0.Op) 9)) == 2))) rfl rfl rfl ?_
    refine s_assign (d := (sb ((IntKind.i64.wrap (Int.tmod (IntKind.u64.wrap a0.Op) 9)) == 2))) rfl (AWops.nil ?_)
    rcases itH h with ⟨c8, h⟩ | ⟨c8, h⟩
    ·refine AW.cond_yes rfl c8 (AW.seq ?_)
     refine AW.weak (st' := ⟨119, (upd 119 (upd 119 (upd 119 topF 1 (rf 0 0)) 2 (rf 1 0)) 3 (rf 5 0)), [(o_vdisk_Disk_03 false (C.mp 2) (C.ref 6 0) p0), (o_dossierref03_Disk_0 false (C.own 7 0 p1.L.length 3) p1), (om_ e_vdisk_file p0.files), none, none, (some (AObj.cells true (c_dossierplain_Step a0))), (some (AObj.cells false [(ci b0_3)])), (or_ e_dossierref03_File p1.L)]⟩) (wg 5 [0, 1, 2, 3, 4, 5, 6, 7] [] hx (le_upd (le_upd (le_upd (le_top _) (.t (.one (.ref rfl)))) (.t (.one (.ref rfl)))) (.t (.one (.ref rfl)))) (ac (.cells id (ac (.mp rfl) (ac .sc (ac .sc (ac (.ref rfl) (ac .sc an)))))) (ac (.cells id (ac (.own rfl) (ac .sc (ac .sc (ac .sc an))))) (ac .map (ac (.none _) (ac (.none _) (ac (.cells (fun _ => rfl) (ac .sc (ac .sc (ac .sc (ac .sc (ac .same (ac .same an))))))) (ac (.cells id (ac .sc an)) (ac (.cells id (all2_row _)) an))))))))) ?_
     obtain ⟨r9, er9, h⟩ := bnd h
     obtain ⟨r10, er10, h⟩ := bnd h
     refine AW.draw (n := 119) (L := 10) [(ft 0 38 (rf 0 0) [(1, (rf 0 0))]), (ft 1 39 (rf 5 2) [(3, (rf 5 0))]), (2, ⟨some 40, (st_ a0.Name), [(39, (rf 5 2))], [(5, (some (AObj.cells true (c_dossierplain_Step a0))))], [], none⟩), (3, ⟨some 41, (si r9.1), [(38, (rf 0 0)), (40, (st_ a0.Name))], [(0, (o_vdisk_Disk_03 false (C.mp 2) (C.ref 6 0) p0)), (2, (om_ e_vdisk_file p0.files)), (6, (some (AObj.cells false [(ci b0_3)])))], [(0, (o_vdisk_Disk_03 false (C.mp 2) (C.ref 6 0) r9.2.1)), (2, (om_ e_vdisk_file r9.2.1.files)), (6, (some (AObj.cells false [(ci r9.2.2)])))], none⟩), (ft 4 42 (rf 1 0) [(2, (rf 1 0))]), (ft 5 43 (rf 5 2) [(3, (rf 5 0))]), (6, ⟨some 44, (st_ a0.Name), [(43, (rf 5 2))], [(5, (some (AObj.cells true (c_dossierplain_Step a0))))], [], none⟩), (7, ⟨some 45, (si r10.1), [(42, (rf 1 0)), (44, (st_ a0.Name))], [(1, (o_dossierref03_Disk_0 false (C.own 7 0 p1.L.length 3) p1)), (7, (or_ e_dossierref03_File p1.L))], [(1, (o_dossierref03_Disk_0 false (C.own 9 0 r10.2.L.length 3) r10.2)), (7, none), (9, (or_ e_dossierref03_File r10.2.L))], some 9⟩), (ft 8 46 (sb (r9.1 == r10.1)) [(41, (si r9.1)), (45, (si r10.1))]), (ft 9 6 (sb (r9.1 == r10.1)) [(46, (sb (r9.1 == r10.1)))])] [[], [], [1], [0, 1, 2], [], [], [5], (.range 7), (.range 8), (.range 9)] (nl rfl) [0, 0, 1, 2, 0, 0, 1, 3, 4, 5] rfl (TK := [(7, 9)]) rfl (AllK.cons' ⟨(tk_upd (tk_upd (tk_upd tk_top rfl) rfl) rfl), (tC rfl (tC rfl (tC rfl (tC rfl (tC rfl (tC rfl (tC rfl (tC (tkO_row _) AllT.nil')))))))), (fC (.inr rfl) (fC (.inr rfl) (fC (.inr rfl) (fC (.inr rfl) (fC (.inr rfl) (fC (.inr rfl) (fC (.inr rfl) (fC (.inl rfl) (fC (.inl rfl) (fC (.inl rfl) AllF.nil'))))))))))⟩ AllK.nil') (by repeat (first | refine fC ⟨?_, ?_⟩ ?_ | refine sC rfl ?_ | refine hC rfl ?_ | trivial)) ?_ ?_
     ·refine (pC ?_ (pC ?_ (pC ?_ (pC ?_ (pC ?_ (pC ?_ (pC ?_ (pC ?_ (pC ?_ (pC ?_ AllStep.nil'))))))))))
      ·intro K rest fr hv htk k
       show AWops _ x _ _ K ⟨119, (upd 119 fr 1 (rf 0 0)), _⟩
       refine s_move (d := (rf 0 0)) rfl k
      ·intro K rest fr hv htk k
       show AWops _ x _ _ K ⟨119, (upd 119 fr 3 (rf 5 0)), [(hv 0), (hv 1), (hv 2), (hv 3), (hv 4), (hv 5), (hv 6), (hv 7), (hv 8), (hv 9)]⟩
       refine s_fieldRef F.fo_43_2 (by decide) rfl k
      ·intro K rest fr hv htk k
       show AWops _ x _ _ K ⟨119, (upd 119 fr 39 (rf 5 2)), [(hv 0), (hv 1), (hv 2), (hv 3), (hv 4), (some (AObj.cells true (c_dossierplain_Step a0))), (hv 6), (hv 7), (hv 8), (hv 9)]⟩
       refine s_load1 (c' := (ct a0.Name)) F.ag_9 rfl rfl k
      ·intro K rest fr hv htk k
       show AWops _ x _ _ K ⟨119, (upd 119 (upd 119 fr 40 (st_ a0.Name)) 38 (rf 0 0)), [(o_vdisk_Disk_03 false (C.mp 2) (C.ref 6 0) p0), (hv 1), (om_ e_vdisk_file p0.files), (hv 3), (hv 4), (hv 5), (some (AObj.cells false [(ci b0_3)])), (hv 7), (hv 8), (hv 9)]⟩
       refine s_call2 (ρ := [0, 2, 6]) (br := false) (H2 := [(o_vdisk_Disk_03 false (C.mp 2) (C.ref 6 0) r9.2.1), (hv 1), (om_ e_vdisk_file r9.2.1.files), (hv 3), (hv 4), (hv 5), (some (AObj.cells false [(ci r9.2.2)])), (hv 7), (hv 8), (hv 9)]) (d := (si r9.1)) F.ca_10 rfl rfl (ac (.one (.ref rfl)) (ac (.one .sc) an)) (ac (.cells (ac (.mp rfl) (ac .sc (ac .sc (ac (.ref rfl) (ac .sc an)))))) (ac .map (ac (.cells (ac .sc an)) an))) (by decide) rfl (vdisk_Disk_Sync_10.meets _ p0 a0.Name b0_3 r9 er9) (.inl rfl) rfl rfl k
      ·intro K rest fr hv htk k
       show AWops _ x _ _ K ⟨119, (upd 119 fr 2 (rf 1 0)), _⟩
       refine s_move (d := (rf 1 0)) rfl k
      ·intro K rest fr hv htk k
       show AWops _ x _ _ K ⟨119, (upd 119 fr 3 (rf 5 0)), [(hv 0), (hv 1), (hv 2), (hv 3), (hv 4), (hv 5), (hv 6), (hv 7), (hv 8), (hv 9)]⟩
       refine s_fieldRef F.fo_43_2 (by decide) rfl k
      ·intro K rest fr hv htk k
       show AWops _ x _ _ K ⟨119, (upd 119 fr 43 (rf 5 2)), [(hv 0), (hv 1), (hv 2), (hv 3), (hv 4), (some (AObj.cells true (c_dossierplain_Step a0))), (hv 6), (hv 7), (hv 8), (hv 9)]⟩
       refine s_load1 (c' := (ct a0.Name)) F.ag_9 rfl rfl k
      ·intro K rest fr hv htk k
       show AWops _ x _ _ K ⟨119, (upd 119 (upd 119 fr 44 (st_ a0.Name)) 42 (rf 1 0)), [(hv 0), (o_dossierref03_Disk_0 false (C.own 7 0 p1.L.length 3) p1), (hv 2), (hv 3), (hv 4), (hv 5), (hv 6), (or_ e_dossierref03_File p1.L), (hv 8), (hv 9)]⟩
       refine s_call2 (ρ := [1, 7]) (br := false) (H2 := [(hv 0), (o_dossierref03_Disk_0 false (C.own 10 0 r10.2.L.length 3) r10.2), (hv 2), (hv 3), (hv 4), (hv 5), (hv 6), none, (hv 8), (hv 9), (or_ e_dossierref03_File r10.2.L)]) (d := (si r10.1)) F.ca_39 rfl rfl (ac (.one (.ref rfl)) (ac (.one .sc) an)) (ac (.cells (ac (.own rfl) (ac .sc (ac .sc (ac .sc an))))) (ac (.cells (lend_row _)) an)) (by decide) rfl (dossierref03_Disk_Sync_39.meets _ p1 a0.Name r10 er10) (.inl rfl) (by first | rfl | (simp only [mS]; done) | (simp only [mS]; rfl)) rfl ?_
       refine AWops.weak (st' := ⟨119, (upd 119 (upd 119 (upd 119 fr 44 (st_ a0.Name)) 42 (rf 1 0)) 45 (si r10.1)), [(hv 0), (o_dossierref03_Disk_0 false (C.own 9 0 r10.2.L.length 3) r10.2), (hv 2), (hv 3), (hv 4), (hv 5), (hv 6), none, (hv 8), (or_ e_dossierref03_File r10.2.L)]⟩) (wg 5 [0, 1, 2, 3, 4, 5, 6, 7, 8, 10] [] hx (le_upd2 (le_ok (p := 9) (L := 10) rfl (htk 9 rfl).1) (.t (.one .sc))) (ac (oq 9 10 (htk 9 rfl) 0) (ac (.cells id (ac (.own rfl) (ac .sc (ac .sc (ac .sc an))))) (ac (oq 9 10 (htk 9 rfl) 2) (ac (oq 9 10 (htk 9 rfl) 3) (ac (oq 9 10 (htk 9 rfl) 4) (ac (oq 9 10 (htk 9 rfl) 5) (ac (oq 9 10 (htk 9 rfl) 6) (ac (.none _) (ac (oq 9 10 (htk 9 rfl) 8) (ac (.cells id (all2_row _)) an))))))))))) k
      ·intro K rest fr hv htk k
       show AWops _ x _ _ K ⟨119, (upd 119 (upd 119 fr 45 (si r10.1)) 41 (si r9.1)), _⟩
       refine s_binI (v := (.bool (r9.1 == r10.1))) rfl rfl rfl k
      ·intro K rest fr hv htk k
       show AWops _ x _ _ K ⟨119, (upd 119 fr 46 (sb (r9.1 == r10.1))), _⟩
       refine s_assign (d := (sb (r9.1 == r10.1))) rfl k
     ·refine AWops.weak (st' := ⟨119, (upd 119 topF 6 (sb (r9.1 == r10.1))), [(o_vdisk_Disk_03 false (C.mp 2) (C.ref 5 0) r9.2.1), (o_dossierref03_Disk_0 false (C.own 6 0 r10.2.L.length 3) r10.2), (om_ e_vdisk_file r9.2.1.files), none, none, (some (AObj.cells false [(ci r9.2.2)])), (or_ e_dossierref03_File r10.2.L)]⟩) (wg 5 [0, 1, 2, 3, 4, 6, 9] [] hx (le_upd (le_top _) (.t (.one .sc))) (ac (.cells id (ac (.mp rfl) (ac .sc (ac .sc (ac (.ref rfl) (ac .sc an)))))) (ac (.cells id (ac (.own rfl) (ac .sc (ac .sc (ac .sc an))))) (ac .map (ac (.none _) (ac (.none _) (ac (.cells id (ac .sc an)) (ac (.cells id (all2_row _)) an)))))))) (AWops.nil (AW.ret ?_))
      obtain rfl := Option.some.inj h
      exact ⟨_, rfl, (wg 5 [0, 1, 2, 3, 4, 5, 6] [] rfl (le_upd (le_top _) (.t (.one .sc))) (ac (.cells id (ac (.mp rfl) (ac .sc (ac .sc (ac (.ref rfl) (ac .sc an)))))) (ac (.cells id (ac (.own rfl) (ac .sc (ac .sc (ac .sc an))))) (ac .map (ac (.none _) (ac (.none _) (ac (.cells id (ac .sc an)) (ac (.cells id (all2_row _)) an))))))))⟩
    ·refine AW.cond_no rfl c8 (AW.seq (AW.region ?_))
     refine s_binI (v := (.bool ((IntKind.i64.wrap (Int.tmod (IntKind.u64.wrap a0.Op) 9)) == 3))) rfl rfl rfl ?_
     refine s_assign (d := (sb ((IntKind.i64.wrap (Int.tmod (IntKind.u64.wrap a0.Op) 9)) == 3))) rfl (AWops.nil ?_)
     rcases itH h with ⟨c11, h⟩ | ⟨c11, h⟩
     ·refine AW.cond_yes rfl c11 (AW.seq ?_)
      refine AW.weak (st' := ⟨119, (upd 119 (upd 119 (upd 119 topF 1 (rf 0 0)) 2 (rf 1 0)) 3 (rf 5 0)), [(o_vdisk_Disk_03 false (C.mp 2) (C.ref 6 0) p0), (o_dossierref03_Disk_0 false (C.own 7 0 p1.L.length 3) p1), (om_ e_vdisk_file p0.files), none, none, (some (AObj.cells true (c_dossierplain_Step a0))), (some (AObj.cells false [(ci b0_3)])), (or_ e_dossierref03_File p1.L)]⟩) (wg 5 [0, 1, 2, 3, 4, 5, 6, 7] [] hx (le_upd (le_upd (le_upd (le_top _) (.t (.one (.ref rfl)))) (.t (.one (.ref rfl)))) (.t (.one (.ref rfl)))) (ac (.cells id (ac (.mp rfl) (ac .sc (ac .sc (ac (.ref rfl) (ac .sc an)))))) (ac (.cells id (ac (.own rfl) (ac .sc (ac .sc (ac .sc an))))) (ac .map (ac (.none _) (ac (.none _) (ac (.cells (fun _ => rfl) (ac .sc (ac .sc (ac .sc (ac .sc (ac .same (ac .same an))))))) (ac (.cells id (ac .sc an)) (ac (.cells id (all2_row _)) an))))))))) ?_
      obtain ⟨r12, er12, h⟩ := bnd h
      obtain ⟨r13, er13, h⟩ := bnd h
      refine AW.draw (n := 119) (L := 10) [(ft 0 49 (rf 0 0) [(1, (rf 0 0))]), (ft 1 50 (rf 5 2) [(3, (rf 5 0))]), (2, ⟨some 51, (st_ a0.Name), [(50, (rf 5 2))], [(5, (some (AObj.cells true (c_dossierplain_Step a0))))], [], none⟩), (ft 3 52 (rf 5 3) [(3, (rf 5 0))]), (4, ⟨some 53, (st_ a0.To), [(52, (rf 5 3))], [(5, (some (AObj.cells true (c_dossierplain_Step a0))))], [], none⟩), (5, ⟨some 54, (si r12.1), [(49, (rf 0 0)), (51, (st_ a0.Name)), (53, (st_ a0.To))], [(0, (o_vdisk_Disk_03 false (C.mp 2) (C.ref 6 0) p0)), (2, (om_ e_vdisk_file p0.files)), (6, (some (AObj.cells false [(ci b0_3)])))], [(0, (o_vdisk_Disk_03 false (C.mp 2) (C.ref 6 0) r12.2.1)), (2, (om_ e_vdisk_file r12.2.1.files)), (6, (some (AObj.cells false [(ci r12.2.2)])))], none⟩), (ft 6 55 (rf 1 0) [(2, (rf 1 0))]), (ft 7 56 (rf 5 2) [(3, (rf 5 0))]), (8, ⟨some 57, (st_ a0.Name), [(56, (rf 5 2))], [(5, (some (AObj.cells true (c_dossierplain_Step a0))))], [], none⟩), (ft 9 58 (rf 5 3) [(3, (rf 5 0))]), (10, ⟨some 59, (st_ a0.To), [(58, (rf 5 3))], [(5, (some (AObj.cells true (c_dossierplain_Step a0))))], [], none⟩), (11, ⟨some 60, (si r13.1), [(55, (rf 1 0)), (57, (st_ a0.Name)), (59, (st_ a0.To))], [(1, (o_dossierref03_Disk_0 false (C.own 7 0 p1.L.length 3) p1)), (7, (or_ e_dossierref03_File p1.L))], [(1, (o_dossierref03_Disk_0 false (C.own 9 0 r13.2.L.length 3) r13.2)), (7, none), (9, (or_ e_dossierref03_File r13.2.L))], some 9⟩), (ft 12 61 (sb (r12.1 == r13.1)) [(54, (si r12.1)), (60, (si r13.1))]), (ft 13 6 (sb (r12.1 == r13.1)) [(61, (sb (r12.1 == r13.1)))])] [[], [], [1], [], [3], (.range 5), [], [], [7], [], [9], (.range 11), (.range 12), (.range 13)] (nl rfl) [0, 0, 1, 0, 1, 2, 0, 0, 1, 0, 1, 3, 4, 5] rfl (TK := [(11, 9)]) rfl (AllK.cons' ⟨(tk_upd (tk_upd (tk_upd tk_top rfl) rfl) rfl), (tC rfl (tC rfl (tC rfl (tC rfl (tC rfl (tC rfl (tC rfl (tC (tkO_row _) AllT.nil')))))))), (by repeat (first | refine fC (.inl rfl) ?_ | refine fC (.inr rfl) ?_ | refine fC (.inr (by unfold tkFoot; simp only [List.all_cons, List.all_nil, tkO_row, Bool.and_true, Bool.true_and]; rfl)) ?_ | trivial))⟩ AllK.nil') (by repeat (first | refine fC ⟨?_, ?_⟩ ?_ | refine sC rfl ?_ | refine hC rfl ?_ | trivial)) ?_ ?_
      ·refine (pC ?_ (pC ?_ (pC ?_ (pC ?_ (pC ?_ (pC ?_ (pC ?_ (pC ?_ (pC ?_ (pC ?_ (pC ?_ (pC ?_ (pC ?_ (pC ?_ AllStep.nil'))))))))))))))
       ·intro K rest fr hv htk k
        show AWops _ x _ _ K ⟨119, (upd 119 fr 1 (rf 0 0)), _⟩
        refine s_move (d := (rf 0 0)) rfl k
       ·intro K rest fr hv htk k
        show AWops _ x _ _ K ⟨119, (upd 119 fr 3 (rf 5 0)), [(hv 0), (hv 1), (hv 2), (hv 3), (hv 4), (hv 5), (hv 6), (hv 7), (hv 8), (hv 9)]⟩
        refine s_fieldRef F.fo_43_2 (by decide) rfl k
       ·intro K rest fr hv htk k
        show AWops _ x _ _ K ⟨119, (upd 119 fr 50 (rf 5 2)), [(hv 0), (hv 1), (hv 2), (hv 3), (hv 4), (some (AObj.cells true (c_dossierplain_Step a0))), (hv 6), (hv 7), (hv 8), (hv 9)]⟩
        refine s_load1 (c' := (ct a0.Name)) F.ag_9 rfl rfl k
       ·intro K rest fr hv htk k
        show AWops _ x _ _ K ⟨119, (upd 119 fr 3 (rf 5 0)), [(hv 0), (hv 1), (hv 2), (hv 3), (hv 4), (hv 5), (hv 6), (hv 7), (hv 8), (hv 9)]⟩
        refine s_fieldRef F.fo_43_3 (by decide) rfl k
       ·intro K rest fr hv htk k
        show AWops _ x _ _ K ⟨119, (upd 119 fr 52 (rf 5 3)), [(hv 0), (hv 1), (hv 2), (hv 3), (hv 4), (some (AObj.cells true (c_dossierplain_Step a0))), (hv 6), (hv 7), (hv 8), (hv 9)]⟩
        refine s_load1 (c' := (ct a0.To)) F.ag_9 rfl rfl k
       ·intro K rest fr hv htk k
        show AWops _ x _ _ K ⟨119, (upd 119 (upd 119 (upd 119 fr 53 (st_ a0.To)) 51 (st_ a0.Name)) 49 (rf 0 0)), [(o_vdisk_Disk_03 false (C.mp 2) (C.ref 6 0) p0), (hv 1), (om_ e_vdisk_file p0.files), (hv 3), (hv 4), (hv 5), (some (AObj.cells false [(ci b0_3)])), (hv 7), (hv 8), (hv 9)]⟩
        refine s_call2 (ρ := [0, 2, 6]) (br := false) (H2 := [(o_vdisk_Disk_03 false (C.mp 2) (C.ref 6 0) r12.2.1), (hv 1), (om_ e_vdisk_file r12.2.1.files), (hv 3), (hv 4), (hv 5), (some (AObj.cells false [(ci r12.2.2)])), (hv 7), (hv 8), (hv 9)]) (d := (si r12.1)) F.ca_18 rfl rfl (ac (.one (.ref rfl)) (ac (.one .sc) (ac (.one .sc) an))) (ac (.cells (ac (.mp rfl) (ac .sc (ac .sc (ac (.ref rfl) (ac .sc an)))))) (ac .map (ac (.cells (ac .sc an)) an))) (by decide) rfl (vdisk_Disk_Rename_18.meets _ p0 a0.Name a0.To b0_3 r12 er12) (.inl rfl) rfl rfl k
       ·intro K rest fr hv htk k
        show AWops _ x _ _ K ⟨119, (upd 119 fr 2 (rf 1 0)), _⟩
        refine s_move (d := (rf 1 0)) rfl k
       ·intro K rest fr hv htk k
        show AWops _ x _ _ K ⟨119, (upd 119 fr 3 (rf 5 0)), [(hv 0), (hv 1), (hv 2), (hv 3), (hv 4), (hv 5), (hv 6), (hv 7), (hv 8), (hv 9)]⟩
        refine s_fieldRef F.fo_43_2 (by decide) rfl k
       ·intro K rest fr hv htk k
        show AWops _ x _ _ K ⟨119, (upd 119 fr 56 (rf 5 2)), [(hv 0), (hv 1), (hv 2), (hv 3), (hv 4), (some (AObj.cells true (c_dossierplain_Step a0))), (hv 6), (hv 7), (hv 8), (hv 9)]⟩
        refine s_load1 (c' := (ct a0.Name)) F.ag_9 rfl rfl k
       ·intro K rest fr hv htk k
        show AWops _ x _ _ K ⟨119, (upd 119 fr 3 (rf 5 0)), [(hv 0), (hv 1), (hv 2), (hv 3), (hv 4), (hv 5), (hv 6), (hv 7), (hv 8), (hv 9)]⟩
        refine s_fieldRef F.fo_43_3 (by decide) rfl k
       ·intro K rest fr hv htk k
        show AWops _ x _ _ K ⟨119, (upd 119 fr 58 (rf 5 3)), [(hv 0), (hv 1), (hv 2), (hv 3), (hv 4), (some (AObj.cells true (c_dossierplain_Step a0))), (hv 6), (hv 7), (hv 8), (hv 9)]⟩
        refine s_load1 (c' := (ct a0.To)) F.ag_9 rfl rfl k
       ·intro K rest fr hv htk k
        show AWops _ x _ _ K ⟨119, (upd 119 (upd 119 (upd 119 fr 59 (st_ a0.To)) 57 (st_ a0.Name)) 55 (rf 1 0)), [(hv 0), (o_dossierref03_Disk_0 false (C.own 7 0 p1.L.length 3) p1), (hv 2), (hv 3), (hv 4), (hv 5), (hv 6), (or_ e_dossierref03_File p1.L), (hv 8), (hv 9)]⟩
        refine s_call2 (ρ := [1, 7]) (br := false) (H2 := [(hv 0), (o_dossierref03_Disk_0 false (C.own 10 0 r13.2.L.length 3) r13.2), (hv 2), (hv 3), (hv 4), (hv 5), (hv 6), none, (hv 8), (hv 9), (or_ e_dossierref03_File r13.2.L)]) (d := (si r13.1)) F.ca_40 rfl rfl (ac (.one (.ref rfl)) (ac (.one .sc) (ac (.one .sc) an))) (ac (.cells (ac (.own rfl) (ac .sc (ac .sc (ac .sc an))))) (ac (.cells (lend_row _)) an)) (by decide) rfl (dossierref03_Disk_Rename_40.meets _ p1 a0.Name a0.To r13 er13) (.inl rfl) (by first | rfl | (simp only [mS]; done) | (simp only [mS]; rfl)) rfl ?_
        refine AWops.weak (st' := ⟨119, (upd 119 (upd 119 (upd 119 (upd 119 fr 59 (st_ a0.To)) 57 (st_ a0.Name)) 55 (rf 1 0)) 60 (si r13.1)), [(hv 0), (o_dossierref03_Disk_0 false (C.own 9 0 r13.2.L.length 3) r13.2), (hv 2), (hv 3), (hv 4), (hv 5), (hv 6), none, (hv 8), (or_ e_dossierref03_File r13.2.L)]⟩) (wg 5 [0, 1, 2, 3, 4, 5, 6, 7, 8, 10] [] hx (le_upd2 (le_ok (p := 9) (L := 10) rfl (htk 9 rfl).1) (.t (.one .sc))) (ac (oq 9 10 (htk 9 rfl) 0) (ac (.cells id (ac (.own rfl) (ac .sc (ac .sc (ac .sc an))))) (ac (oq 9 10 (htk 9 rfl) 2) (ac (oq 9 10 (htk 9 rfl) 3) (ac (oq 9 10 (htk 9 rfl) 4) (ac (oq 9 10 (htk 9 rfl) 5) (ac (oq 9 10 (htk 9 rfl) 6) (ac (.none _) (ac (oq 9 10 (htk 9 rfl) 8) (ac (.cells id (all2_row _)) an))))))))))) k
       ·intro K rest fr hv htk k
        show AWops _ x _ _ K ⟨119, (upd 119 (upd 119 fr 60 (si r13.1)) 54 (si r12.1)), _⟩
        refine s_binI (v := (.bool (r12.1 == r13.1))) rfl rfl rfl k
       ·intro K rest fr hv htk k
        show AWops _ x _ _ K ⟨119, (upd 119 fr 61 (sb (r12.1 == r13.1))), _⟩
        refine s_assign (d := (sb (r12.1 == r13.1))) rfl k
      ·refine AWops.weak (st' := ⟨119, (upd 119 topF 6 (sb (r12.1 == r13.1))), [(o_vdisk_Disk_03 false (C.mp 2) (C.ref 5 0) r12.2.1), (o_dossierref03_Disk_0 false (C.own 6 0 r13.2.L.length 3) r13.2), (om_ e_vdisk_file r12.2.1.files), none, none, (some (AObj.cells false [(ci r12.2.2)])), (or_ e_dossierref03_File r13.2.L)]⟩) (wg 5 [0, 1, 2, 3, 4, 6, 9] [] hx (le_upd (le_top _) (.t (.one .sc))) (ac (.cells id (ac (.mp rfl) (ac .sc (ac .sc (ac (.ref rfl) (ac .sc an)))))) (ac (.cells id (ac (.own rfl) (ac .sc (ac .sc (ac .sc an))))) (ac .map (ac (.none _) (ac (.none _) (ac (.cells id (ac .sc an)) (ac (.cells id (all2_row _)) an)))))))) (AWops.nil (AW.ret ?_))
       obtain rfl := Option.some.inj h
       exact ⟨_, rfl, (wg 5 [0, 1, 2, 3, 4, 5, 6] [] rfl (le_upd (le_top _) (.t (.one .sc))) (ac (.cells id (ac (.mp rfl) (ac .sc (ac .sc (ac (.ref rfl) (ac .sc an)))))) (ac (.cells id (ac (.own rfl) (ac .sc (ac .sc (ac .sc an))))) (ac .map (ac (.none _) (ac (.none _) (ac (.cells id (ac .sc an)) (ac (.cells id (all2_row _)) an))))))))⟩
     ·refine AW.cond_no rfl c11 (AW.seq (AW.region ?_))
      refine s_binI (v := (.bool ((IntKind.i64.wrap (Int.tmod (IntKind.u64.wrap a0.Op) 9)) == 4))) rfl rfl rfl ?_
      refine s_assign (d := (sb ((IntKind.i64.wrap (Int.tmod (IntKind.u64.wrap a0.Op) 9)) == 4))) rfl (AWops.nil ?_)
      rcases itH h with ⟨c14, h⟩ | ⟨c14, h⟩
      ·refine AW.cond_yes rfl c14 (AW.seq ?_)
       refine AW.weak (st' := ⟨119, (upd 119 (upd 119 (upd 119 topF 1 (rf 0 0)) 2 (rf 1 0)) 3 (rf 5 0)), [(o_vdisk_Disk_03 false (C.mp 2) (C.ref 6 0) p0), (o_dossierref03_Disk_0 false (C.own 7 0 p1.L.length 3) p1), (om_ e_vdisk_file p0.files), none, none, (some (AObj.cells true (c_dossierplain_Step a0))), (some (AObj.cells false [(ci b0_3)])), (or_ e_dossierref03_File p1.L)]⟩) (wg 5 [0, 1, 2, 3, 4, 5, 6, 7] [] hx (le_upd (le_upd (le_upd (le_top _) (.t (.one (.ref rfl)))) (.t (.one (.ref rfl)))) (.t (.one (.ref rfl)))) (ac (.cells id (ac (.mp rfl) (ac .sc (ac .sc (ac (.ref rfl) (ac .sc an)))))) (ac (.cells id (ac (.own rfl) (ac .sc (ac .sc (ac .sc an))))) (ac .map (ac (.none _) (ac (.none _) (ac (.cells (fun _ => rfl) (ac .sc (ac .sc (ac .sc (ac .sc (ac .same (ac .same an))))))) (ac (.cells id (ac .sc an)) (ac (.cells id (all2_row _)) an))))))))) ?_
       obtain ⟨r15, er15, h⟩ := bnd h
       obtain ⟨r16, er16, h⟩ := bnd h
       refine AW.draw (n := 119) (L := 10) [(ft 0 64 (rf 0 0) [(1, (rf 0 0))]), (ft 1 65 (rf 5 2) [(3, (rf 5 0))]), (2, ⟨some 66, (st_ a0.Name), [(65, (rf 5 2))], [(5, (some (AObj.cells true (c_dossierplain_Step a0))))], [], none⟩), (ft 3 67 (rf 5 1) [(3, (rf 5 0))]), (4, ⟨some 68, (si a0.N), [(67, (rf 5 1))], [(5, (some (AObj.cells true (c_dossierplain_Step a0))))], [], none⟩), (5, ⟨some 69, (si r15.1), [(64, (rf 0 0)), (66, (st_ a0.Name)), (68, (si a0.N))], [(0, (o_vdisk_Disk_03 false (C.mp 2) (C.ref 6 0) p0)), (2, (om_ e_vdisk_file p0.files)), (6, (some (AObj.cells false [(ci b0_3)])))], [(0, (o_vdisk_Disk_03 false (C.mp 2) (C.ref 6 0) r15.2.1)), (2, (om_ e_vdisk_file r15.2.1.files)), (6, (some (AObj.cells false [(ci r15.2.2)])))], none⟩), (ft 6 70 (rf 1 0) [(2, (rf 1 0))]), (ft 7 71 (rf 5 2) [(3, (rf 5 0))]), (8, ⟨some 72, (st_ a0.Name), [(71, (rf 5 2))], [(5, (some (AObj.cells true (c_dossierplain_Step a0))))], [], none⟩), (ft 9 73 (rf 5 1) [(3, (rf 5 0))]), (10, ⟨some 74, (si a0.N), [(73, (rf 5 1))], [(5, (some (AObj.cells true (c_dossierplain_Step a0))))], [], none⟩), (11, ⟨some 75, (si r16.1), [(70, (rf 1 0)), (72, (st_ a0.Name)), (74, (si a0.N))], [(1, (o_dossierref03_Disk_0 false (C.own 7 0 p1.L.length 3) p1)), (7, (or_ e_dossierref03_File p1.L))], [(1, (o_dossierref03_Disk_0 false (C.own 9 0 r16.2.L.length 3) r16.2)), (7, none), (9, (or_ e_dossierref03_File r16.2.L))], some 9⟩), (ft 12 76 (sb (r15.1 == r16.1)) [(69, (si r15.1)), (75, (si r16.1))]), (ft 13 6 (sb (r15.1 == r16.1)) [(76, (sb (r15.1 == r16.1)))])] [[], [], [1], [], [3], (.range 5), [], [], [7], [], [9], (.range 11), (.range 12), (.range 13)] (nl rfl) [0, 0, 1, 0, 1, 2, 0, 0, 1, 0, 1, 3, 4, 5] rfl (TK := [(11, 9)]) rfl (AllK.cons' ⟨(tk_upd (tk_upd (tk_upd tk_top rfl) rfl) rfl), (tC rfl (tC rfl (tC rfl (tC rfl (tC rfl (tC rfl (tC rfl (tC (tkO_row _) AllT.nil')))))))), (by repeat (first | refine fC (.inl rfl) ?_ | refine fC (.inr rfl) ?_ | refine fC (.inr (by unfold tkFoot; simp only [List.all_cons, List.all_nil, tkO_row, Bool.and_true, Bool.true_and]; rfl)) ?_ | trivial))⟩ AllK.nil') (by repeat (first | refine fC ⟨?_, ?_⟩ ?_ | refine sC rfl ?_ | refine hC rfl ?_ | trivial)) ?_ ?_
       ·refine (pC ?_ (pC ?_ (pC ?_ (pC ?_ (pC ?_ (pC ?_ (pC ?_ (pC ?_ (pC ?_ (pC ?_ (pC ?_ (pC ?_ (pC ?_ (pC ?_ AllStep.nil'))))))))))))))
        ·intro K rest fr hv htk k
         show AWops _ x _ _ K ⟨119, (upd 119 fr 1 (rf 0 0)), _⟩
         refine s_move (d := (rf 0 0)) rfl k
        ·intro K rest fr hv htk k
         show AWops _ x _ _ K ⟨119, (upd 119 fr 3 (rf 5 0)), [(hv 0), (hv 1), (hv 2), (hv 3), (hv 4), (hv 5), (hv 6), (hv 7), (hv 8), (hv 9)]⟩
         refine s_fieldRef F.fo_43_2 (by decide) rfl k
        ·intro K rest fr hv htk k
         show AWops _ x _ _ K ⟨119, (upd 119 fr 65 (rf 5 2)), [(hv 0), (hv 1), (hv 2), (hv 3), (hv 4), (some (AObj.cells true (c_dossierplain_Step a0))), (hv 6), (hv 7), (hv 8), (hv 9)]⟩
         refine s_load1 (c' := (ct a0.Name)) F.ag_9 rfl rfl k
        ·intro K rest fr hv htk k
         show AWops _ x _ _ K ⟨119, (upd 119 fr 3 (rf 5 0)), [(hv 0), (hv 1), (hv 2), (hv 3), (hv 4), (hv 5), (hv 6), (hv 7), (hv 8), (hv 9)]⟩
         refine s_fieldRef F.fo_43_1 (by decide) rfl k
        ·intro K rest fr hv htk k
         show AWops _ x _ _ K ⟨119, (upd 119 fr 67 (rf 5 1)), [(hv 0), (hv 1), (hv 2), (hv 3), (hv 4), (some (AObj.cells true (c_dossierplain_Step a0))), (hv 6), (hv 7), (hv 8), (hv 9)]⟩
         refine s_load1 (c' := (ci a0.N)) F.ag_3 rfl rfl k
        ·intro K rest fr hv htk k
         show AWops _ x _ _ K ⟨119, (upd 119 (upd 119 (upd 119 fr 68 (si a0.N)) 66 (st_ a0.Name)) 64 (rf 0 0)), [(o_vdisk_Disk_03 false (C.mp 2) (C.ref 6 0) p0), (hv 1), (om_ e_vdisk_file p0.files), (hv 3), (hv 4), (hv 5), (some (AObj.cells false [(ci b0_3)])), (hv 7), (hv 8), (hv 9)]⟩
         refine s_call2 (ρ := [0, 2, 6]) (br := false) (H2 := [(o_vdisk_Disk_03 false (C.mp 2) (C.ref 6 0) r15.2.1), (hv 1), (om_ e_vdisk_file r15.2.1.files), (hv 3), (hv 4), (hv 5), (some (AObj.cells false [(ci r15.2.2)])), (hv 7), (hv 8), (hv 9)]) (d := (si r15.1)) F.ca_19 rfl rfl (ac (.one (.ref rfl)) (ac (.one .sc) (ac (.one .sc) an))) (ac (.cells (ac (.mp rfl) (ac .sc (ac .sc (ac (.ref rfl) (ac .sc an)))))) (ac .map (ac (.cells (ac .sc an)) an))) (by decide) rfl (vdisk_Disk_Truncate_19.meets _ p0 a0.Name a0.N b0_3 r15 er15) (.inl rfl) rfl rfl k
        ·intro K rest fr hv htk k
         show AWops _ x _ _ K ⟨119, (upd 119 fr 2 (rf 1 0)), _⟩
         refine s_move (d := (rf 1 0)) rfl k
        ·intro K rest fr hv htk k
         show AWops _ x _ _ K ⟨119, (upd 119 fr 3 (rf 5 0)), [(hv 0), (hv 1), (hv 2), (hv 3), (hv 4), (hv 5), (hv 6), (hv 7), (hv 8), (hv 9)]⟩
         refine s_fieldRef F.fo_43_2 (by decide) rfl k
        ·intro K rest fr hv htk k
         show AWops _ x _ _ K ⟨119, (upd 119 fr 71 (rf 5 2)), [(hv 0), (hv 1), (hv 2), (hv 3), (hv 4), (some (AObj.cells true (c_dossierplain_Step a0))), (hv 6), (hv 7), (hv 8), (hv 9)]⟩
         refine s_load1 (c' := (ct a0.Name)) F.ag_9 rfl rfl k
        ·intro K rest fr hv htk k
         show AWops _ x _ _ K ⟨119, (upd 119 fr 3 (rf 5 0)), [(hv 0), (hv 1), (hv 2), (hv 3), (hv 4), (hv 5), (hv 6), (hv 7), (hv 8), (hv 9)]⟩
         refine s_fieldRef F.fo_43_1 (by decide) rfl k
        ·intro K rest fr hv htk k
         show AWops _ x _ _ K ⟨119, (upd 119 fr 73 (rf 5 1)), [(hv 0), (hv 1), (hv 2), (hv 3), (hv 4), (some (AObj.cells true (c_dossierplain_Step a0))), (hv 6), (hv 7), (hv 8), (hv 9)]⟩
         refine s_load1 (c' := (ci a0.N)) F.ag_3 rfl rfl k
        ·intro K rest fr hv htk k
         show AWops _ x _ _ K ⟨119, (upd 119 (upd 119 (upd 119 fr 74 (si a0.N)) 72 (st_ a0.Name)) 70 (rf 1 0)), [(hv 0), (o_dossierref03_Disk_0 false (C.own 7 0 p1.L.length 3) p1), (hv 2), (hv 3), (hv 4), (hv 5), (hv 6), (or_ e_dossierref03_File p1.L), (hv 8), (hv 9)]⟩
         refine s_call2 (ρ := [1, 7]) (br := false) (H2 := [(hv 0), (o_dossierref03_Disk_0 false (C.own 10 0 r16.2.L.length 3) r16.2), (hv 2), (hv 3), (hv 4), (hv 5), (hv 6), none, (hv 8), (hv 9), (or_ e_dossierref03_File r16.2.L)]) (d := (si r16.1)) F.ca_41 rfl rfl (ac (.one (.ref rfl)) (ac (.one .sc) (ac (.one .sc) an))) (ac (.cells (ac (.own rfl) (ac .sc (ac .sc (ac .sc an))))) (ac (.cells (lend_row _)) an)) (by decide) rfl (dossierref03_Disk_Truncate_41.meets _ p1 a0.Name a0.N r16 er16) (.inl rfl) (by first | rfl | (simp only [mS]; done) | (simp only [mS]; rfl)) rfl ?_
         refine AWops.weak (st' := ⟨119, (upd 119 (upd 119 (upd 119 (upd 119 fr 74 (si a0.N)) 72 (st_ a0.Name)) 70 (rf 1 0)) 75 (si r16.1)), [(hv 0), (o_dossierref03_Disk_0 false (C.own 9 0 r16.2.L.length 3) r16.2), (hv 2), (hv 3), (hv 4), (hv 5), (hv 6), none, (hv 8), (or_ e_dossierref03_File r16.2.L)]⟩) (wg 5 [0, 1, 2, 3, 4, 5, 6, 7, 8, 10] [] hx (le_upd2 (le_ok (p := 9) (L := 10) rfl (htk 9 rfl).1) (.t (.one .sc))) (ac (oq 9 10 (htk 9 rfl) 0) (ac (.cells id (ac (.own rfl) (ac .sc (ac .sc (ac .sc an))))) (ac (oq 9 10 (htk 9 rfl) 2) (ac (oq 9 10 (htk 9 rfl) 3) (ac (oq 9 10 (htk 9 rfl) 4) (ac (oq 9 10 (htk 9 rfl) 5) (ac (oq 9 10 (htk 9 rfl) 6) (ac (.none _) (ac (oq 9 10 (htk 9 rfl) 8) (ac (.cells id (all2_row _)) an))))))))))) k
        ·intro K rest fr hv htk k
         show AWops _ x _ _ K ⟨119, (upd 119 (upd 119 fr 75 (si r16.1)) 69 (si r15.1)), _⟩
         refine s_binI (v := (.bool (r15.1 == r16.1))) rfl rfl rfl k
        ·intro K rest fr hv htk k
         show AWops _ x _ _ K ⟨119, (upd 119 fr 76 (sb (r15.1 == r16.1))), _⟩
         refine s_assign (d := (sb (r15.1 == r16.1))) rfl k
       ·refine AWops.weak (st' := ⟨119, (upd 119 topF 6 (sb (r15.1 == r16.1))), [(o_vdisk_Disk_03 false (C.mp 2) (C.ref 5 0) r15.2.1), (o_dossierref03_Disk_0 false (C.own 6 0 r16.2.L.length 3) r16.2), (om_ e_vdisk_file r15.2.1.files), none, none, (some (AObj.cells false [(ci r15.2.2)])), (or_ e_dossierref03_File r16.2.L)]⟩) (wg 5 [0, 1, 2, 3, 4, 6, 9] [] hx (le_upd (le_top _) (.t (.one .sc))) (ac (.cells id (ac (.mp rfl) (ac .sc (ac .sc (ac (.ref rfl) (ac .sc an)))))) (ac (.cells id (ac (.own rfl) (ac .sc (ac .sc (ac .sc an))))) (ac .map (ac (.none _) (ac (.none _) (ac (.cells id (ac .sc an)) (ac (.cells id (all2_row _)) an)))))))) (AWops.nil (AW.ret ?_))
        obtain rfl := Option.some.inj h
        exact ⟨_, rfl, (wg 5 [0, 1, 2, 3, 4, 5, 6] [] rfl (le_upd (le_top _) (.t (.one .sc))) (ac (.cells id (ac (.mp rfl) (ac .sc (ac .sc (ac (.ref rfl) (ac .sc an)))))) (ac (.cells id (ac (.own rfl) (ac .sc (ac .sc (ac .sc an))))) (ac .map (ac (.none _) (ac (.none _) (ac (.cells id (ac .sc an)) (ac (.cells id (all2_row _)) an))))))))⟩
      ·refine AW.cond_no rfl c14 (AW.seq (AW.region ?_))
       refine s_binI (v := (.bool ((IntKind.i64.wrap (Int.tmod (IntKind.u64.wrap a0.Op) 9)) == 5))) rfl rfl rfl ?_
       refine s_assign (d := (sb ((IntKind.i64.wrap (Int.tmod (IntKind.u64.wrap a0.Op) 9)) == 5))) rfl (AWops.nil ?_)
       rcases itH h with ⟨c17, h⟩ | ⟨c17, h⟩
       ·refine AW.cond_yes rfl c17 (AW.seq ?_)
        refine AW.weak (st' := ⟨119, (upd 119 (upd 119 (upd 119 topF 1 (rf 0 0)) 2 (rf 1 0)) 3 (rf 5 0)), [(o_vdisk_Disk_03 false (C.mp 2) (C.ref 6 0) p0), (o_dossierref03_Disk_0 false (C.own 7 0 p1.L.length 3) p1), (om_ e_vdisk_file p0.files), none, none, (some (AObj.cells true (c_dossierplain_Step a0))), (some (AObj.cells false [(ci b0_3)])), (or_ e_dossierref03_File p1.L)]⟩) (wg 5 [0, 1, 2, 3, 4, 5, 6, 7] [] hx (le_upd (le_upd (le_upd (le_top _) (.t (.one (.ref rfl)))) (.t (.one (.ref rfl)))) (.t (.one (.ref rfl)))) (ac (.cells id (ac (.mp rfl) (ac .sc (ac .sc (ac (.ref rfl) (ac .sc an)))))) (ac (.cells id (ac (.own rfl) (ac .sc (ac .sc (ac .sc an))))) (ac .map (ac (.none _) (ac (.none _) (ac (.cells (fun _ => rfl) (ac .sc (ac .sc (ac .sc (ac .sc (ac .same (ac .same an))))))) (ac (.cells id (ac .sc an)) (ac (.cells id (all2_row _)) an))))))))) ?_
        obtain ⟨r18, er18, h⟩ := bnd h
        obtain ⟨r19, er19, h⟩ := bnd h
        refine AW.draw (n := 119) (L := 10) [(ft 0 79 (rf 0 0) [(1, (rf 0 0))]), (ft 1 80 (rf 5 2) [(3, (rf 5 0))]), (2, ⟨some 81, (st_ a0.Name), [(80, (rf 5 2))], [(5, (some (AObj.cells true (c_dossierplain_Step a0))))], [], none⟩), (3, ⟨some 82, (si r18.1), [(79, (rf 0 0)), (81, (st_ a0.Name))], [(0, (o_vdisk_Disk_03 false (C.mp 2) (C.ref 6 0) p0)), (2, (om_ e_vdisk_file p0.files)), (6, (some (AObj.cells false [(ci b0_3)])))], [(0, (o_vdisk_Disk_03 false (C.mp 2) (C.ref 6 0) r18.2.1)), (2, (om_ e_vdisk_file r18.2.1.files)), (6, (some (AObj.cells false [(ci r18.2.2)])))], none⟩), (ft 4 83 (rf 1 0) [(2, (rf 1 0))]), (ft 5 84 (rf 5 2) [(3, (rf 5 0))]), (6, ⟨some 85, (st_ a0.Name), [(84, (rf 5 2))], [(5, (some (AObj.cells true (c_dossierplain_Step a0))))], [], none⟩), (7, ⟨some 86, (si r19.1), [(83, (rf 1 0)), (85, (st_ a0.Name))], [(1, (o_dossierref03_Disk_0 false (C.own 7 0 p1.L.length 3) p1)), (7, (or_ e_dossierref03_File p1.L))], [(1, (o_dossierref03_Disk_0 false (C.own 9 0 r19.2.L.length 3) r19.2)), (7, none), (9, (or_ e_dossierref03_File r19.2.L))], some 9⟩), (ft 8 87 (sb (r18.1 == r19.1)) [(82, (si r18.1)), (86, (si r19.1))]), (ft 9 6 (sb (r18.1 == r19.1)) [(87, (sb (r18.1 == r19.1)))])] [[], [], [1], [0, 1, 2], [], [], [5], (.range 7), (.range 8), (.range 9)] (nl rfl) [0, 0, 1, 2, 0, 0, 1, 3, 4, 5] rfl (TK := [(7, 9)]) rfl (AllK.cons' ⟨(tk_upd (tk_upd (tk_upd tk_top rfl) rfl) rfl), (tC rfl (tC rfl (tC rfl (tC rfl (tC rfl (tC rfl (tC rfl (tC (tkO_row _) AllT.nil')))))))), (fC (.inr rfl) (fC (.inr rfl) (fC (.inr rfl) (fC (.inr rfl) (fC (.inr rfl) (fC (.inr rfl) (fC (.inr rfl) (fC (.inl rfl) (fC (.inl rfl) (fC (.inl rfl) AllF.nil'))))))))))⟩ AllK.nil') (by repeat (first | refine fC ⟨?_, ?_⟩ ?_ | refine sC rfl ?_ | refine hC rfl ?_ | trivial)) ?_ ?_
        ·refine (pC ?_ (pC ?_ (pC ?_ (pC ?_ (pC ?_ (pC ?_ (pC ?_ (pC ?_ (pC ?_ (pC ?_ AllStep.nil'))))))))))
         ·intro K rest fr hv htk k
          show AWops _ x _ _ K ⟨119, (upd 119 fr 1 (rf 0 0)), _⟩
          refine s_move (d := (rf 0 0)) rfl k
         ·intro K rest fr hv htk k
          show AWops _ x _ _ K ⟨119, (upd 119 fr 3 (rf 5 0)), [(hv 0), (hv 1), (hv 2), (hv 3), (hv 4), (hv 5), (hv 6), (hv 7), (hv 8), (hv 9)]⟩
          refine s_fieldRef F.fo_43_2 (by decide) rfl k
         ·intro K rest fr hv htk k
          show AWops _ x _ _ K ⟨119, (upd 119 fr 80 (rf 5 2)), [(hv 0), (hv 1), (hv 2), (hv 3), (hv 4), (some (AObj.cells true (c_dossierplain_Step a0))), (hv 6), (hv 7), (hv 8), (hv 9)]⟩
          refine s_load1 (c' := (ct a0.Name)) F.ag_9 rfl rfl k
         ·intro K rest fr hv htk k
          show AWops _ x _ _ K ⟨119, (upd 119 (upd 119 fr 81 (st_ a0.Name)) 79 (rf 0 0)), [(o_vdisk_Disk_03 false (C.mp 2) (C.ref 6 0) p0), (hv 1), (om_ e_vdisk_file p0.files), (hv 3), (hv 4), (hv 5), (some (AObj.cells false [(ci b0_3)])), (hv 7), (hv 8), (hv 9)]⟩
          refine s_call2 (ρ := [0, 2, 6]) (br := false) (H2 := [(o_vdisk_Disk_03 false (C.mp 2) (C.ref 6 0) r18.2.1), (hv 1), (om_ e_vdisk_file r18.2.1.files), (hv 3), (hv 4), (hv 5), (some (AObj.cells false [(ci r18.2.2)])), (hv 7), (hv 8), (hv 9)]) (d := (si r18.1)) F.ca_20 rfl rfl (ac (.one (.ref rfl)) (ac (.one .sc) an)) (ac (.cells (ac (.mp rfl) (ac .sc (ac .sc (ac (.ref rfl) (ac .sc an)))))) (ac .map (ac (.cells (ac .sc an)) an))) (by decide) rfl (vdisk_Disk_Remove_20.meets _ p0 a0.Name b0_3 r18 er18) (.inl rfl) rfl rfl k
         ·intro K rest fr hv htk k
          show AWops _ x _ _ K ⟨119, (upd 119 fr 2 (rf 1 0)), _⟩
          refine s_move (d := (rf 1 0)) rfl k
         ·intro K rest fr hv htk k
          show AWops _ x _ _ K ⟨119, (upd 119 fr 3 (rf 5 0)), [(hv 0), (hv 1), (hv 2), (hv 3), (hv 4), (hv 5), (hv 6), (hv 7), (hv 8), (hv 9)]⟩
          refine s_fieldRef F.fo_43_2 (by decide) rfl k
         ·intro K rest fr hv htk k
          show AWops _ x _ _ K ⟨119, (upd 119 fr 84 (rf 5 2)), [(hv 0), (hv 1), (hv 2), (hv 3), (hv 4), (some (AObj.cells true (c_dossierplain_Step a0))), (hv 6), (hv 7), (hv 8), (hv 9)]⟩
          refine s_load1 (c' := (ct a0.Name)) F.ag_9 rfl rfl k
         ·intro K rest fr hv htk k
          show AWops _ x _ _ K ⟨119, (upd 119 (upd 119 fr 85 (st_ a0.Name)) 83 (rf 1 0)), [(hv 0), (o_dossierref03_Disk_0 false (C.own 7 0 p1.L.length 3) p1), (hv 2), (hv 3), (hv 4), (hv 5), (hv 6), (or_ e_dossierref03_File p1.L), (hv 8), (hv 9)]⟩
          refine s_call2 (ρ := [1, 7]) (br := false) (H2 := [(hv 0), (o_dossierref03_Disk_0 false (C.own 10 0 r19.2.L.length 3) r19.2), (hv 2), (hv 3), (hv 4), (hv 5), (hv 6), none, (hv 8), (hv 9), (or_ e_dossierref03_File r19.2.L)]) (d := (si r19.1)) F.ca_42 rfl rfl (ac (.one (.ref rfl)) (ac (.one .sc) an)) (ac (.cells (ac (.own rfl) (ac .sc (ac .sc (ac .sc an))))) (ac (.cells (lend_row _)) an)) (by decide) rfl (dossierref03_Disk_Remove_42.meets _ p1 a0.Name r19 er19) (.inl rfl) (by first | rfl | (simp only [mS]; done) | (simp only [mS]; rfl)) rfl ?_
          refine AWops.weak (st' := ⟨119, (upd 119 (upd 119 (upd 119 fr 85 (st_ a0.Name)) 83 (rf 1 0)) 86 (si r19.1)), [(hv 0), (o_dossierref03_Disk_0 false (C.own 9 0 r19.2.L.length 3) r19.2), (hv 2), (hv 3), (hv 4), (hv 5), (hv 6), none, (hv 8), (or_ e_dossierref03_File r19.2.L)]⟩) (wg 5 [0, 1, 2, 3, 4, 5, 6, 7, 8, 10] [] hx (le_upd2 (le_ok (p := 9) (L := 10) rfl (htk 9 rfl).1) (.t (.one .sc))) (ac (oq 9 10 (htk 9 rfl) 0) (ac (.cells id (ac (.own rfl) (ac .sc (ac .sc (ac .sc an))))) (ac (oq 9 10 (htk 9 rfl) 2) (ac (oq 9 10 (htk 9 rfl) 3) (ac (oq 9 10 (htk 9 rfl) 4) (ac (oq 9 10 (htk 9 rfl) 5) (ac (oq 9 10 (htk 9 rfl) 6) (ac (.none _) (ac (oq 9 10 (htk 9 rfl) 8) (ac (.cells id (all2_row _)) an))))))))))) k
         ·intro K rest fr hv htk k
          show AWops _ x _ _ K ⟨119, (upd 119 (upd 119 fr 86 (si r19.1)) 82 (si r18.1)), _⟩
          refine s_binI (v := (.bool (r18.1 == r19.1))) rfl rfl rfl k
         ·intro K rest fr hv htk k
          show AWops _ x _ _ K ⟨119, (upd 119 fr 87 (sb (r18.1 == r19.1))), _⟩
          refine s_assign (d := (sb (r18.1 == r19.1))) rfl k
        ·refine AWops.weak (st' := ⟨119, (upd 119 topF 6 (sb (r18.1 == r19.1))), [(o_vdisk_Disk_03 false (C.mp 2) (C.ref 5 0) r18.2.1), (o_dossierref03_Disk_0 false (C.own 6 0 r19.2.L.length 3) r19.2), (om_ e_vdisk_file r18.2.1.files), none, none, (some (AObj.cells false [(ci r18.2.2)])), (or_ e_dossierref03_File r19.2.L)]⟩) (wg 5 [0, 1, 2, 3, 4, 6, 9] [] hx (le_upd (le_top _) (.t (.one .sc))) (ac (.cells id (ac (.mp rfl) (ac .sc (ac .sc (ac (.ref rfl) (ac .sc an)))))) (ac (.cells id (ac (.own rfl) (ac .sc (ac .sc (ac .sc an))))) (ac .map (ac (.none _) (ac (.none _) (ac (.cells id (ac .sc an)) (ac (.cells id (all2_row _)) an)))))))) (AWops.nil (AW.ret ?_))
         obtain rfl := Option.some.inj h
         exact ⟨_, rfl, (wg 5 [0, 1, 2, 3, 4, 5, 6] [] rfl (le_upd (le_top _) (.t (.one .sc))) (ac (.cells id (ac (.mp rfl) (ac .sc (ac .sc (ac (.ref rfl) (ac .sc an)))))) (ac (.cells id (ac (.own rfl) (ac .sc (ac .sc (ac .sc an))))) (ac .map (ac (.none _) (ac (.none _) (ac (.cells id (ac .sc an)) (ac (.cells id (all2_row _)) an))))))))⟩
       ·refine AW.cond_no rfl c17 (AW.seq (AW.region ?_))
        refine s_binI (v := (.bool ((IntKind.i64.wrap (Int.tmod (IntKind.u64.wrap a0.Op) 9)) == 6))) rfl rfl rfl ?_
        refine s_assign (d := (sb ((IntKind.i64.wrap (Int.tmod (IntKind.u64.wrap a0.Op) 9)) == 6))) rfl (AWops.nil ?_)
        rcases itH h with ⟨c20, h⟩ | ⟨c20, h⟩
        ·refine AW.cond_yes rfl c20 (AW.seq ?_)
         refine AW.weak (st' := ⟨119, (upd 119 (upd 119 (upd 119 topF 1 (rf 0 0)) 2 (rf 1 0)) 3 (rf 5 0)), [(o_vdisk_Disk_03 false (C.mp 2) (C.ref 6 0) p0), (o_dossierref03_Disk_0 false (C.own 7 0 p1.L.length 3) p1), (om_ e_vdisk_file p0.files), none, none, (some (AObj.cells true (c_dossierplain_Step a0))), (some (AObj.cells false [(ci b0_3)])), (or_ e_dossierref03_File p1.L)]⟩) (wg 5 [0, 1, 2, 3, 4, 5, 6, 7] [] hx (le_upd (le_upd (le_upd (le_top _) (.t (.one (.ref rfl)))) (.t (.one (.ref rfl)))) (.t (.one (.ref rfl)))) (ac (.cells id (ac (.mp rfl) (ac .sc (ac .sc (ac (.ref rfl) (ac .sc an)))))) (ac (.cells id (ac (.own rfl) (ac .sc (ac .sc (ac .sc an))))) (ac .map (ac (.none _) (ac (.none _) (ac (.cells (fun _ => rfl) (ac .sc (ac .sc (ac .sc (ac .sc (ac .same (ac .same an))))))) (ac (.cells id (ac .sc an)) (ac (.cells id (all2_row _)) an))))))))) ?_
         obtain ⟨r21, er21, h⟩ := bnd h
         obtain ⟨r22, er22, h⟩ := bnd h
         refine AW.draw (n := 119) (L := 10) [(ft 0 90 (rf 0 0) [(1, (rf 0 0))]), (ft 1 91 (rf 5 1) [(3, (rf 5 0))]), (2, ⟨some 92, (si a0.N), [(91, (rf 5 1))], [(5, (some (AObj.cells true (c_dossierplain_Step a0))))], [], none⟩), (3, ⟨some 93, (si r21.1), [(90, (rf 0 0)), (92, (si a0.N))], [(0, (o_vdisk_Disk_03 false (C.mp 2) (C.ref 6 0) p0)), (2, (om_ e_vdisk_file p0.files)), (6, (some (AObj.cells false [(ci b0_3)])))], [(0, (o_vdisk_Disk_03 false (C.mp 2) (C.ref 8 0) r21.2.1)), (2, (om_ e_vdisk_file r21.2.1.files)), (6, none), (8, (some (AObj.cells false [(ci r21.2.2)])))], some 8⟩), (ft 4 94 (rf 1 0) [(2, (rf 1 0))]), (ft 5 95 (rf 5 1) [(3, (rf 5 0))]), (6, ⟨some 96, (si a0.N), [(95, (rf 5 1))], [(5, (some (AObj.cells true (c_dossierplain_Step a0))))], [], none⟩), (7, ⟨some 97, (si r22.1), [(94, (rf 1 0)), (96, (si a0.N))], [(1, (o_dossierref03_Disk_0 false (C.own 7 0 p1.L.length 3) p1)), (7, (or_ e_dossierref03_File p1.L))], [(1, (o_dossierref03_Disk_0 false (C.own 7 0 r22.2.L.length 3) r22.2)), (7, (or_ e_dossierref03_File r22.2.L))], none⟩), (ft 8 98 (sb (r21.1 == r22.1)) [(93, (si r21.1)), (97, (si r22.1))]), (ft 9 6 (sb (r21.1 == r22.1)) [(98, (sb (r21.1 == r22.1)))])] [[], [], [1], [0, 1, 2], [], [], [5], (.range 7), (.range 8), (.range 9)] (nl rfl) [0, 0, 1, 2, 0, 0, 1, 3, 4, 5] rfl (TK := [(3, 8)]) rfl (AllK.cons' ⟨(tk_upd (tk_upd (tk_upd tk_top rfl) rfl) rfl), (tC rfl (tC rfl (tC rfl (tC rfl (tC rfl (tC rfl (tC rfl (tC (tkO_row _) AllT.nil')))))))), (fC (.inr rfl) (fC (.inr rfl) (fC (.inr rfl) (fC (.inl rfl) (fC (.inr rfl) (fC (.inr rfl) (fC (.inr rfl) (fC (.inl rfl) (fC (.inl rfl) (fC (.inl rfl) AllF.nil'))))))))))⟩ AllK.nil') (by repeat (first | refine fC ⟨?_, ?_⟩ ?_ | refine sC rfl ?_ | refine hC rfl ?_ | trivial)) ?_ ?_
         ·refine (pC ?_ (pC ?_ (pC ?_ (pC ?_ (pC ?_ (pC ?_ (pC ?_ (pC ?_ (pC ?_ (pC ?_ AllStep.nil'))))))))))
          ·intro K rest fr hv htk k
           show AWops _ x _ _ K ⟨119, (upd 119 fr 1 (rf 0 0)), _⟩
           refine s_move (d := (rf 0 0)) rfl k
          ·intro K rest fr hv htk k
           show AWops _ x _ _ K ⟨119, (upd 119 fr 3 (rf 5 0)), [(hv 0), (hv 1), (hv 2), (hv 3), (hv 4), (hv 5), (hv 6), (hv 7), (hv 8), (hv 9)]⟩
           refine s_fieldRef F.fo_43_1 (by decide) rfl k
          ·intro K rest fr hv htk k
           show AWops _ x _ _ K ⟨119, (upd 119 fr 91 (rf 5 1)), [(hv 0), (hv 1), (hv 2), (hv 3), (hv 4), (some (AObj.cells true (c_dossierplain_Step a0))), (hv 6), (hv 7), (hv 8), (hv 9)]⟩
           refine s_load1 (c' := (ci a0.N)) F.ag_3 rfl rfl k
          ·intro K rest fr hv htk k
           show AWops _ x _ _ K ⟨119, (upd 119 (upd 119 fr 92 (si a0.N)) 90 (rf 0 0)), [(o_vdisk_Disk_03 false (C.mp 2) (C.ref 6 0) p0), (hv 1), (om_ e_vdisk_file p0.files), (hv 3), (hv 4), (hv 5), (some (AObj.cells false [(ci b0_3)])), (hv 7), (hv 8), (hv 9)]⟩
           refine s_call2 (ρ := [0, 2, 6]) (br := false) (H2 := [(o_vdisk_Disk_03 false (C.mp 2) (C.ref 10 0) r21.2.1), (hv 1), (om_ e_vdisk_file r21.2.1.files), (hv 3), (hv 4), (hv 5), none, (hv 7), (hv 8), (hv 9), (some (AObj.cells false [(ci r21.2.2)]))]) (d := (si r21.1)) F.ca_21 rfl rfl (ac (.one (.ref rfl)) (ac (.one .sc) an)) (ac (.cells (ac (.mp rfl) (ac .sc (ac .sc (ac (.ref rfl) (ac .sc an)))))) (ac .map (ac (.cells (ac .sc an)) an))) (by decide) rfl (vdisk_Disk_Fuse_21x.meets _ p0 b0_3 a0.N r21 er21) (.inl rfl) rfl rfl ?_
           refine AWops.weak (st' := ⟨119, (upd 119 (upd 119 (upd 119 fr 92 (si a0.N)) 90 (rf 0 0)) 93 (si r21.1)), [(o_vdisk_Disk_03 false (C.mp 2) (C.ref 8 0) r21.2.1), (hv 1), (om_ e_vdisk_file r21.2.1.files), (hv 3), (hv 4), (hv 5), none, (hv 7), (some (AObj.cells false [(ci r21.2.2)])), (hv 9)]⟩) (wg 5 [0, 1, 2, 3, 4, 5, 6, 7, 10, 9] [] hx (le_upd2 (le_ok (p := 8) (L := 10) rfl (htk 8 rfl).1) (.t (.one .sc))) (ac (.cells id (ac (.mp rfl) (ac .sc (ac .sc (ac (.ref rfl) (ac .sc an)))))) (ac (oq 8 10 (htk 8 rfl) 1) (ac .map (ac (oq 8 10 (htk 8 rfl) 3) (ac (oq 8 10 (htk 8 rfl) 4) (ac (oq 8 10 (htk 8 rfl) 5) (ac (.none _) (ac (oq 8 10 (htk 8 rfl) 7) (ac (.cells id (ac .sc an)) (ac (oq 8 10 (htk 8 rfl) 9) an))))))))))) k
          ·intro K rest fr hv htk k
           show AWops _ x _ _ K ⟨119, (upd 119 fr 2 (rf 1 0)), _⟩
           refine s_move (d := (rf 1 0)) rfl k
          ·intro K rest fr hv htk k
           show AWops _ x _ _ K ⟨119, (upd 119 fr 3 (rf 5 0)), [(hv 0), (hv 1), (hv 2), (hv 3), (hv 4), (hv 5), (hv 6), (hv 7), (hv 8), (hv 9)]⟩
           refine s_fieldRef F.fo_43_1 (by decide) rfl k
          ·intro K rest fr hv htk k
           show AWops _ x _ _ K ⟨119, (upd 119 fr 95 (rf 5 1)), [(hv 0), (hv 1), (hv 2), (hv 3), (hv 4), (some (AObj.cells true (c_dossierplain_Step a0))), (hv 6), (hv 7), (hv 8), (hv 9)]⟩
           refine s_load1 (c' := (ci a0.N)) F.ag_3 rfl rfl k
          ·intro K rest fr hv htk k
           show AWops _ x _ _ K ⟨119, (upd 119 (upd 119 fr 96 (si a0.N)) 94 (rf 1 0)), [(hv 0), (o_dossierref03_Disk_0 false (C.own 7 0 p1.L.length 3) p1), (hv 2), (hv 3), (hv 4), (hv 5), (hv 6), (or_ e_dossierref03_File p1.L), (hv 8), (hv 9)]⟩
           refine s_call2 (ρ := [1, 7]) (br := false) (H2 := [(hv 0), (o_dossierref03_Disk_0 false (C.own 7 0 r22.2.L.length 3) r22.2), (hv 2), (hv 3), (hv 4), (hv 5), (hv 6), (or_ e_dossierref03_File r22.2.L), (hv 8), (hv 9)]) (d := (si r22.1)) F.ca_43 rfl rfl (ac (.one (.ref rfl)) (ac (.one .sc) an)) (ac (.cells (ac (.own rfl) (ac .sc (ac .sc (ac .sc an))))) (ac (.cells (lend_row _)) an)) (by decide) rfl (dossierref03_Disk_Fuse.meets _ p1 a0.N r22 er22) (.inl rfl) (by first | rfl | (simp only [mS]; done) | (simp only [mS]; rfl)) rfl k
          ·intro K rest fr hv htk k
           show AWops _ x _ _ K ⟨119, (upd 119 (upd 119 fr 97 (si r22.1)) 93 (si r21.1)), _⟩
           refine s_binI (v := (.bool (r21.1 == r22.1))) rfl rfl rfl k
          ·intro K rest fr hv htk k
           show AWops _ x _ _ K ⟨119, (upd 119 fr 98 (sb (r21.1 == r22.1))), _⟩
           refine s_assign (d := (sb (r21.1 == r22.1))) rfl k
         ·refine AWops.weak (st' := ⟨119, (upd 119 topF 6 (sb (r21.1 == r22.1))), [(o_vdisk_Disk_03 false (C.mp 2) (C.ref 5 0) r21.2.1), (o_dossierref03_Disk_0 false (C.own 6 0 r22.2.L.length 3) r22.2), (om_ e_vdisk_file r21.2.1.files), none, none, (some (AObj.cells false [(ci r21.2.2)])), (or_ e_dossierref03_File r22.2.L)]⟩) (wg 5 [0, 1, 2, 3, 4, 8, 7] [] hx (le_upd (le_top _) (.t (.one .sc))) (ac (.cells id (ac (.mp rfl) (ac .sc (ac .sc (ac (.ref rfl) (ac .sc an)))))) (ac (.cells id (ac (.own rfl) (ac .sc (ac .sc (ac .sc an))))) (ac .map (ac (.none _) (ac (.none _) (ac (.cells id (ac .sc an)) (ac (.cells id (all2_row _)) an)))))))) (AWops.nil (AW.ret ?_))
          obtain rfl := Option.some.inj h
          exact ⟨_, rfl, (wg 5 [0, 1, 2, 3, 4, 5, 6] [] rfl (le_upd (le_top _) (.t (.one .sc))) (ac (.cells id (ac (.mp rfl) (ac .sc (ac .sc (ac (.ref rfl) (ac .sc an)))))) (ac (.cells id (ac (.own rfl) (ac .sc (ac .sc (ac .sc an))))) (ac .map (ac (.none _) (ac (.none _) (ac (.cells id (ac .sc an)) (ac (.cells id (all2_row _)) an))))))))⟩
        ·refine AW.cond_no rfl c20 (AW.seq (AW.region ?_))
         refine s_binI (v := (.bool ((IntKind.i64.wrap (Int.tmod (IntKind.u64.wrap a0.Op) 9)) == 7))) rfl rfl rfl ?_
         refine s_assign (d := (sb ((IntKind.i64.wrap (Int.tmod (IntKind.u64.wrap a0.Op) 9)) == 7))) rfl (AWops.nil ?_)
         rcases itH h with ⟨c23, h⟩ | ⟨c23, h⟩
         ·refine AW.cond_yes rfl c23 (AW.seq (AW.region ?_))
          refine s_move (d := (rf 1 0)) rfl ?_
          refine s_fieldRef F.fo_43_5 (by decide) rfl ?_
          refine s_load1 (c' := (C.p false (.sl a0.Keeps.length (a0.Keeps.flatMap e_i64)))) F.ag_24 rfl rfl ?_
          obtain ⟨r24, er24, h⟩ := bnd h
          refine s_call2 (ρ := [1, 7]) (br := false) (H2 := [(o_vdisk_Disk_03 false (C.mp 2) (C.ref 6 0) p0), (o_dossierref03_Disk_0 false (C.own 8 0 r24.L.length 3) r24), (om_ e_vdisk_file p0.files), none, none, (some (AObj.cells true (c_dossierplain_Step a0))), (some (AObj.cells false [(ci b0_3)])), none, (or_ e_dossierref03_File r24.L)]) (d := (D.tup [])) F.ca_44 rfl rfl (ac (.one (.ref rfl)) (ac (.one .imm) an)) (ac (.cells (ac (.own rfl) (ac .sc (ac .sc (ac .sc an))))) (ac (.cells (lend_row _)) an)) (by decide) rfl (dossierref03_Disk_Crash_44.meets _ p1 a0.Keeps r24 er24) (.inl rfl) (by first | rfl | (simp only [mS]; done) | (simp only [mS]; rfl)) rfl (AWops.nil (AW.seq (AW.region ?_)))
          refine s_move (d := (rf 0 0)) rfl ?_
          refine s_fieldRef F.fo_43_5 (by decide) rfl ?_
          refine s_load1 (c' := (C.p false (.sl a0.Keeps.length (a0.Keeps.flatMap e_i64)))) F.ag_24 rfl rfl ?_
          obtain ⟨r25, er25, h⟩ := bnd h
          refine s_call2 (ρ := [0, 2, 6]) (br := false) (H2 := [(o_vdisk_Disk_03 false (C.mp 2) (C.p true (.v (.pointer none))) r25.2), (o_dossierref03_Disk_0 false (C.own 8 0 r24.L.length 3) r24), (om_ e_vdisk_file r25.2.files), none, none, (some (AObj.cells true (c_dossierplain_Step a0))), none, none, (or_ e_dossierref03_File r24.L)]) (d := (si r25.1)) F.ca_11 rfl rfl (ac (.one (.ref rfl)) (ac (.one .imm) an)) (ac (.cells (ac (.mp rfl) (ac .sc (ac .sc (ac (.ref rfl) (ac .sc an)))))) (ac .map (ac (.cells (ac .sc an)) an))) (by decide) rfl (vdisk_Disk_Crash_11x.meets _ p0 b0_3 a0.Keeps r25 er25) (.inl rfl) rfl rfl ?_
          refine s_binI (v := (.bool (r25.1 == 0))) rfl rfl rfl ?_
          refine s_assign (d := (sb (r25.1 == 0))) rfl (AWops.nil (AW.ret ?_))
          obtain rfl := Option.some.inj h
          exact ⟨_, rfl, (wg 5 [0, 1, 2, 3, 4, 8] [] rfl (le_upd (le_top _) (.t (.one .sc))) (ac (.cells id (ac (.mp rfl) (ac .sc (ac .sc (ac .sc (ac .sc an)))))) (ac (.cells id (ac (.own rfl) (ac .sc (ac .sc (ac .sc an))))) (ac .map (ac (.none _) (ac (.none _) (ac (.cells id (all2_row _)) an)))))))⟩
         ·refine AW.cond_no rfl c23 (AW.skip (AW.seq ?_))
          refine AW.weak (st' := ⟨119, (upd 119 (upd 119 (upd 119 topF 1 (rf 0 0)) 2 (rf 1 0)) 3 (rf 5 0)), [(o_vdisk_Disk_03 false (C.mp 2) (C.ref 6 0) p0), (o_dossierref03_Disk_0 false (C.own 7 0 p1.L.length 3) p1), (om_ e_vdisk_file p0.files), none, none, (some (AObj.cells true (c_dossierplain_Step a0))), (some (AObj.cells false [(ci b0_3)])), (or_ e_dossierref03_File p1.L)]⟩) (wg 5 [0, 1, 2, 3, 4, 5, 6, 7] [] hx (le_upd (le_upd (le_upd (le_top _) (.t (.one (.ref rfl)))) (.t (.one (.ref rfl)))) (.t (.one (.ref rfl)))) (ac (.cells id (ac (.mp rfl) (ac .sc (ac .sc (ac (.ref rfl) (ac .sc an)))))) (ac (.cells id (ac (.own rfl) (ac .sc (ac .sc (ac .sc an))))) (ac .map (ac (.none _) (ac (.none _) (ac (.cells (fun _ => rfl) (ac .sc (ac .sc (ac .sc (ac .sc (ac .same (ac .same an))))))) (ac (.cells id (ac .sc an)) (ac (.cells id (all2_row _)) an))))))))) ?_
          obtain ⟨r26, er26, h⟩ := bnd h
          obtain ⟨r27, er27, h⟩ := bnd h
          refine AW.draw (n := 119) (L := 10) [(ft 0 110 (rf 0 0) [(1, (rf 0 0))]), (ft 1 111 (rf 5 1) [(3, (rf 5 0))]), (2, ⟨some 112, (si a0.N), [(111, (rf 5 1))], [(5, (some (AObj.cells true (c_dossierplain_Step a0))))], [], none⟩), (3, ⟨some 113, (si r26.1), [(110, (rf 0 0)), (112, (si a0.N))], [(0, (o_vdisk_Disk_03 false (C.mp 2) (C.ref 6 0) p0)), (2, (om_ e_vdisk_file p0.files)), (6, (some (AObj.cells false [(ci b0_3)])))], [(0, (o_vdisk_Disk_03 false (C.mp 2) (C.ref 6 0) r26.2)), (2, (om_ e_vdisk_file r26.2.files))], none⟩), (ft 4 114 (rf 1 0) [(2, (rf 1 0))]), (ft 5 115 (rf 5 1) [(3, (rf 5 0))]), (6, ⟨some 116, (si a0.N), [(115, (rf 5 1))], [(5, (some (AObj.cells true (c_dossierplain_Step a0))))], [], none⟩), (7, ⟨some 117, (si r27.1), [(114, (rf 1 0)), (116, (si a0.N))], [(1, (o_dossierref03_Disk_0 false (C.own 7 0 p1.L.length 3) p1)), (7, (or_ e_dossierref03_File p1.L))], [(1, (o_dossierref03_Disk_0 false (C.own 7 0 r27.2.L.length 3) r27.2)), (7, (or_ e_dossierref03_File r27.2.L))], none⟩), (ft 8 118 (sb (r26.1 == r27.1)) [(113, (si r26.1)), (117, (si r27.1))]), (ft 9 6 (sb (r26.1 == r27.1)) [(118, (sb (r26.1 == r27.1)))])] [[], [], [1], [0, 1, 2], [], [], [5], (.range 7), (.range 8), (.range 9)] (nl rfl) [0, 0, 1, 2, 0, 0, 1, 3, 4, 5] rfl (TK := []) rfl AllK.nil' (by repeat (first | refine fC ⟨?_, ?_⟩ ?_ | refine sC rfl ?_ | refine hC rfl ?_ | trivial)) ?_ ?_
          ·refine (pC ?_ (pC ?_ (pC ?_ (pC ?_ (pC ?_ (pC ?_ (pC ?_ (pC ?_ (pC ?_ (pC ?_ AllStep.nil'))))))))))
           ·intro K rest fr hv htk k
            show AWops _ x _ _ K ⟨119, (upd 119 fr 1 (rf 0 0)), _⟩
            refine s_move (d := (rf 0 0)) rfl k
           ·intro K rest fr hv htk k
            show AWops _ x _ _ K ⟨119, (upd 119 fr 3 (rf 5 0)), [(hv 0), (hv 1), (hv 2), (hv 3), (hv 4), (hv 5), (hv 6), (hv 7), (hv 8), (hv 9)]⟩
            refine s_fieldRef F.fo_43_1 (by decide) rfl k
           ·intro K rest fr hv htk k
            show AWops _ x _ _ K ⟨119, (upd 119 fr 111 (rf 5 1)), [(hv 0), (hv 1), (hv 2), (hv 3), (hv 4), (some (AObj.cells true (c_dossierplain_Step a0))), (hv 6), (hv 7), (hv 8), (hv 9)]⟩
            refine s_load1 (c' := (ci a0.N)) F.ag_3 rfl rfl k
           ·intro K rest fr hv htk k
            show AWops _ x _ _ K ⟨119, (upd 119 (upd 119 fr 112 (si a0.N)) 110 (rf 0 0)), [(o_vdisk_Disk_03 false (C.mp 2) (C.ref 6 0) p0), (hv 1), (om_ e_vdisk_file p0.files), (hv 3), (hv 4), (hv 5), (some (AObj.cells false [(ci b0_3)])), (hv 7), (hv 8), (hv 9)]⟩
            refine s_call2 (ρ := [0, 2, 6]) (br := false) (H2 := [(o_vdisk_Disk_03 false (C.mp 2) (C.ref 6 0) r26.2), (hv 1), (om_ e_vdisk_file r26.2.files), (hv 3), (hv 4), (hv 5), (some (AObj.cells false [(ci b0_3)])), (hv 7), (hv 8), (hv 9)]) (d := (si r26.1)) F.ca_22 rfl rfl (ac (.one (.ref rfl)) (ac (.one .sc) an)) (ac (.cells (ac (.mp rfl) (ac .sc (ac .sc (ac (.ref rfl) (ac .sc an)))))) (ac .map (ac (.cells (ac .sc an)) an))) (by decide) rfl (vdisk_Disk_Room_22.meets _ p0 a0.N b0_3 r26 er26) (.inl rfl) rfl rfl k
           ·intro K rest fr hv htk k
            show AWops _ x _ _ K ⟨119, (upd 119 fr 2 (rf 1 0)), _⟩
            refine s_move (d := (rf 1 0)) rfl k
           ·intro K rest fr hv htk k
            show AWops _ x _ _ K ⟨119, (upd 119 fr 3 (rf 5 0)), [(hv 0), (hv 1), (hv 2), (hv 3), (hv 4), (hv 5), (hv 6), (hv 7), (hv 8), (hv 9)]⟩
            refine s_fieldRef F.fo_43_1 (by decide) rfl k
           ·intro K rest fr hv htk k
            show AWops _ x _ _ K ⟨119, (upd 119 fr 115 (rf 5 1)), [(hv 0), (hv 1), (hv 2), (hv 3), (hv 4), (some (AObj.cells true (c_dossierplain_Step a0))), (hv 6), (hv 7), (hv 8), (hv 9)]⟩
            refine s_load1 (c' := (ci a0.N)) F.ag_3 rfl rfl k
           ·intro K rest fr hv htk k
            show AWops _ x _ _ K ⟨119, (upd 119 (upd 119 fr 116 (si a0.N)) 114 (rf 1 0)), [(hv 0), (o_dossierref03_Disk_0 false (C.own 7 0 p1.L.length 3) p1), (hv 2), (hv 3), (hv 4), (hv 5), (hv 6), (or_ e_dossierref03_File p1.L), (hv 8), (hv 9)]⟩
            refine s_call2 (ρ := [1, 7]) (br := false) (H2 := [(hv 0), (o_dossierref03_Disk_0 false (C.own 7 0 r27.2.L.length 3) r27.2), (hv 2), (hv 3), (hv 4), (hv 5), (hv 6), (or_ e_dossierref03_File r27.2.L), (hv 8), (hv 9)]) (d := (si r27.1)) F.ca_45 rfl rfl (ac (.one (.ref rfl)) (ac (.one .sc) an)) (ac (.cells (ac (.own rfl) (ac .sc (ac .sc (ac .sc an))))) (ac (.cells (lend_row _)) an)) (by decide) rfl (dossierref03_Disk_Room.meets _ p1 a0.N r27 er27) (.inl rfl) (by first | rfl | (simp only [mS]; done) | (simp only [mS]; rfl)) rfl k
           ·intro K rest fr hv htk k
            show AWops _ x _ _ K ⟨119, (upd 119 (upd 119 fr 117 (si r27.1)) 113 (si r26.1)), _⟩
            refine s_binI (v := (.bool (r26.1 == r27.1))) rfl rfl rfl k
           ·intro K rest fr hv htk k
            show AWops _ x _ _ K ⟨119, (upd 119 fr 118 (sb (r26.1 == r27.1))), _⟩
            refine s_assign (d := (sb (r26.1 == r27.1))) rfl k
          ·refine AWops.weak (st' := ⟨119, (upd 119 topF 6 (sb (r26.1 == r27.1))), [(o_vdisk_Disk_03 false (C.mp 2) (C.ref 5 0) r26.2), (o_dossierref03_Disk_0 false (C.own 6 0 r27.2.L.length 3) r27.2), (om_ e_vdisk_file r26.2.files), none, none, (some (AObj.cells false [(ci b0_3)])), (or_ e_dossierref03_File r27.2.L)]⟩) (wg 5 [0, 1, 2, 3, 4, 6, 7] [] hx (le_upd (le_top _) (.t (.one .sc))) (ac (.cells id (ac (.mp rfl) (ac .sc (ac .sc (ac (.ref rfl) (ac .sc an)))))) (ac (.cells id (ac (.own rfl) (ac .sc (ac .sc (ac .sc an))))) (ac .map (ac (.none _) (ac (.none _) (ac (.cells id (ac .sc an)) (ac (.cells id (all2_row _)) an)))))))) (AWops.nil (AW.ret ?_))
           obtain rfl := Option.some.inj h
           exact ⟨_, rfl, (wg 5 [0, 1, 2, 3, 4, 5, 6] [] rfl (le_upd (le_top _) (.t (.one .sc))) (ac (.cells id (ac (.mp rfl) (ac .sc (ac .sc (ac (.ref rfl) (ac .sc an)))))) (ac (.cells id (ac (.own rfl) (ac .sc (ac .sc (ac .sc an))))) (ac .map (ac (.none _) (ac (.none _) (ac (.cells id (ac .sc an)) (ac (.cells id (all2_row _)) an))))))))⟩
mutual
def slices_Concat_byte_byte_34.l1 : Nat → (List Int) → Int → (List (List Int)) → Option (List Int)
 | 0, _, _, _ => none
 | k + 1, x7, x8, a0 => if (decide (x8 < (a0.length : Int))) = true then ((rd a0 x8).bind fun v10 => if (decide (x7.length + v10.length ≤ 140737488355328)) = true then (slices_Concat_byte_byte_34.l1 k (x7 ++ v10) (IntKind.i64.wrap (x8 + 1)) a0) else none) else (some x7)
def slices_Concat_byte_byte_34.l0 : Nat → Int → Int → (List (List Int)) → Option (List Int)
 | 0, _, _, _ => none
 | k + 1, x1, x2, a0 => if (decide (x2 < (a0.length : Int))) = true then ((rd a0 x2).bind fun v4 => if (decide ((IntKind.i64.wrap (x1 + (v4.length : Int))) < 0)) = true then (none) else (slices_Concat_byte_byte_34.l0 k (IntKind.i64.wrap (x1 + (v4.length : Int))) (IntKind.i64.wrap (x2 + 1)) a0)) else ((slices_Grow_byte_byte_nil0.f k x1).bind fun r6 => slices_Concat_byte_byte_34.l1 k r6 0 a0)
end
def slices_Concat_byte_byte_34.f (k : Nat) (a0 : List (List Int)) : Option (List Int) := slices_Concat_byte_byte_34.l0 k 0 0 a0
theorem slices_Concat_byte_byte_34.meets (k : Nat) (a0 : List (List Int)) (r : (List Int)) (h : slices_Concat_byte_byte_34.f k a0 = some r) : Meets Try.prog 34 [(D.one (C.p false (.sl a0.length (a0.flatMap (e_sl e_u8)))))] [] (D.one (C.own 0 0 r.length 1)) [(ow_ e_u8 r)] := by
 unfold slices_Concat_byte_byte_34.f at h
 refine Meets.of_body (n := 36) Try.func34 rfl rfl (nl rfl) fun x hx => ?_
 replace hx : x.k = 0 := hx
 show AW _ x _ _ ⟨36, fr0 [(D.one (C.p false (.sl a0.length (a0.flatMap (e_sl e_u8)))))], []⟩
 refine AW.seq (AW.region ?_)
 refine s_assign (d := (sc (.slice none 0 0))) rfl (AWops.nil (AW.seq (AW.region ?_)))
 refine s_assign (d := (si 0)) rfl (AWops.nil (AW.seq (AW.seq (AW.region ?_))))
 refine s_move (d := (D.one (C.p false (.sl a0.length (a0.flatMap (e_sl e_u8)))))) rfl ?_
 refine s_len (n := a0.length) F.u_23 rfl (.inr ⟨(fun _ _ h => by cases h), ⟨_, rfl⟩⟩) ?_
 refine s_move (d := (si 0)) rfl (AWops.nil (AW.block ?_))
 refine AW.loopw (st0 := ⟨36, (upd 36 (upd 36 (upd 36 (upd 36 (upd 36 topF 0 (D.one (C.p false (.sl a0.length (a0.flatMap (e_sl e_u8)))))) 3 (si 0)) 9 (D.one (C.p false (.sl a0.length (a0.flatMap (e_sl e_u8)))))) 10 (si (a0.length : Int))) 11 (si 0)), []⟩) (fun kv st => kv ≤ k ∧ ∃ (x1 : Int) (x2 : Int), slices_Concat_byte_byte_34.l0 kv x1 x2 a0 = some r ∧ st = ⟨36, (upd 36 (upd 36 (upd 36 (upd 36 (upd 36 topF 0 (D.one (C.p false (.sl a0.length (a0.flatMap (e_sl e_u8)))))) 3 (si x1)) 9 (D.one (C.p false (.sl a0.length (a0.flatMap (e_sl e_u8)))))) 10 (si (a0.length : Int))) 11 (si x2)), []⟩) (k := k) (wg 0 [] [] hx (le_upd (le_upd (le_upd (le_upd (le_upd (le_top _) (.t (.one .same))) (.t (.one .sc))) (.t (.one .same))) (.t (.one .sc))) (.t (.one .sc))) an) ⟨Nat.le_refl _, 0, 0, h, rfl⟩ ?_
 rintro ql0 st ⟨hkl0, x1, x2, h, rfl⟩
 cases ql0 with
 | zero => exact absurd h (by simp [slices_Concat_byte_byte_34.l0])
 | succ ql0 =>
  replace h := (slices_Concat_byte_byte_34.l0.eq_2 _ _ _ _).symm.trans h
  refine AW.seq (AW.region ?_)
  refine s_binI (v := (.bool (decide (x2 < (a0.length : Int))))) rfl rfl rfl (AWops.nil (AW.seq ?_))
  rcases itH h with ⟨c3, h⟩ | ⟨c3, h⟩
  ·refine AW.cond_yes rfl c3 (AW.skip (AW.seq (AW.block (AW.seq (AW.region ?_)))))
   obtain ⟨v4, ev4, h⟩ := bnd h
   obtain ⟨pv4, qv4, gv4⟩ := rd_some ev4
   refine s_indexImm (ps := [P.sl v4.length (v4.flatMap e_u8)]) F.u_23 F.sz_22 rfl rfl pv4 qv4 (flat_at (e_sl_len _) gv4 (e_sl_eq _ v4)) ?_
   refine s_load1 (c' := (C.p false (.sl v4.length (v4.flatMap e_u8)))) F.ag_22 rfl rfl ?_
   refine s_assign (d := (D.one (C.p false (.sl v4.length (v4.flatMap e_u8))))) rfl (AWops.nil (AW.seq (AW.region ?_)))
   refine s_move (d := (si x1)) rfl ?_
   refine s_move (d := (D.one (C.p false (.sl v4.length (v4.flatMap e_u8))))) rfl ?_
   refine s_len (n := v4.length) F.u_22 rfl (.inr ⟨(fun _ _ h => by cases h), ⟨_, rfl⟩⟩) ?_
   refine s_binI (v := (.int .i64 (IntKind.i64.wrap (x1 + (v4.length : Int))))) rfl rfl rfl ?_
   refine s_assign (d := (si (IntKind.i64.wrap (x1 + (v4.length : Int))))) rfl (AWops.nil (AW.seq (AW.region ?_)))
   refine s_move (d := (si (IntKind.i64.wrap (x1 + (v4.length : Int))))) rfl ?_
   refine s_binI (v := (.bool (decide ((IntKind.i64.wrap (x1 + (v4.length : Int))) < 0)))) rfl rfl rfl (AWops.nil ?_)
   rcases itH h with ⟨c5, h⟩ | ⟨c5, h⟩
   ·refine AW.cond_yes rfl c5 (AW.region ?_)
    cases h
   ·refine AW.cond_no rfl c5 (AW.skip (AW.region ?_))
    refine s_binI (v := (.int .i64 (IntKind.i64.wrap (x2 + 1)))) rfl rfl rfl ?_
    refine s_move (d := (si (IntKind.i64.wrap (x2 + 1)))) rfl (AWops.nil ?_)
    exact ⟨_, ⟨36, (upd 36 (upd 36 (upd 36 (upd 36 (upd 36 topF 0 (D.one (C.p false (.sl a0.length (a0.flatMap (e_sl e_u8)))))) 3 (si (IntKind.i64.wrap (x1 + (v4.length : Int))))) 9 (D.one (C.p false (.sl a0.length (a0.flatMap (e_sl e_u8)))))) 10 (si (a0.length : Int))) 11 (si (IntKind.i64.wrap (x2 + 1)))), []⟩, by omega, (wg 0 [] [] hx (le_upd (le_upd (le_upd (le_upd (le_upd (le_top _) (.t (.one .same))) (.t (.one .sc))) (.t (.one .same))) (.t (.one .sc))) (.t (.one .sc))) an), by omega, IntKind.i64.wrap (x1 + (v4.length : Int)), IntKind.i64.wrap (x2 + 1), h, rfl⟩
  ·refine AW.cond_no rfl c3 (AW.exit (AW.seq (AW.region ?_)))
   refine s_move (d := (si x1)) rfl ?_
   obtain ⟨r6, er6, h⟩ := bnd h
   refine s_call2 (ρ := []) (br := false) (H2 := [(ow_ e_u8 r6)]) (d := (D.one (C.own 0 0 r6.length 1))) F.ca_54 rfl rfl (ac (.one .sc) (ac (.one .sc) an)) an (by decide) rfl (slices_Grow_byte_byte_nil0.meets _ x1 r6 er6) (.inl rfl) (by first | rfl | (simp only [mS]; done) | (simp only [mS]; rfl)) rfl ?_
   refine s_assign (d := (D.one (C.own 0 0 r6.length 1))) rfl (AWops.nil (AW.seq (AW.seq (AW.region ?_))))
   refine s_move (d := (D.one (C.p false (.sl a0.length (a0.flatMap (e_sl e_u8)))))) rfl ?_
   refine s_len (n := a0.length) F.u_23 rfl (.inr ⟨(fun _ _ h => by cases h), ⟨_, rfl⟩⟩) ?_
   refine s_move (d := (si 0)) rfl (AWops.nil (AW.block ?_))
   refine AW.loopw (st0 := ⟨36, (upd 36 (upd 36 (upd 36 (upd 36 topF 6 (D.one (C.own 0 0 r6.length 1))) 25 (D.one (C.p false (.sl a0.length (a0.flatMap (e_sl e_u8)))))) 26 (si (a0.length : Int))) 27 (si 0)), [(ow_ e_u8 r6)]⟩) (fun kv st => kv ≤ ql0 ∧ ∃ (x7 : List Int) (x8 : Int), slices_Concat_byte_byte_34.l1 kv x7 x8 a0 = some r ∧ st = ⟨36, (upd 36 (upd 36 (upd 36 (upd 36 topF 6 (D.one (C.own 0 0 x7.length 1))) 25 (D.one (C.p false (.sl a0.length (a0.flatMap (e_sl e_u8)))))) 26 (si (a0.length : Int))) 27 (si x8)), [(ow_ e_u8 x7)]⟩) (k := ql0) (wg 0 [0] [] hx (le_upd (le_upd (le_upd (le_upd (le_top _) (.t (.one (.own rfl)))) (.t (.one .same))) (.t (.one .sc))) (.t (.one .sc))) (ac (.cells (fun _ => rfl) (all2_row _)) an)) ⟨Nat.le_refl _, r6, 0, h, rfl⟩ ?_
   rintro ql1 st ⟨hkl1, x7, x8, h, rfl⟩
   cases ql1 with
   | zero => exact absurd h (by simp [slices_Concat_byte_byte_34.l1])
   | succ ql1 =>
    replace h := (slices_Concat_byte_byte_34.l1.eq_2 _ _ _ _).symm.trans h
    refine AW.seq (AW.region ?_)
    refine s_binI (v := (.bool (decide (x8 < (a0.length : Int))))) rfl rfl rfl (AWops.nil (AW.seq ?_))
    rcases itH h with ⟨c9, h⟩ | ⟨c9, h⟩
    ·refine AW.cond_yes rfl c9 (AW.skip (AW.seq (AW.block (AW.seq (AW.region ?_)))))
     obtain ⟨v10, ev10, h⟩ := bnd h
     obtain ⟨pv10, qv10, gv10⟩ := rd_some ev10
     refine s_indexImm (ps := [P.sl v10.length (v10.flatMap e_u8)]) F.u_23 F.sz_22 rfl rfl pv10 qv10 (flat_at (e_sl_len _) gv10 (e_sl_eq _ v10)) ?_
     refine s_load1 (c' := (C.p false (.sl v10.length (v10.flatMap e_u8)))) F.ag_22 rfl rfl ?_
     refine s_assign (d := (D.one (C.p false (.sl v10.length (v10.flatMap e_u8))))) rfl (AWops.nil (AW.region ?_))
     refine s_move (d := (D.one (C.own 0 0 x7.length 1))) rfl ?_
     refine s_move (d := (D.one (C.p false (.sl v10.length (v10.flatMap e_u8))))) rfl ?_
     obtain ⟨c11, h⟩ := gdH h
     have dc11 := of_decide_eq_true c11
     refine t_append (xs := x7) (ys := v10) (zs := x7 ++ v10) (H' := [none, (some (AObj.cells true (rowC e_u8 (x7 ++ v10))))]) F.u_22 F.in_5 rfl e_u8_len (.own rfl rfl) .imm F.u_22 (by omega) (by omega) rfl rfl ?_
     refine s_assign (d := (D.one (C.own 1 0 ((x7 ++ v10).length) 1))) rfl (AWops.nil (AW.region ?_))
     refine s_binI (v := (.int .i64 (IntKind.i64.wrap (x8 + 1)))) rfl rfl rfl ?_
     refine s_move (d := (si (IntKind.i64.wrap (x8 + 1)))) rfl (AWops.nil ?_)
     exact ⟨_, ⟨36, (upd 36 (upd 36 (upd 36 (upd 36 topF 6 (D.one (C.own 0 0 (x7 ++ v10).length 1))) 25 (D.one (C.p false (.sl a0.length (a0.flatMap (e_sl e_u8)))))) 26 (si (a0.length : Int))) 27 (si (IntKind.i64.wrap (x8 + 1)))), [(some (AObj.cells true (rowC e_u8 (x7 ++ v10))))]⟩, by omega, (wg 0 [1] [] hx (le_upd (le_upd (le_upd (le_upd (le_top _) (.t (.one (.own rfl)))) (.t (.one .same))) (.t (.one .sc))) (.t (.one .sc))) (ac (.cells (fun _ => rfl) (all2_row _)) an)), by omega, x7 ++ v10, IntKind.i64.wrap (x8 + 1), h, rfl⟩
    ·refine AW.cond_no rfl c9 (AW.exit (AW.seq (AW.region ?_)))
     refine s_move (d := (D.one (C.own 0 0 x7.length 1))) rfl ?_
     refine s_assign (d := (D.one (C.own 0 0 x7.length 1))) rfl (AWops.nil (AW.ret ?_))
     obtain rfl := Option.some.inj h
     exact ⟨_, rfl, (wg 0 [0] [] rfl (le_upd (le_top _) (.t (.one (.own rfl)))) (ac (.cells (fun _ => rfl) (all2_row _)) an))⟩
def vdisk_Disk_Append_9x.f (k : Nat) (p0 : vdisk_Disk) (a1 : ByteArray) (a2 : List Int) : Option (Int × vdisk_Disk) := (vdisk_named.f k a1).bind fun r1 => (vdisk_Disk_change.f k p0 r1 a1 true (a2.length : Int)).bind fun r2 => if (r2 == 0) = true then ((slices_Concat_byte_byte_34.f k ([(lk_vdisk_file a1 p0.files).b, a2] : List (List Int))).bind fun r4 => (vdisk_Disk_set.f k p0 a1 (⟨r4, (lk_vdisk_file a1 p0.files).sure⟩ : vdisk_file)).bind fun r5 => some (r2, r5)) else (some (r2, p0))
theorem vdisk_Disk_Append_9x.meets (k : Nat) (p0 : vdisk_Disk) (a1 : ByteArray) (a2 : List Int) (r : Int × vdisk_Disk) (h : vdisk_Disk_Append_9x.f k p0 a1 a2 = some r) : Meets Try.prog 9 [(rf 0 0), (st_ a1), (D.one (C.p false (.sl a2.length (a2.flatMap e_u8))))] [(o_vdisk_Disk_03 false (C.mp 1) (C.p true (.v (.pointer none))) p0), (om_ e_vdisk_file p0.files)] (si r.1) [(o_vdisk_Disk_03 false (C.mp 1) (C.p true (.v (.pointer none))) r.2), (om_ e_vdisk_file r.2.files)] := by
 unfold vdisk_Disk_Append_9x.f at h
 refine Meets.of_body (n := 36) Try.func9 rfl rfl (nl rfl) fun x hx => ?_
 replace hx : x.k = 2 := hx
 show AW _ x _ _ ⟨36, fr0 [(rf 0 0), (st_ a1), (D.one (C.p false (.sl a2.length (a2.flatMap e_u8))))], [(o_vdisk_Disk_03 false (C.mp 1) (C.p true (.v (.pointer none))) p0), (om_ e_vdisk_file p0.files)]⟩
 refine AW.seq (AW.region ?_)
 refine s_assign (d := (si 0)) rfl (AWops.nil (AW.seq (AW.region ?_)))
 refine s_move (d := (rf 0 0)) rfl ?_
 refine s_move (d := (st_ a1)) rfl ?_
 obtain ⟨r1, er1, h⟩ := bnd h
 refine s_call2 (ρ := []) (br := false) (H2 := [(o_vdisk_Disk_03 false (C.mp 1) (C.p true (.v (.pointer none))) p0), (om_ e_vdisk_file p0.files)]) (d := (sb r1)) F.ca_32 rfl rfl (ac (.one .sc) an) an (by decide) rfl (vdisk_named.meets _ a1 r1 er1) (.inl rfl) rfl rfl ?_
 refine s_move (d := (st_ a1)) rfl ?_
 refine s_move (d := (D.one (C.p false (.sl a2.length (a2.flatMap e_u8))))) rfl ?_
 refine s_len (n := a2.length) F.u_22 rfl (.inr ⟨(fun _ _ h => by cases h), ⟨_, rfl⟩⟩) ?_
 obtain ⟨r2, er2, h⟩ := bnd h
 refine s_call2 (ρ := [0, 1]) (br := false) (H2 := [(o_vdisk_Disk_03 false (C.mp 1) (C.p true (.v (.pointer none))) p0), (om_ e_vdisk_file p0.files)]) (d := (si r2)) F.ca_31 rfl rfl (ac (.one (.ref rfl)) (ac (.one .sc) (ac (.one .sc) (ac (.one .sc) (ac (.one .sc) an))))) (ac (.cells (ac (.mp rfl) (ac .sc (ac .sc (ac .sc (ac .sc an)))))) (ac .map an)) (by decide) rfl (vdisk_Disk_change.meets _ p0 r1 a1 true (a2.length : Int) r2 er2) (.inl rfl) rfl rfl ?_
 refine s_assign (d := (si r2)) rfl (AWops.nil (AW.seq (AW.seq (AW.region ?_))))
 refine s_move (d := (si r2)) rfl ?_
 refine s_binI (v := (.bool (r2 == 0))) rfl rfl rfl (AWops.nil ?_)
 rcases itH h with ⟨c3, h⟩ | ⟨c3, h⟩
 ·refine AW.cond_yes rfl c3 (AW.seq (AW.region ?_))
  refine s_move (d := (rf 0 0)) rfl ?_
  refine s_nilCheck (d := (rf 0 0)) rfl (.inl ⟨_, _, rfl⟩) ?_
  refine s_fieldRef F.fo_50_0 (by decide) rfl ?_
  refine s_load1 (c' := (C.mp 1)) F.ag_47 rfl rfl ?_
  refine s_move (d := (st_ a1)) rfl ?_
  refine t_lookup (b := true) F.u_47 F.u_9 F.z_65 (z := ((⟨([] : List Int), 0⟩ : vdisk_file) : vdisk_file)) (zs := [(.slice none 0 0), (.int .i64 0)]) rfl (fun h => by cases h) (ac ZRel.n (ac (ZRel.v _ rfl) an)) rfl rfl rfl rfl ?_
  refine s_alloc (cs := [(C.p true (.v (.slice none 0 0))), (ci 0)]) F.z_65 rfl rfl ?_
  refine s_store (cs' := (c_vdisk_file (lk_vdisk_file a1 p0.files))) rfl rfl rfl (List.cons_ne_nil _ _) rfl F.sz_65 (nl rfl) rfl (AWops.nil ?_)
  refine AW.weak (st' := ⟨36, (upd 36 (upd 36 (upd 36 (upd 36 (upd 36 topF 0 (rf 0 0)) 1 (st_ a1)) 2 (D.one (C.p false (.sl a2.length (a2.flatMap e_u8))))) 7 (si r2)) 8 (rf 2 0)), [(o_vdisk_Disk_03 false (C.mp 1) (C.p true (.v (.pointer none))) p0), (om_ e_vdisk_file p0.files), (some (AObj.cells true (c_vdisk_file (lk_vdisk_file a1 p0.files))))]⟩) (wg 2 [0, 1, 2] [] hx (le_upd (le_upd (le_upd (le_upd (le_upd (le_top _) (.t (.one (.ref rfl)))) (.t (.one .sc))) (.t (.one .same))) (.t (.one .sc))) (.t (.one (.ref rfl)))) (ac (.cells id (ac (.mp rfl) (ac .sc (ac .sc (ac .sc (ac .sc an)))))) (ac .map (ac (.cells (fun _ => rfl) (ac .same (ac .sc an))) an)))) ?_
  obtain ⟨r4, er4, h⟩ := bnd h
  obtain ⟨r5, er5, h⟩ := bnd h
  refine AW.draw (n := 36) (L := 6) [(ft 0 24 (rf 0 0) [(0, (rf 0 0))]), (ft 1 25 (st_ a1) [(1, (st_ a1))]), (ft 2 26 (rf 2 0) [(8, (rf 2 0))]), (3, ⟨some 27, (D.one (C.p false (.sl ((lk_vdisk_file a1 p0.files).b).length (((lk_vdisk_file a1 p0.files).b).flatMap e_u8)))), [(26, (rf 2 0))], [(2, (some (AObj.cells true (c_vdisk_file (lk_vdisk_file a1 p0.files)))))], [], none⟩), (ft 4 28 (D.one (C.p false (.sl a2.length (a2.flatMap e_u8)))) [(2, (D.one (C.p false (.sl a2.length (a2.flatMap e_u8)))))]), (5, ⟨some 29, (D.one (C.own 3 0 (([(lk_vdisk_file a1 p0.files).b, a2] : List (List Int)).length) 1)), [(27, (D.one (C.p false (.sl ((lk_vdisk_file a1 p0.files).b).length (((lk_vdisk_file a1 p0.files).b).flatMap e_u8))))), (28, (D.one (C.p false (.sl a2.length (a2.flatMap e_u8)))))], [], [(3, (some (AObj.cells true (rowC (e_sl e_u8) ([(lk_vdisk_file a1 p0.files).b, a2] : List (List Int))))))], some 3⟩), (6, ⟨some 30, (D.one (C.p false (.sl r4.length (r4.flatMap e_u8)))), [(29, (D.one (C.own 3 0 (([(lk_vdisk_file a1 p0.files).b, a2] : List (List Int)).length) 1)))], [(3, (some (AObj.cells true (rowC (e_sl e_u8) ([(lk_vdisk_file a1 p0.files).b, a2] : List (List Int))))))], [], some 4⟩), (ft 7 31 (rf 2 1) [(8, (rf 2 0))]), (8, ⟨some 32, (si ((lk_vdisk_file a1 p0.files).sure)), [(31, (rf 2 1))], [(2, (some (AObj.cells true (c_vdisk_file (lk_vdisk_file a1 p0.files)))))], [], none⟩), (ft 9 33 (D.agg [(C.p false (.sl r4.length (r4.flatMap e_u8))), (ci ((lk_vdisk_file a1 p0.files).sure))]) [(30, (D.one (C.p false (.sl r4.length (r4.flatMap e_u8))))), (32, (si ((lk_vdisk_file a1 p0.files).sure)))]), (10, ⟨some 34, (D.tup []), [(24, (rf 0 0)), (25, (st_ a1)), (33, (D.agg [(C.p false (.sl r4.length (r4.flatMap e_u8))), (ci ((lk_vdisk_file a1 p0.files).sure))]))], [(0, (o_vdisk_Disk_03 false (C.mp 1) (C.p true (.v (.pointer none))) p0)), (1, (om_ e_vdisk_file p0.files))], [(0, (o_vdisk_Disk_03 false (C.mp 1) (C.p true (.v (.pointer none))) r5)), (1, (om_ e_vdisk_file r5.files))], none⟩)] [[], [], [], [2], [], [2, 3, 4], [2, 3, 4, 5], [], [7], [2, 3, 4, 5, 6, 7, 8], (.range 10)] (nl rfl) [0, 0, 0, 1, 0, 2, 3, 0, 1, 4, 5] rfl (TK := [(5, 3), (6, 4)]) rfl (AllK.cons' ⟨(tk_upd (tk_upd (tk_upd (tk_upd (tk_upd tk_top rfl) rfl) rfl) rfl) rfl), (tC rfl (tC rfl (tC rfl AllT.nil'))), (fC (.inr rfl) (fC (.inr rfl) (fC (.inr rfl) (fC (.inr rfl) (fC (.inr rfl) (fC (.inl rfl) (fC (.inl rfl) (fC (.inr rfl) (fC (.inr rfl) (fC (.inl rfl) (fC (.inl rfl) AllF.nil')))))))))))⟩ (AllK.cons' ⟨(tk_upd (tk_upd (tk_upd (tk_upd (tk_upd tk_top rfl) rfl) rfl) rfl) rfl), (tC rfl (tC rfl (tC rfl AllT.nil'))), (by repeat (first | refine fC (.inl rfl) ?_ | refine fC (.inr rfl) ?_ | refine fC (.inr (by unfold tkFoot; simp only [List.all_cons, List.all_nil, tkO_row, Bool.and_true, Bool.true_and]; rfl)) ?_ | trivial))⟩ AllK.nil')) (by repeat (first | refine fC ⟨?_, ?_⟩ ?_ | refine sC rfl ?_ | refine hC rfl ?_ | trivial)) ?_ ?_
  ·refine (pC ?_ (pC ?_ (pC ?_ (pC ?_ (pC ?_ (pC ?_ (pC ?_ (pC ?_ (pC ?_ (pC ?_ (pC ?_ AllStep.nil')))))))))))
   ·intro K rest fr hv htk k
    show AWops _ x _ _ K ⟨36, (upd 36 fr 0 (rf 0 0)), _⟩
    refine s_move (d := (rf 0 0)) rfl k
   ·intro K rest fr hv htk k
    show AWops _ x _ _ K ⟨36, (upd 36 fr 1 (st_ a1)), _⟩
    refine s_move (d := (st_ a1)) rfl k
   ·intro K rest fr hv htk k
    show AWops _ x _ _ K ⟨36, (upd 36 fr 8 (rf 2 0)), [(hv 0), (hv 1), (hv 2), (hv 3), (hv 4), (hv 5)]⟩
    refine s_fieldRef F.fo_65_0 (by decide) rfl k
   ·intro K rest fr hv htk k
    show AWops _ x _ _ K ⟨36, (upd 36 fr 26 (rf 2 0)), [(hv 0), (hv 1), (some (AObj.cells true (c_vdisk_file (lk_vdisk_file a1 p0.files)))), (hv 3), (hv 4), (hv 5)]⟩
    refine s_load1 (c' := (C.p false (.sl ((lk_vdisk_file a1 p0.files).b).length (((lk_vdisk_file a1 p0.files).b).flatMap e_u8)))) F.ag_22 rfl rfl k
   ·intro K rest fr hv htk k
    show AWops _ x _ _ K ⟨36, (upd 36 fr 2 (D.one (C.p false (.sl a2.length (a2.flatMap e_u8))))), _⟩
    refine s_move (d := (D.one (C.p false (.sl a2.length (a2.flatMap e_u8))))) rfl k
   ·intro K rest fr hv htk k
    show AWops _ x _ _ K ⟨36, (upd 36 (upd 36 fr 28 (D.one (C.p false (.sl a2.length (a2.flatMap e_u8))))) 27 (D.one (C.p false (.sl ((lk_vdisk_file a1 p0.files).b).length (((lk_vdisk_file a1 p0.files).b).flatMap e_u8))))), [(hv 0), (hv 1), (hv 2), (hv 3), (hv 4), (hv 5)]⟩
    refine s_buildSlice (n := 2) (ps := [(0, (D.one (C.p false (.sl ((lk_vdisk_file a1 p0.files).b).length (((lk_vdisk_file a1 p0.files).b).flatMap e_u8))))), (1, (D.one (C.p false (.sl a2.length (a2.flatMap e_u8)))))]) (cs := rowC (e_sl e_u8) ([(lk_vdisk_file a1 p0.files).b, a2] : List (List Int))) F.u_23 F.sz_22 F.z_22 rfl rfl (by decide) (by decide) rfl rfl ?_
    refine AWops.weak (st' := ⟨36, (upd 36 (upd 36 (upd 36 fr 28 (D.one (C.p false (.sl a2.length (a2.flatMap e_u8))))) 27 (D.one (C.p false (.sl ((lk_vdisk_file a1 p0.files).b).length (((lk_vdisk_file a1 p0.files).b).flatMap e_u8))))) 29 (D.one (C.own 3 0 (([(lk_vdisk_file a1 p0.files).b, a2] : List (List Int)).length) 1))), [(hv 0), (hv 1), (hv 2), (some (AObj.cells true (rowC (e_sl e_u8) ([(lk_vdisk_file a1 p0.files).b, a2] : List (List Int))))), (hv 4), (hv 5)]⟩) (wg 2 [0, 1, 2, 6, 4, 5] [] hx (le_upd2 (le_ok (p := 3) (L := 6) rfl (htk 3 rfl).1) (.t (.one (.own rfl)))) (ac (oq 3 6 (htk 3 rfl) 0) (ac (oq 3 6 (htk 3 rfl) 1) (ac (oq 3 6 (htk 3 rfl) 2) (ac (.cells (fun _ => rfl) (all2_row _)) (ac (oq 3 6 (htk 3 rfl) 4) (ac (oq 3 6 (htk 3 rfl) 5) an))))))) k
   ·intro K rest fr hv htk k
    show AWops _ x _ _ K ⟨36, (upd 36 fr 29 (D.one (C.own 3 0 (([(lk_vdisk_file a1 p0.files).b, a2] : List (List Int)).length) 1))), [(hv 0), (hv 1), (hv 2), (some (AObj.cells true (rowC (e_sl e_u8) ([(lk_vdisk_file a1 p0.files).b, a2] : List (List Int))))), (hv 4), (hv 5)]⟩
    refine s_call2 (ρ := []) (br := true) (H2 := [(hv 0), (hv 1), (hv 2), (some (AObj.cells true (rowC (e_sl e_u8) ([(lk_vdisk_file a1 p0.files).b, a2] : List (List Int))))), (hv 4), (hv 5), (ow_ e_u8 r4)]) (d := (D.one (C.own 6 0 r4.length 1))) F.ca_34 rfl rfl (ac (.one (LendC.bor (e_sl_len _) rfl rfl rfl)) an) an (by decide) rfl (slices_Concat_byte_byte_34.meets _ ([(lk_vdisk_file a1 p0.files).b, a2] : List (List Int)) r4 er4) (.inr ⟨rfl, by simp [frH, frC, fr_row e_u8_fr]⟩) (by first | rfl | (simp only [mS]; done) | (simp only [mS]; rfl)) rfl ?_
    refine AWops.weak (st' := ⟨36, (upd 36 (upd 36 fr 29 (D.one (C.own 3 0 (([(lk_vdisk_file a1 p0.files).b, a2] : List (List Int)).length) 1))) 30 (D.one (C.p false (.sl r4.length (r4.flatMap e_u8))))), [(hv 0), (hv 1), (hv 2), (some (AObj.cells true (rowC (e_sl e_u8) ([(lk_vdisk_file a1 p0.files).b, a2] : List (List Int))))), (hv 4), (hv 5)]⟩) (wg 2 [0, 1, 2, 3, 4, 5] [6] hx (le_upd2 (le_ok (p := 4) (L := 6) rfl (htk 4 rfl).1) (.t (.one (CLe.frz e_u8_len rfl rfl rfl)))) (ac (oq 4 6 (htk 4 rfl) 0) (ac (oq 4 6 (htk 4 rfl) 1) (ac (oq 4 6 (htk 4 rfl) 2) (ac (.cells (fun _ => rfl) (all2_row _)) (ac (oq 4 6 (htk 4 rfl) 4) (ac (oq 4 6 (htk 4 rfl) 5) an))))))) k
   ·intro K rest fr hv htk k
    show AWops _ x _ _ K ⟨36, (upd 36 fr 8 (rf 2 0)), [(hv 0), (hv 1), (hv 2), (hv 3), (hv 4), (hv 5)]⟩
    refine s_fieldRef F.fo_65_1 (by decide) rfl k
   ·intro K rest fr hv htk k
    show AWops _ x _ _ K ⟨36, (upd 36 fr 31 (rf 2 1)), [(hv 0), (hv 1), (some (AObj.cells true (c_vdisk_file (lk_vdisk_file a1 p0.files)))), (hv 3), (hv 4), (hv 5)]⟩
    refine s_load1 (c' := (ci ((lk_vdisk_file a1 p0.files).sure))) F.ag_3 rfl rfl k
   ·intro K rest fr hv htk k
    show AWops _ x _ _ K ⟨36, (upd 36 (upd 36 fr 32 (si ((lk_vdisk_file a1 p0.files).sure))) 30 (D.one (C.p false (.sl r4.length (r4.flatMap e_u8))))), [(hv 0), (hv 1), (hv 2), (hv 3), (hv 4), (hv 5)]⟩
    refine s_build (ps := [(0, (D.one (C.p false (.sl r4.length (r4.flatMap e_u8))))), (1, (si ((lk_vdisk_file a1 p0.files).sure)))]) (cs := [(C.p false (.sl r4.length (r4.flatMap e_u8))), (ci ((lk_vdisk_file a1 p0.files).sure))]) F.z_65 rfl F.so_65 rfl rfl k
   ·intro K rest fr hv htk k
    show AWops _ x _ _ K ⟨36, (upd 36 (upd 36 (upd 36 fr 33 (D.agg [(C.p false (.sl r4.length (r4.flatMap e_u8))), (ci ((lk_vdisk_file a1 p0.files).sure))])) 25 (st_ a1)) 24 (rf 0 0)), [(o_vdisk_Disk_03 false (C.mp 1) (C.p true (.v (.pointer none))) p0), (om_ e_vdisk_file p0.files), (hv 2), (hv 3), (hv 4), (hv 5)]⟩
    refine s_call2 (ρ := [0, 1]) (br := false) (H2 := [(o_vdisk_Disk_03 false (C.mp 1) (C.p true (.v (.pointer none))) r5), (om_ e_vdisk_file r5.files), (hv 2), (hv 3), (hv 4), (hv 5)]) (d := (D.tup [])) F.ca_33 rfl rfl (ac (.one (.ref rfl)) (ac (.one .sc) (ac (LendT.aggL (ac .imm (ac .sc an))) an))) (ac (.cells (ac (.mp rfl) (ac .sc (ac .sc (ac .sc (ac .sc an)))))) (ac .map an)) (by decide) rfl (vdisk_Disk_set.meets _ p0 a1 (⟨r4, (lk_vdisk_file a1 p0.files).sure⟩ : vdisk_file) r5 er5) (.inl rfl) rfl rfl k
  ·refine AWops.weak (st' := ⟨36, (upd 36 topF 7 (si r2)), [(o_vdisk_Disk_03 false (C.mp 1) (C.p true (.v (.pointer none))) r5), (om_ e_vdisk_file r5.files)]⟩) (wg 2 [0, 1] [] hx (le_upd (le_top _) (.t (.one .sc))) (ac (.cells id (ac (.mp rfl) (ac .sc (ac .sc (ac .sc (ac .sc an)))))) (ac .map an))) (AWops.nil (AW.seq (AW.region ?_)))
   refine s_move (d := (si r2)) rfl ?_
   refine s_assign (d := (si r2)) rfl (AWops.nil (AW.ret ?_))
   obtain rfl := Option.some.inj h
   exact ⟨_, rfl, (wg 2 [0, 1] [] rfl (le_upd (le_top _) (.t (.one .sc))) (ac (.cells id (ac (.mp rfl) (ac .sc (ac .sc (ac .sc (ac .sc an)))))) (ac .map an)))⟩
 ·refine AW.cond_no rfl c3 (AW.skip (AW.seq (AW.region ?_)))
  refine s_move (d := (si r2)) rfl ?_
  refine s_assign (d := (si r2)) rfl (AWops.nil (AW.ret ?_))
  obtain rfl := Option.some.inj h
  exact ⟨_, rfl, (wg 2 [0, 1] [] rfl (le_upd (le_top _) (.t (.one .sc))) (ac (.cells id (ac (.mp rfl) (ac .sc (ac .sc (ac .sc (ac .sc an)))))) (ac .map an)))⟩
def slices_Clone_byte_byte.f (k : Nat) (a0 : List Int) : Option (List Int) := if (decide (([] : List Int).length + a0.length ≤ 140737488355328)) = true then (some a0) else none
theorem slices_Clone_byte_byte.meets (k : Nat) (a0 : List Int) (r : (List Int)) (h : slices_Clone_byte_byte.f k a0 = some r) : Meets Try.prog 36 [(D.one (C.p false (.sl a0.length (a0.flatMap e_u8))))] [] (D.one (C.own 0 0 r.length 1)) [(ow_ e_u8 r)] := by
 unfold slices_Clone_byte_byte.f at h
 refine Meets.of_body (n := 8) Try.func36 rfl rfl (nl rfl) fun x hx => ?_
 replace hx : x.k = 0 := hx
 show AW _ x _ _ ⟨8, fr0 [(D.one (C.p false (.sl a0.length (a0.flatMap e_u8))))], []⟩
 refine AW.seq (AW.region ?_)
 refine s_assign (d := (sc (.slice none 0 0))) rfl (AWops.nil (AW.seq (AW.seq (AW.region ?_))))
 refine s_move (d := (D.one (C.p false (.sl a0.length (a0.flatMap e_u8))))) rfl ?_
 refine s_eqNil (n := _) F.u_22 rfl (fun _ _ h => by cases h) rfl (.inl rfl) (fun b w => ?_)
 cases b with
 | false =>
  refine AWops.nil ?_
  refine AW.cond_no rfl rfl (AW.skip (AW.seq (AW.region ?_)))
  refine s_buildSlice (n := 0) (ps := []) (cs := rowC e_u8 ([] : List Int)) F.u_22 F.sz_5 F.z_5 rfl rfl (by decide) (by decide) rfl rfl ?_
  refine s_move (d := (D.one (C.p false (.sl a0.length (a0.flatMap e_u8))))) rfl ?_
  obtain ⟨c1, h⟩ := gdH h
  have dc1 := of_decide_eq_true c1
  refine t_append (xs := ([] : List Int)) (ys := a0) (zs := a0) (H' := [none, (ow_ e_u8 a0)]) F.u_22 F.in_5 rfl e_u8_len (.own rfl rfl) .imm F.u_22 (by omega) (by omega) rfl rfl ?_
  refine s_assign (d := (D.one (C.own 1 0 a0.length 1))) rfl (AWops.nil (AW.ret ?_))
  obtain rfl := Option.some.inj h
  exact ⟨_, rfl, (wg 0 [1] [] rfl (le_upd (le_top _) (.t (.one (.own rfl)))) (ac (.cells (fun _ => rfl) (all2_row _)) an))⟩
 | true =>
  obtain rfl : a0 = [] := by cases a0 with | nil => rfl | cons _ _ => exact absurd (w (by simp)) (by decide)
  replace h : (some ([] : List Int)) = some r := by simpa [bytesI] using h
  skip
  refine AWops.nil ?_
  refine AW.cond_yes rfl rfl (AW.seq (AW.region ?_))
  refine s_assign (d := (sc (.slice none 0 0))) rfl (AWops.nil (AW.ret ?_))
  obtain rfl := Option.some.inj h
  exact ⟨_, rfl, (Weak.trans (Weak.nil (sz := 1) (i := 0) rfl) (wg 0 [0] [] rfl (le_upd (le_top _) (.t (.one (CLe.ownN rfl (by simp))))) (ac (.cells (fun _ => rfl) an) an)))⟩
def vdisk_Disk_Read.f (k : Nat) (p0 : vdisk_Disk) (a1 : ByteArray) : Option ((List Int) × Int) := (vdisk_Disk_none.f k p0).bind fun r1 => if p0.dead = true then (some (([] : List Int), 70)) else (if ((mget a1 p0.files).isSome) = true then ((slices_Clone_byte_byte.f k ((lk_vdisk_file a1 p0.files).b)).bind fun r4 => some (r4, 0)) else (some (([] : List Int), 33)))
theorem vdisk_Disk_Read.meets (k : Nat) (p0 : vdisk_Disk) (a1 : ByteArray) (r : (List Int) × Int) (h : vdisk_Disk_Read.f k p0 a1 = some r) : Meets Try.prog 12 [(rf 0 0), (st_ a1)] [(o_vdisk_Disk_03 false (C.mp 1) (C.p true (.v (.pointer none))) p0), (om_ e_vdisk_file p0.files)] (D.tup [(D.one (C.p false (.sl r.1.length (r.1.flatMap e_u8)))), (si r.2)]) [(o_vdisk_Disk_03 false (C.mp 1) (C.p true (.v (.pointer none))) p0), (om_ e_vdisk_file p0.files)] := by
 unfold vdisk_Disk_Read.f at h
 refine Meets.of_body (n := 30) Try.func12 rfl rfl (nl rfl) fun x hx => ?_
 replace hx : x.k = 2 := hx
 show AW _ x _ _ ⟨30, fr0 [(rf 0 0), (st_ a1)], [(o_vdisk_Disk_03 false (C.mp 1) (C.p true (.v (.pointer none))) p0), (om_ e_vdisk_file p0.files)]⟩
 refine AW.seq (AW.region ?_)
 refine s_assign (d := (sc (.slice none 0 0))) rfl ?_
 refine s_assign (d := (si 0)) rfl (AWops.nil (AW.seq (AW.block (AW.seq (AW.region ?_)))))
 refine s_move (d := (rf 0 0)) rfl ?_
 obtain ⟨r1, er1, h⟩ := bnd h
 have kr1 := vdisk_Disk_none.const er1
 subst kr1
 refine s_call2 (ρ := [0, 1]) (br := false) (H2 := [(o_vdisk_Disk_03 false (C.mp 1) (C.p true (.v (.pointer none))) p0), (om_ e_vdisk_file p0.files)]) (d := (sb false)) F.ca_35 rfl rfl (ac (.one (.ref rfl)) an) (ac (.cells (ac (.mp rfl) (ac .sc (ac .sc (ac .sc (ac .sc an)))))) (ac .map an)) (by decide) rfl (vdisk_Disk_none.meets _ p0 false er1) (.inl rfl) rfl rfl ?_
 refine s_assign (d := (sb false)) rfl (AWops.nil ?_)
 refine AW.cond_no rfl rfl (AW.seq (AW.region ?_))
 refine s_move (d := (rf 0 0)) rfl ?_
 refine s_nilCheck (d := (rf 0 0)) rfl (.inl ⟨_, _, rfl⟩) ?_
 refine s_fieldRef F.fo_50_4 (by decide) rfl ?_
 refine s_load1 (c' := (cb p0.dead)) F.ag_4 rfl rfl ?_
 refine s_assign (d := (sb p0.dead)) rfl (AWops.nil ?_)
 rcases itH h with ⟨c2, h⟩ | ⟨c2, h⟩
 ·refine AW.cond_yes rfl c2 (AW.seq (AW.region ?_))
  refine s_assign (d := (sc (.slice none 0 0))) rfl ?_
  refine s_assign (d := (si 70)) rfl (AWops.nil (AW.ret ?_))
  obtain rfl := Option.some.inj h
  exact ⟨_, rfl, (wg 2 [0, 1] [] rfl (le_upd (le_top _) (DLe.tup (ac (TLe.one .nil) (ac (TLe.one .sc) an)))) (ac (.cells id (ac (.mp rfl) (ac .sc (ac .sc (ac .sc (ac .sc an)))))) (ac .map an)))⟩
 ·refine AW.cond_no rfl c2 (AW.skip (AW.seq (AW.region ?_)))
  refine s_move (d := (rf 0 0)) rfl ?_
  refine s_nilCheck (d := (rf 0 0)) rfl (.inl ⟨_, _, rfl⟩) ?_
  refine s_fieldRef F.fo_50_0 (by decide) rfl ?_
  refine s_load1 (c' := (C.mp 1)) F.ag_47 rfl rfl ?_
  refine s_move (d := (st_ a1)) rfl ?_
  refine t_lookupOk (b := true) F.u_47 F.u_9 F.z_65 (z := ((⟨([] : List Int), 0⟩ : vdisk_file) : vdisk_file)) (zs := [(.slice none 0 0), (.int .i64 0)]) rfl (fun h => by cases h) (ac ZRel.n (ac (ZRel.v _ rfl) an)) rfl rfl rfl rfl ?_
  refine s_move (d := (D.tup [(D.agg (c_vdisk_file (lk_vdisk_file a1 p0.files))), (sb ((mget a1 p0.files).isSome))])) rfl ?_
  refine s_extract (d := (D.agg (c_vdisk_file (lk_vdisk_file a1 p0.files)))) rfl rfl ?_
  refine s_extract (d := (sb ((mget a1 p0.files).isSome))) rfl rfl ?_
  refine s_alloc (cs := [(C.p true (.v (.slice none 0 0))), (ci 0)]) F.z_65 rfl rfl ?_
  refine s_store (cs' := (c_vdisk_file (lk_vdisk_file a1 p0.files))) rfl rfl rfl (List.cons_ne_nil _ _) rfl F.sz_65 (nl rfl) rfl ?_
  refine s_assign (d := (sb ((mget a1 p0.files).isSome))) rfl (AWops.nil (AW.seq (AW.seq (AW.region ?_))))
  refine s_move (d := (sb ((mget a1 p0.files).isSome))) rfl ?_
  refine s_not rfl (AWops.nil ?_)
  rcases itH h with ⟨c3, h⟩ | ⟨c3, h⟩
  ·refine AW.cond_no rfl (by rw [c3] <;> rfl) (AW.skip (AW.seq (AW.region ?_)))
   refine s_fieldRef F.fo_65_0 (by decide) rfl ?_
   refine s_load1 (c' := (C.p false (.sl ((lk_vdisk_file a1 p0.files).b).length (((lk_vdisk_file a1 p0.files).b).flatMap e_u8)))) F.ag_22 rfl rfl ?_
   obtain ⟨r4, er4, h⟩ := bnd h
   refine s_call2 (ρ := []) (br := false) (H2 := [(o_vdisk_Disk_03 false (C.mp 1) (C.p true (.v (.pointer none))) p0), (om_ e_vdisk_file p0.files), (some (AObj.cells true (c_vdisk_file (lk_vdisk_file a1 p0.files)))), (ow_ e_u8 r4)]) (d := (D.one (C.own 3 0 r4.length 1))) F.ca_36 rfl rfl (ac (.one .imm) an) an (by decide) rfl (slices_Clone_byte_byte.meets _ ((lk_vdisk_file a1 p0.files).b) r4 er4) (.inl rfl) (by first | rfl | (simp only [mS]; done) | (simp only [mS]; rfl)) rfl ?_
   refine s_assign (d := (D.one (C.own 3 0 r4.length 1))) rfl ?_
   refine s_assign (d := (si 0)) rfl (AWops.nil (AW.ret ?_))
   obtain rfl := Option.some.inj h
   exact ⟨_, rfl, (wg 2 [0, 1] [3] rfl (le_upd (le_top _) (DLe.tup (ac (TLe.one (CLe.frz e_u8_len rfl rfl rfl)) (ac (TLe.one .sc) an)))) (ac (.cells id (ac (.mp rfl) (ac .sc (ac .sc (ac .sc (ac .sc an)))))) (ac .map an)))⟩
  ·refine AW.cond_yes rfl (by rw [c3] <;> rfl) (AW.seq (AW.region ?_))
   refine s_assign (d := (sc (.slice none 0 0))) rfl ?_
   refine s_assign (d := (si 33)) rfl (AWops.nil (AW.ret ?_))
   obtain rfl := Option.some.inj h
   exact ⟨_, rfl, (wg 2 [0, 1] [] rfl (le_upd (le_top _) (DLe.tup (ac (TLe.one .nil) (ac (TLe.one .sc) an)))) (ac (.cells id (ac (.mp rfl) (ac .sc (ac .sc (ac .sc (ac .sc an)))))) (ac .map an)))⟩
def dossierlaw03_awake.f (k : Nat) : Option Bool := (vdisk_New.f k 9).bind fun r1 => if (r1.2 != 0) = true then (some false) else ((vdisk_Disk_Append_9x.f k r1.1 (⟨#[97]⟩ : ByteArray) ([97, 98, 99] : List Int)).bind fun r3 => if (r3.1 != 0) = true then (some false) else ((vdisk_Disk_Crash.f k r3.2 ([2] : List Int)).bind fun r5 => if (r5.1 != 0) = true then (some false) else ((vdisk_Disk_Read.f k r5.2 (⟨#[97]⟩ : ByteArray)).bind fun r7 => if (r7.2 == 0) = true then (some ((ofNums r7.1).toList == (⟨#[97, 98]⟩ : ByteArray).toList)) else (some false))))
theorem dossierlaw03_awake.meets (k : Nat) (r : Bool) (h : dossierlaw03_awake.f k = some r) : Meets Try.prog 14 [] [] (sb r) [] := by
 unfold dossierlaw03_awake.f at h
 refine Meets.of_body (n := 35) Try.func14 rfl rfl (nl rfl) fun x hx => ?_
 replace hx : x.k = 0 := hx
 show AW _ x _ _ ⟨35, fr0 [], []⟩
 refine AW.seq (AW.region ?_)
 refine s_assign (d := (sb false)) rfl (AWops.nil (AW.seq (AW.region ?_)))
 obtain ⟨r1, er1, h⟩ := bnd h
 refine s_call2 (ρ := []) (br := false) (H2 := [(o_vdisk_Disk_03 true (C.mp 1) (C.p true (.v (.pointer none))) r1.1), (om_ e_vdisk_file r1.1.files)]) (d := (D.tup [(rf 0 0), (si r1.2)])) F.ca_8 rfl rfl (ac (.one .sc) an) an (by decide) rfl (vdisk_New.meets _ 9 r1 er1) (.inl rfl) rfl rfl ?_
 refine s_move (d := (D.tup [(rf 0 0), (si r1.2)])) rfl ?_
 refine s_extract (d := (rf 0 0)) rfl rfl ?_
 refine s_extract (d := (si r1.2)) rfl rfl ?_
 refine s_assign (d := (rf 0 0)) rfl ?_
 refine s_assign (d := (si r1.2)) rfl (AWops.nil (AW.seq (AW.seq (AW.region ?_))))
 refine s_move (d := (si r1.2)) rfl ?_
 refine s_binI (v := (.bool (r1.2 != 0))) rfl rfl rfl ?_
 refine s_move (d := (sb (r1.2 != 0))) rfl ?_
 rcases itH h with ⟨c2, h⟩ | ⟨c2, h⟩
 ·iterate 5 refine AWops.guard_no rfl (nl rfl) rfl c2 ?_
  refine s_pick_yes (d := (sb true)) rfl c2 rfl ?_
  refine s_move (d := (sb true)) rfl ?_
  iterate 4 refine AWops.guard_no rfl (nl rfl) rfl rfl ?_
  refine s_pick_yes (d := (sb true)) rfl rfl rfl (AWops.nil ?_)
  refine AW.cond_yes rfl rfl (AW.seq (AW.region ?_))
  refine s_assign (d := (sb false)) rfl (AWops.nil (AW.ret ?_))
  obtain rfl := Option.some.inj h
  exact ⟨_, rfl, (wg 0 [] [] rfl (le_upd (le_top _) (.t (.one .sc))) an)⟩
 ·refine AWops.guard_yes rfl (nl rfl) rfl c2 ?_
  refine s_move (d := (rf 0 0)) rfl ?_
  refine AWops.guard_yes rfl (nl rfl) rfl c2 ?_
  refine s_buildSlice (n := 3) (ps := [(0, (sc (.int .u8 97))), (1, (sc (.int .u8 98))), (2, (sc (.int .u8 99)))]) (cs := rowC e_u8 ([97, 98, 99] : List Int)) F.u_22 F.sz_5 F.z_5 rfl rfl (by decide) (by decide) rfl rfl ?_
  refine AWops.guard_yes rfl (nl rfl) rfl c2 ?_
  refine t_convConst (xs := ([97, 98, 99] : List Int)) F.u_22 F.u_5 rfl rfl rfl (by decide) rfl ?_
  refine AWops.guard_yes rfl (nl rfl) rfl c2 ?_
  obtain ⟨r3, er3, h⟩ := bnd h
  refine s_call2 (ρ := [0, 1]) (br := false) (H2 := [(o_vdisk_Disk_03 true (C.mp 1) (C.p true (.v (.pointer none))) r3.2), (om_ e_vdisk_file r3.2.files), none]) (d := (si r3.1)) F.ca_9 rfl rfl (ac (.one (.ref rfl)) (ac (.one .sc) (ac (.one .imm) an))) (ac (.cells (ac (.mp rfl) (ac .sc (ac .sc (ac .sc (ac .sc an)))))) (ac .map an)) (by decide) rfl (vdisk_Disk_Append_9x.meets _ r1.1 (⟨#[97]⟩ : ByteArray) ([97, 98, 99] : List Int) r3 er3) (.inl rfl) rfl rfl ?_
  refine AWops.guard_yes rfl (nl rfl) rfl c2 ?_
  refine s_binI (v := (.bool (r3.1 != 0))) rfl rfl rfl ?_
  refine s_pick_no (d := (sb (r3.1 != 0))) rfl c2 rfl ?_
  refine s_move (d := (sb (r3.1 != 0))) rfl ?_
  rcases itH h with ⟨c4, h⟩ | ⟨c4, h⟩
  ·iterate 4 refine AWops.guard_no rfl (nl rfl) rfl c4 ?_
   refine s_pick_yes (d := (sb true)) rfl c4 rfl (AWops.nil ?_)
   refine AW.cond_yes rfl rfl (AW.seq (AW.region ?_))
   refine s_assign (d := (sb false)) rfl (AWops.nil (AW.ret ?_))
   obtain rfl := Option.some.inj h
   exact ⟨_, rfl, (wg 0 [] [] rfl (le_upd (le_top _) (.t (.one .sc))) an)⟩
  ·refine AWops.guard_yes rfl (nl rfl) rfl c4 ?_
   refine s_move (d := (rf 0 0)) rfl ?_
   refine AWops.guard_yes rfl (nl rfl) rfl c4 ?_
   refine s_buildSlice (n := 1) (ps := [(0, (si 2))]) (cs := rowC e_i64 ([2] : List Int)) F.u_24 F.sz_3 F.z_3 rfl rfl (by decide) (by decide) rfl rfl ?_
   refine AWops.guard_yes rfl (nl rfl) rfl c4 ?_
   obtain ⟨r5, er5, h⟩ := bnd h
   refine AWops.weak (st' := ⟨35, (upd 35 (upd 35 (upd 35 (upd 35 (upd 35 (upd 35 (upd 35 (upd 35 (upd 35 (upd 35 (upd 35 (upd 35 (upd 35 (upd 35 (upd 35 (upd 35 (upd 35 (upd 35 topF 0 (sb false)) 1 (rf 0 0)) 2 (si r1.2)) 4 (D.tup [(rf 0 0), (si r1.2)])) 5 (D.tup [(rf 0 0), (si r1.2)])) 6 (rf 0 0)) 7 (si r1.2)) 8 (si r1.2)) 9 (sb (r1.2 != 0))) 10 (sb (r1.2 != 0))) 11 (rf 0 0)) 13 (D.one (C.p false (.sl ([97, 98, 99] : List Int).length (([97, 98, 99] : List Int).flatMap e_u8))))) 14 (si r3.1)) 15 (sb (r3.1 != 0))) 16 (sb (r3.1 != 0))) 17 (sb (r3.1 != 0))) 18 (rf 0 0)) 19 (D.one (C.p false (.sl ([2] : List Int).length (([2] : List Int).flatMap e_i64))))), [(o_vdisk_Disk_03 true (C.mp 1) (C.p true (.v (.pointer none))) r3.2), (om_ e_vdisk_file r3.2.files)]⟩) (wg 0 [0, 1] [3] hx (le_upd (le_upd (le_upd (le_upd (le_upd (le_upd (le_upd (le_upd (le_upd (le_upd (le_upd (le_upd (le_upd (le_upd (le_upd (le_upd (le_upd (le_upd (le_top _) (.t (.one .sc))) (.t (.one (.ref rfl)))) (.t (.one .sc))) (DLe.tup (ac (TLe.one (.ref rfl)) (ac (TLe.one .sc) an)))) (DLe.tup (ac (TLe.one (.ref rfl)) (ac (TLe.one .sc) an)))) (.t (.one (.ref rfl)))) (.t (.one .sc))) (.t (.one .sc))) (.t (.one .sc))) (.t (.one .sc))) (.t (.one (.ref rfl)))) (.t (.one .same))) (.t (.one .sc))) (.t (.one .sc))) (.t (.one .sc))) (.t (.one .sc))) (.t (.one (.ref rfl)))) (.t (.one (CLe.frz e_i64_len rfl rfl rfl)))) (ac (.cells (fun _ => rfl) (ac (.mp rfl) (ac .sc (ac .sc (ac .sc (ac .sc an)))))) (ac .map an))) ?_
   refine s_call2 (ρ := [0, 1]) (br := false) (H2 := [(o_vdisk_Disk_03 true (C.mp 1) (C.p true (.v (.pointer none))) r5.2), (om_ e_vdisk_file r5.2.files)]) (d := (si r5.1)) F.ca_11 rfl rfl (ac (.one (.ref rfl)) (ac (.one .imm) an)) (ac (.cells (ac (.mp rfl) (ac .sc (ac .sc (ac .sc (ac .sc an)))))) (ac .map an)) (by decide) rfl (vdisk_Disk_Crash.meets _ r3.2 ([2] : List Int) r5 er5) (.inl rfl) rfl rfl ?_
   refine AWops.guard_yes rfl (nl rfl) rfl c4 ?_
   refine s_binI (v := (.bool (r5.1 != 0))) rfl rfl rfl ?_
   refine s_pick_no (d := (sb (r5.1 != 0))) rfl c4 rfl (AWops.nil ?_)
   rcases itH h with ⟨c6, h⟩ | ⟨c6, h⟩
   ·refine AW.cond_yes rfl c6 (AW.seq (AW.region ?_))
    refine s_assign (d := (sb false)) rfl (AWops.nil (AW.ret ?_))
    obtain rfl := Option.some.inj h
    exact ⟨_, rfl, (wg 0 [] [] rfl (le_upd (le_top _) (.t (.one .sc))) an)⟩
   ·refine AW.cond_no rfl c6 (AW.skip (AW.seq (AW.region ?_)))
    refine s_move (d := (rf 0 0)) rfl ?_
    obtain ⟨r7, er7, h⟩ := bnd h
    refine s_call2 (ρ := [0, 1]) (br := false) (H2 := [(o_vdisk_Disk_03 true (C.mp 1) (C.p true (.v (.pointer none))) r5.2), (om_ e_vdisk_file r5.2.files)]) (d := (D.tup [(D.one (C.p false (.sl r7.1.length (r7.1.flatMap e_u8)))), (si r7.2)])) F.ca_12 rfl rfl (ac (.one (.ref rfl)) (ac (.one .sc) an)) (ac (.cells (ac (.mp rfl) (ac .sc (ac .sc (ac .sc (ac .sc an)))))) (ac .map an)) (by decide) rfl (vdisk_Disk_Read.meets _ r5.2 (⟨#[97]⟩ : ByteArray) r7 er7) (.inl rfl) rfl rfl ?_
    refine s_move (d := (D.tup [(D.one (C.p false (.sl r7.1.length (r7.1.flatMap e_u8)))), (si r7.2)])) rfl ?_
    refine s_extract (d := (D.one (C.p false (.sl r7.1.length (r7.1.flatMap e_u8))))) rfl rfl ?_
    refine s_extract (d := (si r7.2)) rfl rfl ?_
    refine s_assign (d := (D.one (C.p false (.sl r7.1.length (r7.1.flatMap e_u8))))) rfl ?_
    refine s_assign (d := (si r7.2)) rfl (AWops.nil (AW.seq (AW.region ?_)))
    refine s_move (d := (si r7.2)) rfl ?_
    refine s_binI (v := (.bool (r7.2 == 0))) rfl rfl rfl ?_
    refine s_move (d := (sb (r7.2 == 0))) rfl ?_
    rcases itH h with ⟨c8, h⟩ | ⟨c8, h⟩
    ·refine AWops.guard_yes rfl (nl rfl) rfl c8 ?_
     refine s_move (d := (D.one (C.p false (.sl r7.1.length (r7.1.flatMap e_u8))))) rfl ?_
     refine AWops.guard_yes rfl (nl rfl) rfl c8 ?_
     refine t_toStr (xs := r7.1) F.u_22 F.u_5 F.u_9 .imm ?_
     refine AWops.guard_yes rfl (nl rfl) rfl c8 ?_
     refine s_binS (v := (.bool ((ofNums r7.1).toList == (⟨#[97, 98]⟩ : ByteArray).toList))) rfl rfl rfl ?_
     refine s_pick_yes (d := (sb ((ofNums r7.1).toList == (⟨#[97, 98]⟩ : ByteArray).toList))) rfl c8 rfl ?_
     refine s_assign (d := (sb ((ofNums r7.1).toList == (⟨#[97, 98]⟩ : ByteArray).toList))) rfl (AWops.nil (AW.ret ?_))
     obtain rfl := Option.some.inj h
     exact ⟨_, rfl, (wg 0 [] [] rfl (le_upd (le_top _) (.t (.one .sc))) an)⟩
    ·iterate 3 refine AWops.guard_no rfl (nl rfl) rfl c8 ?_
     refine s_pick_no (d := (sb false)) rfl c8 rfl ?_
     refine s_assign (d := (sb false)) rfl (AWops.nil (AW.ret ?_))
     obtain rfl := Option.some.inj h
     exact ⟨_, rfl, (wg 0 [] [] rfl (le_upd (le_top _) (.t (.one .sc))) an)⟩
mutual
def dossierlaw03_VdiskRoom.l0 : Nat → Int → Int → Bool → Int → Int → Bool → (List (ByteArray × vdisk_file)) → (List dossierref03_File) → Int → Int → (List dossierplain_Step) → Option Bool
 | 0, _, _, _, _, _, _, _, _, _, _, _ => none
 | k + 1, x4, x5, x6, x7, x8, x9, x10, x11, x12, a0, a1 => if (decide (x12 < (a1.length : Int))) = true then ((rd a1 x12).bind fun v24 => if (decide (x12 < 40)) = true then (if ((IntKind.i64.wrap (Int.tmod (IntKind.u64.wrap v24.Op) 9)) != 8) = true then ((dossierplain_Step_Do_16.f k v24 (⟨x10, x4, x5, (), x6⟩ : vdisk_Disk) (⟨x11, x7, x8, x9⟩ : dossierref03_Disk)).bind fun r27 => optE r27.2.2.2 (if r27.1 = true then ((vdisk_Disk_Used.f k r27.2.1).bind fun r31 => if (decide (r31 > (IntKind.i64.wrap (Int.tmod (IntKind.u64.wrap a0) 200)))) = true then (some false) else (dossierlaw03_VdiskRoom.l0 k r27.2.1.room r27.2.1.used r27.2.1.dead r27.2.2.1.Most r27.2.2.1.Burns r27.2.2.1.Off r27.2.1.files r27.2.2.1.L (IntKind.i64.wrap (x12 + 1)) a0 a1)) else (some false)) (fun y29 => if r27.1 = true then ((vdisk_Disk_Used_17.f k r27.2.1 y29).bind fun r34 => if (decide (r34 > (IntKind.i64.wrap (Int.tmod (IntKind.u64.wrap a0) 200)))) = true then (some false) else (dossierlaw03_VdiskRoom.l1 k r27.2.1.room r27.2.1.used r27.2.1.dead r27.2.2.1.Most r27.2.2.1.Burns r27.2.2.1.Off r27.2.1.files y29 r27.2.2.1.L (IntKind.i64.wrap (x12 + 1)) a0 a1)) else (some false))) else (dossierlaw03_VdiskRoom.l0 k x4 x5 x6 x7 x8 x9 x10 x11 (IntKind.i64.wrap (x12 + 1)) a0 a1)) else (dossierlaw03_VdiskRoom.l0 k x4 x5 x6 x7 x8 x9 x10 x11 (IntKind.i64.wrap (x12 + 1)) a0 a1)) else ((dossierlaw03_awake.f k).bind fun r36 => some r36)
def dossierlaw03_VdiskRoom.l1 : Nat → Int → Int → Bool → Int → Int → Bool → (List (ByteArray × vdisk_file)) → Int → (List dossierref03_File) → Int → Int → (List dossierplain_Step) → Option Bool
 | 0, _, _, _, _, _, _, _, _, _, _, _, _ => none
 | k + 1, x13, x14, x15, x16, x17, x18, x19, x20, x21, x22, a0, a1 => if (decide (x22 < (a1.length : Int))) = true then ((rd a1 x22).bind fun v38 => if (decide (x22 < 40)) = true then (if ((IntKind.i64.wrap (Int.tmod (IntKind.u64.wrap v38.Op) 9)) != 8) = true then ((dossierplain_Step_Do_16xx.f k v38 (⟨x19, x13, x14, (), x15⟩ : vdisk_Disk) x20 (⟨x21, x16, x17, x18⟩ : dossierref03_Disk)).bind fun r41 => optE r41.2.2.2 (if r41.1 = true then ((vdisk_Disk_Used.f k r41.2.1).bind fun r45 => if (decide (r45 > (IntKind.i64.wrap (Int.tmod (IntKind.u64.wrap a0) 200)))) = true then (some false) else (dossierlaw03_VdiskRoom.l0 k r41.2.1.room r41.2.1.used r41.2.1.dead r41.2.2.1.Most r41.2.2.1.Burns r41.2.2.1.Off r41.2.1.files r41.2.2.1.L (IntKind.i64.wrap (x22 + 1)) a0 a1)) else (some false)) (fun y43 => if r41.1 = true then ((vdisk_Disk_Used_17.f k r41.2.1 y43).bind fun r48 => if (decide (r48 > (IntKind.i64.wrap (Int.tmod (IntKind.u64.wrap a0) 200)))) = true then (some false) else (dossierlaw03_VdiskRoom.l1 k r41.2.1.room r41.2.1.used r41.2.1.dead r41.2.2.1.Most r41.2.2.1.Burns r41.2.2.1.Off r41.2.1.files y43 r41.2.2.1.L (IntKind.i64.wrap (x22 + 1)) a0 a1)) else (some false))) else (dossierlaw03_VdiskRoom.l1 k x13 x14 x15 x16 x17 x18 x19 x20 x21 (IntKind.i64.wrap (x22 + 1)) a0 a1)) else (dossierlaw03_VdiskRoom.l1 k x13 x14 x15 x16 x17 x18 x19 x20 x21 (IntKind.i64.wrap (x22 + 1)) a0 a1)) else ((dossierlaw03_awake.f k).bind fun r50 => some r50)
end
def dossierlaw03_VdiskRoom.f (k : Nat) (a0 : Int) (a1 : List dossierplain_Step) : Option Bool := (vdisk_New.f k (IntKind.i64.wrap (Int.tmod (IntKind.u64.wrap a0) 200))).bind fun r1 => (dossierref03_New.f k (IntKind.i64.wrap (Int.tmod (IntKind.u64.wrap a0) 200))).bind fun r2 => if (r1.2 != 0) = true then (some false) else (dossierlaw03_VdiskRoom.l0 k r1.1.room r1.1.used r1.1.dead r2.1.Most r2.1.Burns r2.1.Off r1.1.files r2.1.L 0 a0 a1)
theorem dossierlaw03_VdiskRoom.meets (k : Nat) (a0 : Int) (a1 : List dossierplain_Step) (r : Bool) (h : dossierlaw03_VdiskRoom.f k a0 a1 = some r) : Meets Try.prog 4 [(si a0), (D.one (C.p false (.sl a1.length (a1.flatMap e_dossierplain_Step))))] [] (sb r) [] := by
 unfold dossierlaw03_VdiskRoom.f at h
 refine Meets.of_body (n := 63) Try.func4 rfl rfl (nl rfl) fun x hx => ?_
 replace hx : x.k = 0 := hx
 show AW _ x _ _ ⟨63, fr0 [(si a0), (D.one (C.p false (.sl a1.length (a1.flatMap e_dossierplain_Step))))], []⟩
 refine AW.seq (AW.region ?_)
 refine s_assign (d := (sb false)) rfl (AWops.nil (AW.seq (AW.region ?_)))
 refine s_move (d := (si a0)) rfl ?_
 refine s_convI F.u_3 F.u_38 rfl ?_
 refine s_binI (v := (.int .u64 (Int.tmod (IntKind.u64.wrap a0) 200))) rfl rfl rfl ?_
 refine s_convI F.u_38 F.u_3 rfl ?_
 refine s_assign (d := (si (IntKind.i64.wrap (Int.tmod (IntKind.u64.wrap a0) 200)))) rfl (AWops.nil (AW.seq (AW.region ?_)))
 refine s_move (d := (si (IntKind.i64.wrap (Int.tmod (IntKind.u64.wrap a0) 200)))) rfl ?_
 obtain ⟨r1, er1, h⟩ := bnd h
 refine s_call2 (ρ := []) (br := false) (H2 := [(o_vdisk_Disk_03 true (C.mp 1) (C.p true (.v (.pointer none))) r1.1), (om_ e_vdisk_file r1.1.files)]) (d := (D.tup [(rf 0 0), (si r1.2)])) F.ca_8 rfl rfl (ac (.one .sc) an) an (by decide) rfl (vdisk_New.meets _ (IntKind.i64.wrap (Int.tmod (IntKind.u64.wrap a0) 200)) r1 er1) (.inl rfl) rfl rfl ?_
 refine s_move (d := (D.tup [(rf 0 0), (si r1.2)])) rfl ?_
 refine s_extract (d := (rf 0 0)) rfl rfl ?_
 refine s_extract (d := (si r1.2)) rfl rfl ?_
 refine s_assign (d := (rf 0 0)) rfl ?_
 refine s_assign (d := (si r1.2)) rfl (AWops.nil (AW.seq (AW.region ?_)))
 refine s_move (d := (si (IntKind.i64.wrap (Int.tmod (IntKind.u64.wrap a0) 200)))) rfl ?_
 obtain ⟨r2, er2, h⟩ := bnd h
 refine s_call2 (ρ := []) (br := false) (H2 := [(o_vdisk_Disk_03 true (C.mp 1) (C.p true (.v (.pointer none))) r1.1), (om_ e_vdisk_file r1.1.files), (o_dossierref03_Disk_0 true (C.own 3 0 r2.1.L.length 3) r2.1), (ow_ e_dossierref03_File r2.1.L)]) (d := (D.tup [(rf 2 0), (si r2.2)])) F.ca_15 rfl rfl (ac (.one .sc) an) an (by decide) rfl (dossierref03_New.meets _ (IntKind.i64.wrap (Int.tmod (IntKind.u64.wrap a0) 200)) r2 er2) (.inl rfl) (by first | rfl | (simp only [mS]; done) | (simp only [mS]; rfl)) rfl ?_
 refine s_move (d := (D.tup [(rf 2 0), (si r2.2)])) rfl ?_
 refine s_extract (d := (rf 2 0)) rfl rfl ?_
 refine s_extract (d := (si r2.2)) rfl rfl ?_
 refine s_assign (d := (rf 2 0)) rfl ?_
 refine s_assign (d := (si r2.2)) rfl (AWops.nil (AW.seq (AW.seq (AW.region ?_))))
 refine s_move (d := (si r1.2)) rfl ?_
 refine s_binI (v := (.bool (r1.2 != 0))) rfl rfl rfl ?_
 refine s_move (d := (sb (r1.2 != 0))) rfl ?_
 rcases itH h with ⟨c3, h⟩ | ⟨c3, h⟩
 ·refine AWops.guard_no rfl (nl rfl) rfl c3 ?_
  refine AWops.guard_no rfl (nl rfl) rfl c3 ?_
  refine s_pick_yes (d := (sb true)) rfl c3 rfl (AWops.nil ?_)
  refine AW.cond_yes rfl rfl (AW.seq (AW.region ?_))
  refine s_assign (d := (sb false)) rfl (AWops.nil (AW.ret ?_))
  obtain rfl := Option.some.inj h
  exact ⟨_, rfl, (wg 0 [] [] rfl (le_upd (le_top _) (.t (.one .sc))) an)⟩
 ·refine AWops.guard_yes rfl (nl rfl) rfl c3 ?_
  refine s_move (d := (rf 0 0)) rfl ?_
  refine AWops.guard_yes rfl (nl rfl) rfl c3 ?_
  refine s_ptrNil (b := false) F.u_25 rfl (.inl ⟨⟨_, _, rfl⟩, rfl⟩) (.inl rfl) ?_
  refine s_pick_no (d := (sb false)) rfl c3 rfl (AWops.nil ?_)
  refine AW.cond_no rfl rfl (AW.skip (AW.seq (AW.seq (AW.region ?_))))
  refine s_move (d := (D.one (C.p false (.sl a1.length (a1.flatMap e_dossierplain_Step))))) rfl ?_
  refine s_len (n := a1.length) F.u_37 rfl (.inr ⟨(fun _ _ h => by cases h), ⟨_, rfl⟩⟩) ?_
  refine s_move (d := (si 0)) rfl (AWops.nil (AW.block ?_))
  refine AW.loopw (st0 := ⟨63, (upd 63 (upd 63 (upd 63 (upd 63 (upd 63 (upd 63 topF 0 (si (IntKind.i64.wrap (Int.tmod (IntKind.u64.wrap a0) 200)))) 5 (rf 0 0)) 7 (rf 1 0)) 31 (D.one (C.p false (.sl a1.length (a1.flatMap e_dossierplain_Step))))) 32 (si (a1.length : Int))) 33 (si 0)), [(some (AObj.cells true [(C.mp 2), (ci r1.1.room), (ci r1.1.used), (C.p true (.v (.pointer none))), (cb r1.1.dead)])), (some (AObj.cells true [(C.own 3 0 r2.1.L.length 3), (ci r2.1.Most), (ci r2.1.Burns), (cb r2.1.Off)])), (om_ e_vdisk_file r1.1.files), (or_ e_dossierref03_File r2.1.L)]⟩) (fun kv st => kv ≤ k ∧ ((∃ (x4 : Int) (x5 : Int) (x6 : Bool) (x7 : Int) (x8 : Int) (x9 : Bool) (x10 : List (ByteArray × vdisk_file)) (x11 : List dossierref03_File) (x12 : Int), dossierlaw03_VdiskRoom.l0 kv x4 x5 x6 x7 x8 x9 x10 x11 x12 a0 a1 = some r ∧ st = ⟨63, (upd 63 (upd 63 (upd 63 (upd 63 (upd 63 (upd 63 topF 0 (si (IntKind.i64.wrap (Int.tmod (IntKind.u64.wrap a0) 200)))) 5 (rf 0 0)) 7 (rf 1 0)) 31 (D.one (C.p false (.sl a1.length (a1.flatMap e_dossierplain_Step))))) 32 (si (a1.length : Int))) 33 (si x12)), [(some (AObj.cells true [(C.mp 2), (ci x4), (ci x5), (C.p true (.v (.pointer none))), (cb x6)])), (some (AObj.cells true [(C.own 3 0 x11.length 3), (ci x7), (ci x8), (cb x9)])), (om_ e_vdisk_file x10), (or_ e_dossierref03_File x11)]⟩) ∨ (∃ (x13 : Int) (x14 : Int) (x15 : Bool) (x16 : Int) (x17 : Int) (x18 : Bool) (x19 : List (ByteArray × vdisk_file)) (x20 : Int) (x21 : List dossierref03_File) (x22 : Int), dossierlaw03_VdiskRoom.l1 kv x13 x14 x15 x16 x17 x18 x19 x20 x21 x22 a0 a1 = some r ∧ st = ⟨63, (upd 63 (upd 63 (upd 63 (upd 63 (upd 63 (upd 63 topF 0 (si (IntKind.i64.wrap (Int.tmod (IntKind.u64.wrap a0) 200)))) 5 (rf 0 0)) 7 (rf 1 0)) 31 (D.one (C.p false (.sl a1.length (a1.flatMap e_dossierplain_Step))))) 32 (si (a1.length : Int))) 33 (si x22)), [(some (AObj.cells true [(C.mp 2), (ci x13), (ci x14), (C.ref 3 0), (cb x15)])), (some (AObj.cells true [(C.own 4 0 x21.length 3), (ci x16), (ci x17), (cb x18)])), (om_ e_vdisk_file x19), (some (AObj.cells false [(ci x20)])), (or_ e_dossierref03_File x21)]⟩))) (k := k) (wg 0 [0, 2, 1, 3] [] hx (le_upd (le_upd (le_upd (le_upd (le_upd (le_upd (le_top _) (.t (.one .sc))) (.t (.one (.ref rfl)))) (.t (.one (.ref rfl)))) (.t (.one .same))) (.t (.one .sc))) (.t (.one .sc))) (ac (.cells (fun _ => rfl) (ac (.mp rfl) (ac .sc (ac .sc (ac .sc (ac .sc an)))))) (ac (.cells (fun _ => rfl) (ac (.own rfl) (ac .sc (ac .sc (ac .sc an))))) (ac .map (ac (.cells (fun _ => rfl) (all2_row _)) an))))) ⟨Nat.le_refl _, .inl ⟨r1.1.room, r1.1.used, r1.1.dead, r2.1.Most, r2.1.Burns, r2.1.Off, r1.1.files, r2.1.L, 0, h, rfl⟩⟩ ?_
  rintro ql0 st ⟨hkl0, ⟨x4, x5, x6, x7, x8, x9, x10, x11, x12, h, rfl⟩ | ⟨x13, x14, x15, x16, x17, x18, x19, x20, x21, x22, h, rfl⟩⟩
  ·cases ql0 with
   | zero => exact absurd h (by simp [dossierlaw03_VdiskRoom.l0])
   | succ ql0 =>
    replace h := (dossierlaw03_VdiskRoom.l0.eq_2 _ _ _ _ _ _ _ _ _ _ _ _).symm.trans h
    refine AW.seq (AW.region ?_)
    refine s_binI (v := (.bool (decide (x12 < (a1.length : Int))))) rfl rfl rfl (AWops.nil (AW.seq ?_))
    rcases itH h with ⟨c23, h⟩ | ⟨c23, h⟩
    ·refine AW.cond_yes rfl c23 (AW.skip (AW.seq (AW.block (AW.seq (AW.region ?_)))))
     refine s_move (d := (si x12)) rfl ?_
     obtain ⟨v24, ev24, h⟩ := bnd h
     obtain ⟨pv24, qv24, gv24⟩ := rd_some ev24
     refine s_indexImm (ps := (p_dossierplain_Step v24)) F.u_37 F.sz_43 rfl rfl pv24 qv24 (flat_at e_dossierplain_Step_len gv24 (e_dossierplain_Step_eq v24)) ?_
     refine s_loadN (ds := (c_dossierplain_Step v24)) F.ag_43 F.sz_43 rfl rfl rfl ?_
     refine s_alloc (cs := [(ci 0), (ci 0), (ct (⟨#[]⟩ : ByteArray)), (ct (⟨#[]⟩ : ByteArray)), (C.p true (.v (.slice none 0 0))), (C.p true (.v (.slice none 0 0)))]) F.z_43 rfl rfl ?_
     refine s_assign (d := (si x12)) rfl ?_
     refine s_store (cs' := (c_dossierplain_Step v24)) rfl rfl rfl (List.cons_ne_nil _ _) rfl F.sz_43 (nl rfl) rfl (AWops.nil (AW.seq (AW.region ?_)))
     refine s_move (d := (si x12)) rfl ?_
     refine s_binI (v := (.bool (decide (x12 < 40)))) rfl rfl rfl ?_
     refine s_move (d := (sb (decide (x12 < 40)))) rfl ?_
     rcases itH h with ⟨c25, h⟩ | ⟨c25, h⟩
     ·refine AWops.guard_yes rfl (nl rfl) rfl c25 ?_
      refine s_fieldRef F.fo_43_0 (by decide) rfl ?_
      refine AWops.guard_yes rfl (nl rfl) rfl c25 ?_
      refine s_load1 (c' := (ci v24.Op)) F.ag_3 rfl rfl ?_
      refine AWops.guard_yes rfl (nl rfl) rfl c25 ?_
      refine s_convI F.u_3 F.u_38 rfl ?_
      refine AWops.guard_yes rfl (nl rfl) rfl c25 ?_
      refine s_binI (v := (.int .u64 (Int.tmod (IntKind.u64.wrap v24.Op) 9))) rfl rfl rfl ?_
      refine AWops.guard_yes rfl (nl rfl) rfl c25 ?_
      refine s_convI F.u_38 F.u_3 rfl ?_
      refine AWops.guard_yes rfl (nl rfl) rfl c25 ?_
      refine s_binI (v := (.bool ((IntKind.i64.wrap (Int.tmod (IntKind.u64.wrap v24.Op) 9)) != 8))) rfl rfl rfl ?_
      refine s_pick_yes (d := (sb ((IntKind.i64.wrap (Int.tmod (IntKind.u64.wrap v24.Op) 9)) != 8))) rfl c25 rfl ?_
      refine s_move (d := (sb ((IntKind.i64.wrap (Int.tmod (IntKind.u64.wrap v24.Op) 9)) != 8))) rfl ?_
      rcases itH h with ⟨c26, h⟩ | ⟨c26, h⟩
      ·refine AWops.guard_yes rfl (nl rfl) rfl c26 ?_
       refine s_loadN (ds := (c_dossierplain_Step v24)) F.ag_43 F.sz_43 rfl rfl rfl ?_
       refine AWops.guard_yes rfl (nl rfl) rfl c26 ?_
       refine s_move (d := (rf 0 0)) rfl ?_
       refine AWops.guard_yes rfl (nl rfl) rfl c26 ?_
       refine s_move (d := (rf 1 0)) rfl ?_
       refine AWops.guard_yes rfl (nl rfl) rfl c26 ?_
       obtain ⟨r27, er27, h⟩ := bnd h
       rcases optH h with ⟨c28, h⟩ | ⟨y29, c28, h⟩
       ·refine s_call2 (ρ := [0, 1, 2, 3]) (br := false) (H2 := [(o_vdisk_Disk_03 true (C.mp 2) (C.p true (.v (.pointer none))) r27.2.1), (o_dossierref03_Disk_0 true (C.own 5 0 r27.2.2.1.L.length 3) r27.2.2.1), (om_ e_vdisk_file r27.2.1.files), none, (some (AObj.cells true (c_dossierplain_Step v24))), (or_ e_dossierref03_File r27.2.2.1.L)]) (d := (sb r27.1)) F.ca_16 rfl rfl (ac (LendT.aggL (ac .sc (ac .sc (ac .sc (ac .sc (ac .imm (ac .imm an))))))) (ac (.one (.ref rfl)) (ac (.one (.ref rfl)) an))) (ac (.cells (ac (.mp rfl) (ac .sc (ac .sc (ac .sc (ac .sc an)))))) (ac (.cells (ac (.own rfl) (ac .sc (ac .sc (ac .sc an))))) (ac .map (ac (.cells (lend_row _)) an)))) (by decide) rfl (Meets.eqs (optE_none c28) (optE_none c28) (dossierplain_Step_Do_16.meets _ v24 (⟨x10, x4, x5, (), x6⟩ : vdisk_Disk) (⟨x11, x7, x8, x9⟩ : dossierref03_Disk) r27 er27)) (.inl rfl) (by first | rfl | (simp only [mS]; done) | (simp only [mS]; rfl)) rfl ?_
        refine AWops.guard_yes rfl (nl rfl) rfl c26 ?_
        refine s_not rfl ?_
        refine AWops.guard_yes rfl (nl rfl) rfl c26 ?_
        refine s_move (d := (sb (!r27.1))) rfl ?_
        rcases itH h with ⟨c30, h⟩ | ⟨c30, h⟩
        ·refine AWops.guard_yes rfl (nl rfl) rfl (by rw [c30] <;> rfl) ?_
         refine s_move (d := (rf 0 0)) rfl ?_
         refine AWops.guard_yes rfl (nl rfl) rfl (by rw [c30] <;> rfl) ?_
         obtain ⟨r31, er31, h⟩ := bnd h
         refine s_call2 (ρ := [0, 2]) (br := false) (H2 := [(o_vdisk_Disk_03 true (C.mp 2) (C.p true (.v (.pointer none))) r27.2.1), (o_dossierref03_Disk_0 true (C.own 5 0 r27.2.2.1.L.length 3) r27.2.2.1), (om_ e_vdisk_file r27.2.1.files), none, (some (AObj.cells true (c_dossierplain_Step v24))), (or_ e_dossierref03_File r27.2.2.1.L)]) (d := (si r31)) F.ca_17 rfl rfl (ac (.one (.ref rfl)) an) (ac (.cells (ac (.mp rfl) (ac .sc (ac .sc (ac .sc (ac .sc an)))))) (ac .map an)) (by decide) rfl (vdisk_Disk_Used.meets _ r27.2.1 r31 er31) (.inl rfl) rfl rfl ?_
         refine AWops.guard_yes rfl (nl rfl) rfl (by rw [c30] <;> rfl) ?_
         refine s_move (d := (si (IntKind.i64.wrap (Int.tmod (IntKind.u64.wrap a0) 200)))) rfl ?_
         refine AWops.guard_yes rfl (nl rfl) rfl (by rw [c30] <;> rfl) ?_
         refine s_binI (v := (.bool (decide (r31 > (IntKind.i64.wrap (Int.tmod (IntKind.u64.wrap a0) 200)))))) rfl rfl rfl ?_
         refine AWops.guard_yes rfl (nl rfl) rfl c26 ?_
         refine s_pick_no (d := (sb (decide (r31 > (IntKind.i64.wrap (Int.tmod (IntKind.u64.wrap a0) 200)))))) rfl (by rw [c30] <;> rfl) rfl ?_
         refine s_pick_yes (d := (sb (decide (r31 > (IntKind.i64.wrap (Int.tmod (IntKind.u64.wrap a0) 200)))))) rfl c26 rfl (AWops.nil ?_)
         rcases itH h with ⟨c32, h⟩ | ⟨c32, h⟩
         ·refine AW.cond_yes rfl c32 (AW.seq (AW.region ?_))
          refine s_assign (d := (sb false)) rfl (AWops.nil (AW.ret ?_))
          obtain rfl := Option.some.inj h
          exact ⟨_, rfl, (wg 0 [] [] rfl (le_upd (le_top _) (.t (.one .sc))) an)⟩
         ·refine AW.cond_no rfl c32 (AW.skip (AW.region ?_))
          refine s_binI (v := (.int .i64 (IntKind.i64.wrap (x12 + 1)))) rfl rfl rfl ?_
          refine s_move (d := (si (IntKind.i64.wrap (x12 + 1)))) rfl (AWops.nil ?_)
          exact ⟨_, ⟨63, (upd 63 (upd 63 (upd 63 (upd 63 (upd 63 (upd 63 topF 0 (si (IntKind.i64.wrap (Int.tmod (IntKind.u64.wrap a0) 200)))) 5 (rf 0 0)) 7 (rf 1 0)) 31 (D.one (C.p false (.sl a1.length (a1.flatMap e_dossierplain_Step))))) 32 (si (a1.length : Int))) 33 (si (IntKind.i64.wrap (x12 + 1)))), [(some (AObj.cells true [(C.mp 2), (ci r27.2.1.room), (ci r27.2.1.used), (C.p true (.v (.pointer none))), (cb r27.2.1.dead)])), (some (AObj.cells true [(C.own 3 0 r27.2.2.1.L.length 3), (ci r27.2.2.1.Most), (ci r27.2.2.1.Burns), (cb r27.2.2.1.Off)])), (om_ e_vdisk_file r27.2.1.files), (or_ e_dossierref03_File r27.2.2.1.L)]⟩, by omega, (wg 0 [0, 1, 2, 5] [] hx (le_upd (le_upd (le_upd (le_upd (le_upd (le_upd (le_top _) (.t (.one .sc))) (.t (.one (.ref rfl)))) (.t (.one (.ref rfl)))) (.t (.one .same))) (.t (.one .sc))) (.t (.one .sc))) (ac (.cells (fun _ => rfl) (ac (.mp rfl) (ac .sc (ac .sc (ac .sc (ac .sc an)))))) (ac (.cells (fun _ => rfl) (ac (.own rfl) (ac .sc (ac .sc (ac .sc an))))) (ac .map (ac (.cells id (all2_row _)) an))))), by omega, .inl ⟨r27.2.1.room, r27.2.1.used, r27.2.1.dead, r27.2.2.1.Most, r27.2.2.1.Burns, r27.2.2.1.Off, r27.2.1.files, r27.2.2.1.L, IntKind.i64.wrap (x12 + 1), h, rfl⟩⟩
        ·iterate 4 refine AWops.guard_no rfl (nl rfl) rfl (by rw [c30] <;> rfl) ?_
         refine AWops.guard_yes rfl (nl rfl) rfl c26 ?_
         refine s_pick_yes (d := (sb true)) rfl (by rw [c30] <;> rfl) rfl ?_
         refine s_pick_yes (d := (sb true)) rfl c26 rfl (AWops.nil ?_)
         refine AW.cond_yes rfl rfl (AW.seq (AW.region ?_))
         refine s_assign (d := (sb false)) rfl (AWops.nil (AW.ret ?_))
         obtain rfl := Option.some.inj h
         exact ⟨_, rfl, (wg 0 [] [] rfl (le_upd (le_top _) (.t (.one .sc))) an)⟩
       ·refine s_call2 (ρ := [0, 1, 2, 3]) (br := false) (H2 := [(o_vdisk_Disk_03 true (C.mp 2) (C.ref 5 0) r27.2.1), (o_dossierref03_Disk_0 true (C.own 6 0 r27.2.2.1.L.length 3) r27.2.2.1), (om_ e_vdisk_file r27.2.1.files), none, (some (AObj.cells true (c_dossierplain_Step v24))), (some (AObj.cells false [(ci y29)])), (or_ e_dossierref03_File r27.2.2.1.L)]) (d := (sb r27.1)) F.ca_16 rfl rfl (ac (LendT.aggL (ac .sc (ac .sc (ac .sc (ac .sc (ac .imm (ac .imm an))))))) (ac (.one (.ref rfl)) (ac (.one (.ref rfl)) an))) (ac (.cells (ac (.mp rfl) (ac .sc (ac .sc (ac .sc (ac .sc an)))))) (ac (.cells (ac (.own rfl) (ac .sc (ac .sc (ac .sc an))))) (ac .map (ac (.cells (lend_row _)) an)))) (by decide) rfl (Meets.eqs (optE_some c28) (optE_some c28) (dossierplain_Step_Do_16.meets _ v24 (⟨x10, x4, x5, (), x6⟩ : vdisk_Disk) (⟨x11, x7, x8, x9⟩ : dossierref03_Disk) r27 er27)) (.inl rfl) (by first | rfl | (simp only [mS]; done) | (simp only [mS]; rfl)) rfl ?_
        refine AWops.guard_yes rfl (nl rfl) rfl c26 ?_
        refine s_not rfl ?_
        refine AWops.guard_yes rfl (nl rfl) rfl c26 ?_
        refine s_move (d := (sb (!r27.1))) rfl ?_
        rcases itH h with ⟨c33, h⟩ | ⟨c33, h⟩
        ·refine AWops.guard_yes rfl (nl rfl) rfl (by rw [c33] <;> rfl) ?_
         refine s_move (d := (rf 0 0)) rfl ?_
         refine AWops.guard_yes rfl (nl rfl) rfl (by rw [c33] <;> rfl) ?_
         obtain ⟨r34, er34, h⟩ := bnd h
         refine s_call2 (ρ := [0, 2, 5]) (br := false) (H2 := [(o_vdisk_Disk_03 true (C.mp 2) (C.ref 5 0) r27.2.1), (o_dossierref03_Disk_0 true (C.own 6 0 r27.2.2.1.L.length 3) r27.2.2.1), (om_ e_vdisk_file r27.2.1.files), none, (some (AObj.cells true (c_dossierplain_Step v24))), (some (AObj.cells false [(ci y29)])), (or_ e_dossierref03_File r27.2.2.1.L)]) (d := (si r34)) F.ca_17 rfl rfl (ac (.one (.ref rfl)) an) (ac (.cells (ac (.mp rfl) (ac .sc (ac .sc (ac (.ref rfl) (ac .sc an)))))) (ac .map (ac (.cells (ac .sc an)) an))) (by decide) rfl (vdisk_Disk_Used_17.meets _ r27.2.1 y29 r34 er34) (.inl rfl) rfl rfl ?_
         refine AWops.guard_yes rfl (nl rfl) rfl (by rw [c33] <;> rfl) ?_
         refine s_move (d := (si (IntKind.i64.wrap (Int.tmod (IntKind.u64.wrap a0) 200)))) rfl ?_
         refine AWops.guard_yes rfl (nl rfl) rfl (by rw [c33] <;> rfl) ?_
         refine s_binI (v := (.bool (decide (r34 > (IntKind.i64.wrap (Int.tmod (IntKind.u64.wrap a0) 200)))))) rfl rfl rfl ?_
         refine AWops.guard_yes rfl (nl rfl) rfl c26 ?_
         refine s_pick_no (d := (sb (decide (r34 > (IntKind.i64.wrap (Int.tmod (IntKind.u64.wrap a0) 200)))))) rfl (by rw [c33] <;> rfl) rfl ?_
         refine s_pick_yes (d := (sb (decide (r34 > (IntKind.i64.wrap (Int.tmod (IntKind.u64.wrap a0) 200)))))) rfl c26 rfl (AWops.nil ?_)
         rcases itH h with ⟨c35, h⟩ | ⟨c35, h⟩
         ·refine AW.cond_yes rfl c35 (AW.seq (AW.region ?_))
          refine s_assign (d := (sb false)) rfl (AWops.nil (AW.ret ?_))
          obtain rfl := Option.some.inj h
          exact ⟨_, rfl, (wg 0 [] [] rfl (le_upd (le_top _) (.t (.one .sc))) an)⟩
         ·refine AW.cond_no rfl c35 (AW.skip (AW.region ?_))
          refine s_binI (v := (.int .i64 (IntKind.i64.wrap (x12 + 1)))) rfl rfl rfl ?_
          refine s_move (d := (si (IntKind.i64.wrap (x12 + 1)))) rfl (AWops.nil ?_)
          exact ⟨_, ⟨63, (upd 63 (upd 63 (upd 63 (upd 63 (upd 63 (upd 63 topF 0 (si (IntKind.i64.wrap (Int.tmod (IntKind.u64.wrap a0) 200)))) 5 (rf 0 0)) 7 (rf 1 0)) 31 (D.one (C.p false (.sl a1.length (a1.flatMap e_dossierplain_Step))))) 32 (si (a1.length : Int))) 33 (si (IntKind.i64.wrap (x12 + 1)))), [(some (AObj.cells true [(C.mp 2), (ci r27.2.1.room), (ci r27.2.1.used), (C.ref 3 0), (cb r27.2.1.dead)])), (some (AObj.cells true [(C.own 4 0 r27.2.2.1.L.length 3), (ci r27.2.2.1.Most), (ci r27.2.2.1.Burns), (cb r27.2.2.1.Off)])), (om_ e_vdisk_file r27.2.1.files), (some (AObj.cells false [(ci y29)])), (or_ e_dossierref03_File r27.2.2.1.L)]⟩, by omega, (wg 0 [0, 1, 2, 5, 6] [] hx (le_upd (le_upd (le_upd (le_upd (le_upd (le_upd (le_top _) (.t (.one .sc))) (.t (.one (.ref rfl)))) (.t (.one (.ref rfl)))) (.t (.one .same))) (.t (.one .sc))) (.t (.one .sc))) (ac (.cells (fun _ => rfl) (ac (.mp rfl) (ac .sc (ac .sc (ac (.ref rfl) (ac .sc an)))))) (ac (.cells (fun _ => rfl) (ac (.own rfl) (ac .sc (ac .sc (ac .sc an))))) (ac .map (ac (.cells id (ac .sc an)) (ac (.cells id (all2_row _)) an)))))), by omega, .inr (⟨r27.2.1.room, r27.2.1.used, r27.2.1.dead, r27.2.2.1.Most, r27.2.2.1.Burns, r27.2.2.1.Off, r27.2.1.files, y29, r27.2.2.1.L, IntKind.i64.wrap (x12 + 1), h, rfl⟩)⟩
        ·iterate 4 refine AWops.guard_no rfl (nl rfl) rfl (by rw [c33] <;> rfl) ?_
         refine AWops.guard_yes rfl (nl rfl) rfl c26 ?_
         refine s_pick_yes (d := (sb true)) rfl (by rw [c33] <;> rfl) rfl ?_
         refine s_pick_yes (d := (sb true)) rfl c26 rfl (AWops.nil ?_)
         refine AW.cond_yes rfl rfl (AW.seq (AW.region ?_))
         refine s_assign (d := (sb false)) rfl (AWops.nil (AW.ret ?_))
         obtain rfl := Option.some.inj h
         exact ⟨_, rfl, (wg 0 [] [] rfl (le_upd (le_top _) (.t (.one .sc))) an)⟩
      ·iterate 6 refine AWops.guard_no rfl (nl rfl) rfl c26 ?_
       iterate 4 refine AWops.guard_undef rfl rfl ?_
       refine AWops.guard_no rfl (nl rfl) rfl c26 ?_
       refine s_pick_no (d := (sb false)) rfl c26 rfl (AWops.nil ?_)
       refine AW.cond_no rfl rfl (AW.skip (AW.region ?_))
       refine s_binI (v := (.int .i64 (IntKind.i64.wrap (x12 + 1)))) rfl rfl rfl ?_
       refine s_move (d := (si (IntKind.i64.wrap (x12 + 1)))) rfl (AWops.nil ?_)
       exact ⟨_, ⟨63, (upd 63 (upd 63 (upd 63 (upd 63 (upd 63 (upd 63 topF 0 (si (IntKind.i64.wrap (Int.tmod (IntKind.u64.wrap a0) 200)))) 5 (rf 0 0)) 7 (rf 1 0)) 31 (D.one (C.p false (.sl a1.length (a1.flatMap e_dossierplain_Step))))) 32 (si (a1.length : Int))) 33 (si (IntKind.i64.wrap (x12 + 1)))), [(some (AObj.cells true [(C.mp 2), (ci x4), (ci x5), (C.p true (.v (.pointer none))), (cb x6)])), (some (AObj.cells true [(C.own 3 0 x11.length 3), (ci x7), (ci x8), (cb x9)])), (om_ e_vdisk_file x10), (or_ e_dossierref03_File x11)]⟩, by omega, (wg 0 [0, 1, 2, 3] [] hx (le_upd (le_upd (le_upd (le_upd (le_upd (le_upd (le_top _) (.t (.one .sc))) (.t (.one (.ref rfl)))) (.t (.one (.ref rfl)))) (.t (.one .same))) (.t (.one .sc))) (.t (.one .sc))) (ac (.cells (fun _ => rfl) (ac (.mp rfl) (ac .sc (ac .sc (ac .sc (ac .sc an)))))) (ac (.cells (fun _ => rfl) (ac (.own rfl) (ac .sc (ac .sc (ac .sc an))))) (ac .map (ac (.cells id (all2_row _)) an))))), by omega, .inl ⟨x4, x5, x6, x7, x8, x9, x10, x11, IntKind.i64.wrap (x12 + 1), h, rfl⟩⟩
     ·iterate 6 refine AWops.guard_no rfl (nl rfl) rfl c25 ?_
      refine s_pick_no (d := (sb false)) rfl c25 rfl ?_
      refine s_move (d := (sb false)) rfl ?_
      iterate 6 refine AWops.guard_no rfl (nl rfl) rfl rfl ?_
      iterate 4 refine AWops.guard_undef rfl rfl ?_
      refine AWops.guard_no rfl (nl rfl) rfl rfl ?_
      refine s_pick_no (d := (sb false)) rfl rfl rfl (AWops.nil ?_)
      refine AW.cond_no rfl rfl (AW.skip (AW.region ?_))
      refine s_binI (v := (.int .i64 (IntKind.i64.wrap (x12 + 1)))) rfl rfl rfl ?_
      refine s_move (d := (si (IntKind.i64.wrap (x12 + 1)))) rfl (AWops.nil ?_)
      exact ⟨_, ⟨63, (upd 63 (upd 63 (upd 63 (upd 63 (upd 63 (upd 63 topF 0 (si (IntKind.i64.wrap (Int.tmod (IntKind.u64.wrap a0) 200)))) 5 (rf 0 0)) 7 (rf 1 0)) 31 (D.one (C.p false (.sl a1.length (a1.flatMap e_dossierplain_Step))))) 32 (si (a1.length : Int))) 33 (si (IntKind.i64.wrap (x12 + 1)))), [(some (AObj.cells true [(C.mp 2), (ci x4), (ci x5), (C.p true (.v (.pointer none))), (cb x6)])), (some (AObj.cells true [(C.own 3 0 x11.length 3), (ci x7), (ci x8), (cb x9)])), (om_ e_vdisk_file x10), (or_ e_dossierref03_File x11)]⟩, by omega, (wg 0 [0, 1, 2, 3] [] hx (le_upd (le_upd (le_upd (le_upd (le_upd (le_upd (le_top _) (.t (.one .sc))) (.t (.one (.ref rfl)))) (.t (.one (.ref rfl)))) (.t (.one .same))) (.t (.one .sc))) (.t (.one .sc))) (ac (.cells (fun _ => rfl) (ac (.mp rfl) (ac .sc (ac .sc (ac .sc (ac .sc an)))))) (ac (.cells (fun _ => rfl) (ac (.own rfl) (ac .sc (ac .sc (ac .sc an))))) (ac .map (ac (.cells id (all2_row _)) an))))), by omega, .inl ⟨x4, x5, x6, x7, x8, x9, x10, x11, IntKind.i64.wrap (x12 + 1), h, rfl⟩⟩
    ·refine AW.cond_no rfl c23 (AW.exit (AW.seq (AW.region ?_)))
     obtain ⟨r36, er36, h⟩ := bnd h
     refine s_call2 (ρ := []) (br := false) (H2 := [(some (AObj.cells true [(C.mp 2), (ci x4), (ci x5), (C.p true (.v (.pointer none))), (cb x6)])), (some (AObj.cells true [(C.own 3 0 x11.length 3), (ci x7), (ci x8), (cb x9)])), (om_ e_vdisk_file x10), (or_ e_dossierref03_File x11)]) (d := (sb r36)) F.ca_14 rfl rfl an an (by decide) rfl (dossierlaw03_awake.meets _  r36 er36) (.inl rfl) rfl rfl ?_
     refine s_assign (d := (sb r36)) rfl (AWops.nil (AW.ret ?_))
     obtain rfl := Option.some.inj h
     exact ⟨_, rfl, (wg 0 [] [] rfl (le_upd (le_top _) (.t (.one .sc))) an)⟩
  ·cases ql0 with
   | zero => exact absurd h (by simp [dossierlaw03_VdiskRoom.l1])
   | succ ql0 =>
    replace h := (dossierlaw03_VdiskRoom.l1.eq_2 _ _ _ _ _ _ _ _ _ _ _ _ _).symm.trans h
    refine AW.seq (AW.region ?_)
    refine s_binI (v := (.bool (decide (x22 < (a1.length : Int))))) rfl rfl rfl (AWops.nil (AW.seq ?_))
    rcases itH h with ⟨c37, h⟩ | ⟨c37, h⟩
    ·refine AW.cond_yes rfl c37 (AW.skip (AW.seq (AW.block (AW.seq (AW.region ?_)))))
     refine s_move (d := (si x22)) rfl ?_
     obtain ⟨v38, ev38, h⟩ := bnd h
     obtain ⟨pv38, qv38, gv38⟩ := rd_some ev38
     refine s_indexImm (ps := (p_dossierplain_Step v38)) F.u_37 F.sz_43 rfl rfl pv38 qv38 (flat_at e_dossierplain_Step_len gv38 (e_dossierplain_Step_eq v38)) ?_
     refine s_loadN (ds := (c_dossierplain_Step v38)) F.ag_43 F.sz_43 rfl rfl rfl ?_
     refine s_alloc (cs := [(ci 0), (ci 0), (ct (⟨#[]⟩ : ByteArray)), (ct (⟨#[]⟩ : ByteArray)), (C.p true (.v (.slice none 0 0))), (C.p true (.v (.slice none 0 0)))]) F.z_43 rfl rfl ?_
     refine s_assign (d := (si x22)) rfl ?_
     refine s_store (cs' := (c_dossierplain_Step v38)) rfl rfl rfl (List.cons_ne_nil _ _) rfl F.sz_43 (nl rfl) rfl (AWops.nil (AW.seq (AW.region ?_)))
     refine s_move (d := (si x22)) rfl ?_
     refine s_binI (v := (.bool (decide (x22 < 40)))) rfl rfl rfl ?_
     refine s_move (d := (sb (decide (x22 < 40)))) rfl ?_
     rcases itH h with ⟨c39, h⟩ | ⟨c39, h⟩
     ·refine AWops.guard_yes rfl (nl rfl) rfl c39 ?_
      refine s_fieldRef F.fo_43_0 (by decide) rfl ?_
      refine AWops.guard_yes rfl (nl rfl) rfl c39 ?_
      refine s_load1 (c' := (ci v38.Op)) F.ag_3 rfl rfl ?_
      refine AWops.guard_yes rfl (nl rfl) rfl c39 ?_
      refine s_convI F.u_3 F.u_38 rfl ?_
      refine AWops.guard_yes rfl (nl rfl) rfl c39 ?_
      refine s_binI (v := (.int .u64 (Int.tmod (IntKind.u64.wrap v38.Op) 9))) rfl rfl rfl ?_
      refine AWops.guard_yes rfl (nl rfl) rfl c39 ?_
      refine s_convI F.u_38 F.u_3 rfl ?_
      refine AWops.guard_yes rfl (nl rfl) rfl c39 ?_
      refine s_binI (v := (.bool ((IntKind.i64.wrap (Int.tmod (IntKind.u64.wrap v38.Op) 9)) != 8))) rfl rfl rfl ?_
      refine s_pick_yes (d := (sb ((IntKind.i64.wrap (Int.tmod (IntKind.u64.wrap v38.Op) 9)) != 8))) rfl c39 rfl ?_
      refine s_move (d := (sb ((IntKind.i64.wrap (Int.tmod (IntKind.u64.wrap v38.Op) 9)) != 8))) rfl ?_
      rcases itH h with ⟨c40, h⟩ | ⟨c40, h⟩
      ·refine AWops.guard_yes rfl (nl rfl) rfl c40 ?_
       refine s_loadN (ds := (c_dossierplain_Step v38)) F.ag_43 F.sz_43 rfl rfl rfl ?_
       refine AWops.guard_yes rfl (nl rfl) rfl c40 ?_
       refine s_move (d := (rf 0 0)) rfl ?_
       refine AWops.guard_yes rfl (nl rfl) rfl c40 ?_
       refine s_move (d := (rf 1 0)) rfl ?_
       refine AWops.guard_yes rfl (nl rfl) rfl c40 ?_
       obtain ⟨r41, er41, h⟩ := bnd h
       rcases optH h with ⟨c42, h⟩ | ⟨y43, c42, h⟩
       ·refine s_call2 (ρ := [0, 1, 2, 3, 4]) (br := false) (H2 := [(o_vdisk_Disk_03 true (C.mp 2) (C.p true (.v (.pointer none))) r41.2.1), (o_dossierref03_Disk_0 true (C.own 6 0 r41.2.2.1.L.length 3) r41.2.2.1), (om_ e_vdisk_file r41.2.1.files), none, none, (some (AObj.cells true (c_dossierplain_Step v38))), (or_ e_dossierref03_File r41.2.2.1.L)]) (d := (sb r41.1)) F.ca_16 rfl rfl (ac (LendT.aggL (ac .sc (ac .sc (ac .sc (ac .sc (ac .imm (ac .imm an))))))) (ac (.one (.ref rfl)) (ac (.one (.ref rfl)) an))) (ac (.cells (ac (.mp rfl) (ac .sc (ac .sc (ac (.ref rfl) (ac .sc an)))))) (ac (.cells (ac (.own rfl) (ac .sc (ac .sc (ac .sc an))))) (ac .map (ac (.cells (ac .sc an)) (ac (.cells (lend_row _)) an))))) (by decide) rfl (Meets.eqs (optE_none c42) (optE_none c42) (dossierplain_Step_Do_16xx.meets _ v38 (⟨x19, x13, x14, (), x15⟩ : vdisk_Disk) x20 (⟨x21, x16, x17, x18⟩ : dossierref03_Disk) r41 er41)) (.inl rfl) (by first | rfl | (simp only [mS]; done) | (simp only [mS]; rfl)) rfl ?_
        refine AWops.guard_yes rfl (nl rfl) rfl c40 ?_
        refine s_not rfl ?_
        refine AWops.guard_yes rfl (nl rfl) rfl c40 ?_
        refine s_move (d := (sb (!r41.1))) rfl ?_
        rcases itH h with ⟨c44, h⟩ | ⟨c44, h⟩
        ·refine AWops.guard_yes rfl (nl rfl) rfl (by rw [c44] <;> rfl) ?_
         refine s_move (d := (rf 0 0)) rfl ?_
         refine AWops.guard_yes rfl (nl rfl) rfl (by rw [c44] <;> rfl) ?_
         obtain ⟨r45, er45, h⟩ := bnd h
         refine s_call2 (ρ := [0, 2]) (br := false) (H2 := [(o_vdisk_Disk_03 true (C.mp 2) (C.p true (.v (.pointer none))) r41.2.1), (o_dossierref03_Disk_0 true (C.own 6 0 r41.2.2.1.L.length 3) r41.2.2.1), (om_ e_vdisk_file r41.2.1.files), none, none, (some (AObj.cells true (c_dossierplain_Step v38))), (or_ e_dossierref03_File r41.2.2.1.L)]) (d := (si r45)) F.ca_17 rfl rfl (ac (.one (.ref rfl)) an) (ac (.cells (ac (.mp rfl) (ac .sc (ac .sc (ac .sc (ac .sc an)))))) (ac .map an)) (by decide) rfl (vdisk_Disk_Used.meets _ r41.2.1 r45 er45) (.inl rfl) rfl rfl ?_
         refine AWops.guard_yes rfl (nl rfl) rfl (by rw [c44] <;> rfl) ?_
         refine s_move (d := (si (IntKind.i64.wrap (Int.tmod (IntKind.u64.wrap a0) 200)))) rfl ?_
         refine AWops.guard_yes rfl (nl rfl) rfl (by rw [c44] <;> rfl) ?_
         refine s_binI (v := (.bool (decide (r45 > (IntKind.i64.wrap (Int.tmod (IntKind.u64.wrap a0) 200)))))) rfl rfl rfl ?_
         refine AWops.guard_yes rfl (nl rfl) rfl c40 ?_
         refine s_pick_no (d := (sb (decide (r45 > (IntKind.i64.wrap (Int.tmod (IntKind.u64.wrap a0) 200)))))) rfl (by rw [c44] <;> rfl) rfl ?_
         refine s_pick_yes (d := (sb (decide (r45 > (IntKind.i64.wrap (Int.tmod (IntKind.u64.wrap a0) 200)))))) rfl c40 rfl (AWops.nil ?_)
         rcases itH h with ⟨c46, h⟩ | ⟨c46, h⟩
         ·refine AW.cond_yes rfl c46 (AW.seq (AW.region ?_))
          refine s_assign (d := (sb false)) rfl (AWops.nil (AW.ret ?_))
          obtain rfl := Option.some.inj h
          exact ⟨_, rfl, (wg 0 [] [] rfl (le_upd (le_top _) (.t (.one .sc))) an)⟩
         ·refine AW.cond_no rfl c46 (AW.skip (AW.region ?_))
          refine s_binI (v := (.int .i64 (IntKind.i64.wrap (x22 + 1)))) rfl rfl rfl ?_
          refine s_move (d := (si (IntKind.i64.wrap (x22 + 1)))) rfl (AWops.nil ?_)
          exact ⟨_, ⟨63, (upd 63 (upd 63 (upd 63 (upd 63 (upd 63 (upd 63 topF 0 (si (IntKind.i64.wrap (Int.tmod (IntKind.u64.wrap a0) 200)))) 5 (rf 0 0)) 7 (rf 1 0)) 31 (D.one (C.p false (.sl a1.length (a1.flatMap e_dossierplain_Step))))) 32 (si (a1.length : Int))) 33 (si (IntKind.i64.wrap (x22 + 1)))), [(some (AObj.cells true [(C.mp 2), (ci r41.2.1.room), (ci r41.2.1.used), (C.p true (.v (.pointer none))), (cb r41.2.1.dead)])), (some (AObj.cells true [(C.own 3 0 r41.2.2.1.L.length 3), (ci r41.2.2.1.Most), (ci r41.2.2.1.Burns), (cb r41.2.2.1.Off)])), (om_ e_vdisk_file r41.2.1.files), (or_ e_dossierref03_File r41.2.2.1.L)]⟩, by omega, (wg 0 [0, 1, 2, 6] [] hx (le_upd (le_upd (le_upd (le_upd (le_upd (le_upd (le_top _) (.t (.one .sc))) (.t (.one (.ref rfl)))) (.t (.one (.ref rfl)))) (.t (.one .same))) (.t (.one .sc))) (.t (.one .sc))) (ac (.cells (fun _ => rfl) (ac (.mp rfl) (ac .sc (ac .sc (ac .sc (ac .sc an)))))) (ac (.cells (fun _ => rfl) (ac (.own rfl) (ac .sc (ac .sc (ac .sc an))))) (ac .map (ac (.cells id (all2_row _)) an))))), by omega, .inl ⟨r41.2.1.room, r41.2.1.used, r41.2.1.dead, r41.2.2.1.Most, r41.2.2.1.Burns, r41.2.2.1.Off, r41.2.1.files, r41.2.2.1.L, IntKind.i64.wrap (x22 + 1), h, rfl⟩⟩
        ·iterate 4 refine AWops.guard_no rfl (nl rfl) rfl (by rw [c44] <;> rfl) ?_
         refine AWops.guard_yes rfl (nl rfl) rfl c40 ?_
         refine s_pick_yes (d := (sb true)) rfl (by rw [c44] <;> rfl) rfl ?_
         refine s_pick_yes (d := (sb true)) rfl c40 rfl (AWops.nil ?_)
         refine AW.cond_yes rfl rfl (AW.seq (AW.region ?_))
         refine s_assign (d := (sb false)) rfl (AWops.nil (AW.ret ?_))
         obtain rfl := Option.some.inj h
         exact ⟨_, rfl, (wg 0 [] [] rfl (le_upd (le_top _) (.t (.one .sc))) an)⟩
       ·refine s_call2 (ρ := [0, 1, 2, 3, 4]) (br := false) (H2 := [(o_vdisk_Disk_03 true (C.mp 2) (C.ref 6 0) r41.2.1), (o_dossierref03_Disk_0 true (C.own 7 0 r41.2.2.1.L.length 3) r41.2.2.1), (om_ e_vdisk_file r41.2.1.files), none, none, (some (AObj.cells true (c_dossierplain_Step v38))), (some (AObj.cells false [(ci y43)])), (or_ e_dossierref03_File r41.2.2.1.L)]) (d := (sb r41.1)) F.ca_16 rfl rfl (ac (LendT.aggL (ac .sc (ac .sc (ac .sc (ac .sc (ac .imm (ac .imm an))))))) (ac (.one (.ref rfl)) (ac (.one (.ref rfl)) an))) (ac (.cells (ac (.mp rfl) (ac .sc (ac .sc (ac (.ref rfl) (ac .sc an)))))) (ac (.cells (ac (.own rfl) (ac .sc (ac .sc (ac .sc an))))) (ac .map (ac (.cells (ac .sc an)) (ac (.cells (lend_row _)) an))))) (by decide) rfl (Meets.eqs (optE_some c42) (optE_some c42) (dossierplain_Step_Do_16xx.meets _ v38 (⟨x19, x13, x14, (), x15⟩ : vdisk_Disk) x20 (⟨x21, x16, x17, x18⟩ : dossierref03_Disk) r41 er41)) (.inl rfl) (by first | rfl | (simp only [mS]; done) | (simp only [mS]; rfl)) rfl ?_
        refine AWops.guard_yes rfl (nl rfl) rfl c40 ?_
        refine s_not rfl ?_
        refine AWops.guard_yes rfl (nl rfl) rfl c40 ?_
        refine s_move (d := (sb (!r41.1))) rfl ?_
        rcases itH h with ⟨c47, h⟩ | ⟨c47, h⟩
        ·refine AWops.guard_yes rfl (nl rfl) rfl (by rw [c47] <;> rfl) ?_
         refine s_move (d := (rf 0 0)) rfl ?_
         refine AWops.guard_yes rfl (nl rfl) rfl (by rw [c47] <;> rfl) ?_
         obtain ⟨r48, er48, h⟩ := bnd h
         refine s_call2 (ρ := [0, 2, 6]) (br := false) (H2 := [(o_vdisk_Disk_03 true (C.mp 2) (C.ref 6 0) r41.2.1), (o_dossierref03_Disk_0 true (C.own 7 0 r41.2.2.1.L.length 3) r41.2.2.1), (om_ e_vdisk_file r41.2.1.files), none, none, (some (AObj.cells true (c_dossierplain_Step v38))), (some (AObj.cells false [(ci y43)])), (or_ e_dossierref03_File r41.2.2.1.L)]) (d := (si r48)) F.ca_17 rfl rfl (ac (.one (.ref rfl)) an) (ac (.cells (ac (.mp rfl) (ac .sc (ac .sc (ac (.ref rfl) (ac .sc an)))))) (ac .map (ac (.cells (ac .sc an)) an))) (by decide) rfl (vdisk_Disk_Used_17.meets _ r41.2.1 y43 r48 er48) (.inl rfl) rfl rfl ?_
         refine AWops.guard_yes rfl (nl rfl) rfl (by rw [c47] <;> rfl) ?_
         refine s_move (d := (si (IntKind.i64.wrap (Int.tmod (IntKind.u64.wrap a0) 200)))) rfl ?_
         refine AWops.guard_yes rfl (nl rfl) rfl (by rw [c47] <;> rfl) ?_
         refine s_binI (v := (.bool (decide (r48 > (IntKind.i64.wrap (Int.tmod (IntKind.u64.wrap a0) 200)))))) rfl rfl rfl ?_
         refine AWops.guard_yes rfl (nl rfl) rfl c40 ?_
         refine s_pick_no (d := (sb (decide (r48 > (IntKind.i64.wrap (Int.tmod (IntKind.u64.wrap a0) 200)))))) rfl (by rw [c47] <;> rfl) rfl ?_
         refine s_pick_yes (d := (sb (decide (r48 > (IntKind.i64.wrap (Int.tmod (IntKind.u64.wrap a0) 200)))))) rfl c40 rfl (AWops.nil ?_)
         rcases itH h with ⟨c49, h⟩ | ⟨c49, h⟩
         ·refine AW.cond_yes rfl c49 (AW.seq (AW.region ?_))
          refine s_assign (d := (sb false)) rfl (AWops.nil (AW.ret ?_))
          obtain rfl := Option.some.inj h
          exact ⟨_, rfl, (wg 0 [] [] rfl (le_upd (le_top _) (.t (.one .sc))) an)⟩
         ·refine AW.cond_no rfl c49 (AW.skip (AW.region ?_))
          refine s_binI (v := (.int .i64 (IntKind.i64.wrap (x22 + 1)))) rfl rfl rfl ?_
          refine s_move (d := (si (IntKind.i64.wrap (x22 + 1)))) rfl (AWops.nil ?_)
          exact ⟨_, ⟨63, (upd 63 (upd 63 (upd 63 (upd 63 (upd 63 (upd 63 topF 0 (si (IntKind.i64.wrap (Int.tmod (IntKind.u64.wrap a0) 200)))) 5 (rf 0 0)) 7 (rf 1 0)) 31 (D.one (C.p false (.sl a1.length (a1.flatMap e_dossierplain_Step))))) 32 (si (a1.length : Int))) 33 (si (IntKind.i64.wrap (x22 + 1)))), [(some (AObj.cells true [(C.mp 2), (ci r41.2.1.room), (ci r41.2.1.used), (C.ref 3 0), (cb r41.2.1.dead)])), (some (AObj.cells true [(C.own 4 0 r41.2.2.1.L.length 3), (ci r41.2.2.1.Most), (ci r41.2.2.1.Burns), (cb r41.2.2.1.Off)])), (om_ e_vdisk_file r41.2.1.files), (some (AObj.cells false [(ci y43)])), (or_ e_dossierref03_File r41.2.2.1.L)]⟩, by omega, (wg 0 [0, 1, 2, 6, 7] [] hx (le_upd (le_upd (le_upd (le_upd (le_upd (le_upd (le_top _) (.t (.one .sc))) (.t (.one (.ref rfl)))) (.t (.one (.ref rfl)))) (.t (.one .same))) (.t (.one .sc))) (.t (.one .sc))) (ac (.cells (fun _ => rfl) (ac (.mp rfl) (ac .sc (ac .sc (ac (.ref rfl) (ac .sc an)))))) (ac (.cells (fun _ => rfl) (ac (.own rfl) (ac .sc (ac .sc (ac .sc an))))) (ac .map (ac (.cells id (ac .sc an)) (ac (.cells id (all2_row _)) an)))))), by omega, .inr (⟨r41.2.1.room, r41.2.1.used, r41.2.1.dead, r41.2.2.1.Most, r41.2.2.1.Burns, r41.2.2.1.Off, r41.2.1.files, y43, r41.2.2.1.L, IntKind.i64.wrap (x22 + 1), h, rfl⟩)⟩
        ·iterate 4 refine AWops.guard_no rfl (nl rfl) rfl (by rw [c47] <;> rfl) ?_
         refine AWops.guard_yes rfl (nl rfl) rfl c40 ?_
         refine s_pick_yes (d := (sb true)) rfl (by rw [c47] <;> rfl) rfl ?_
         refine s_pick_yes (d := (sb true)) rfl c40 rfl (AWops.nil ?_)
         refine AW.cond_yes rfl rfl (AW.seq (AW.region ?_))
         refine s_assign (d := (sb false)) rfl (AWops.nil (AW.ret ?_))
         obtain rfl := Option.some.inj h
         exact ⟨_, rfl, (wg 0 [] [] rfl (le_upd (le_top _) (.t (.one .sc))) an)⟩
      ·iterate 6 refine AWops.guard_no rfl (nl rfl) rfl c40 ?_
       iterate 4 refine AWops.guard_undef rfl rfl ?_
       refine AWops.guard_no rfl (nl rfl) rfl c40 ?_
       refine s_pick_no (d := (sb false)) rfl c40 rfl (AWops.nil ?_)
       refine AW.cond_no rfl rfl (AW.skip (AW.region ?_))
       refine s_binI (v := (.int .i64 (IntKind.i64.wrap (x22 + 1)))) rfl rfl rfl ?_
       refine s_move (d := (si (IntKind.i64.wrap (x22 + 1)))) rfl (AWops.nil ?_)
       exact ⟨_, ⟨63, (upd 63 (upd 63 (upd 63 (upd 63 (upd 63 (upd 63 topF 0 (si (IntKind.i64.wrap (Int.tmod (IntKind.u64.wrap a0) 200)))) 5 (rf 0 0)) 7 (rf 1 0)) 31 (D.one (C.p false (.sl a1.length (a1.flatMap e_dossierplain_Step))))) 32 (si (a1.length : Int))) 33 (si (IntKind.i64.wrap (x22 + 1)))), [(some (AObj.cells true [(C.mp 2), (ci x13), (ci x14), (C.ref 3 0), (cb x15)])), (some (AObj.cells true [(C.own 4 0 x21.length 3), (ci x16), (ci x17), (cb x18)])), (om_ e_vdisk_file x19), (some (AObj.cells false [(ci x20)])), (or_ e_dossierref03_File x21)]⟩, by omega, (wg 0 [0, 1, 2, 3, 4] [] hx (le_upd (le_upd (le_upd (le_upd (le_upd (le_upd (le_top _) (.t (.one .sc))) (.t (.one (.ref rfl)))) (.t (.one (.ref rfl)))) (.t (.one .same))) (.t (.one .sc))) (.t (.one .sc))) (ac (.cells (fun _ => rfl) (ac (.mp rfl) (ac .sc (ac .sc (ac (.ref rfl) (ac .sc an)))))) (ac (.cells (fun _ => rfl) (ac (.own rfl) (ac .sc (ac .sc (ac .sc an))))) (ac .map (ac (.cells id (ac .sc an)) (ac (.cells id (all2_row _)) an)))))), by omega, .inr (⟨x13, x14, x15, x16, x17, x18, x19, x20, x21, IntKind.i64.wrap (x22 + 1), h, rfl⟩)⟩
     ·iterate 6 refine AWops.guard_no rfl (nl rfl) rfl c39 ?_
      refine s_pick_no (d := (sb false)) rfl c39 rfl ?_
      refine s_move (d := (sb false)) rfl ?_
      iterate 6 refine AWops.guard_no rfl (nl rfl) rfl rfl ?_
      iterate 4 refine AWops.guard_undef rfl rfl ?_
      refine AWops.guard_no rfl (nl rfl) rfl rfl ?_
      refine s_pick_no (d := (sb false)) rfl rfl rfl (AWops.nil ?_)
      refine AW.cond_no rfl rfl (AW.skip (AW.region ?_))
      refine s_binI (v := (.int .i64 (IntKind.i64.wrap (x22 + 1)))) rfl rfl rfl ?_
      refine s_move (d := (si (IntKind.i64.wrap (x22 + 1)))) rfl (AWops.nil ?_)
      exact ⟨_, ⟨63, (upd 63 (upd 63 (upd 63 (upd 63 (upd 63 (upd 63 topF 0 (si (IntKind.i64.wrap (Int.tmod (IntKind.u64.wrap a0) 200)))) 5 (rf 0 0)) 7 (rf 1 0)) 31 (D.one (C.p false (.sl a1.length (a1.flatMap e_dossierplain_Step))))) 32 (si (a1.length : Int))) 33 (si (IntKind.i64.wrap (x22 + 1)))), [(some (AObj.cells true [(C.mp 2), (ci x13), (ci x14), (C.ref 3 0), (cb x15)])), (some (AObj.cells true [(C.own 4 0 x21.length 3), (ci x16), (ci x17), (cb x18)])), (om_ e_vdisk_file x19), (some (AObj.cells false [(ci x20)])), (or_ e_dossierref03_File x21)]⟩, by omega, (wg 0 [0, 1, 2, 3, 4] [] hx (le_upd (le_upd (le_upd (le_upd (le_upd (le_upd (le_top _) (.t (.one .sc))) (.t (.one (.ref rfl)))) (.t (.one (.ref rfl)))) (.t (.one .same))) (.t (.one .sc))) (.t (.one .sc))) (ac (.cells (fun _ => rfl) (ac (.mp rfl) (ac .sc (ac .sc (ac (.ref rfl) (ac .sc an)))))) (ac (.cells (fun _ => rfl) (ac (.own rfl) (ac .sc (ac .sc (ac .sc an))))) (ac .map (ac (.cells id (ac .sc an)) (ac (.cells id (all2_row _)) an)))))), by omega, .inr (⟨x13, x14, x15, x16, x17, x18, x19, x20, x21, IntKind.i64.wrap (x22 + 1), h, rfl⟩)⟩
    ·refine AW.cond_no rfl c37 (AW.exit (AW.seq (AW.region ?_)))
     obtain ⟨r50, er50, h⟩ := bnd h
     refine s_call2 (ρ := []) (br := false) (H2 := [(some (AObj.cells true [(C.mp 2), (ci x13), (ci x14), (C.ref 3 0), (cb x15)])), (some (AObj.cells true [(C.own 4 0 x21.length 3), (ci x16), (ci x17), (cb x18)])), (om_ e_vdisk_file x19), (some (AObj.cells false [(ci x20)])), (or_ e_dossierref03_File x21)]) (d := (sb r50)) F.ca_14 rfl rfl an an (by decide) rfl (dossierlaw03_awake.meets _  r50 er50) (.inl rfl) rfl rfl ?_
     refine s_assign (d := (sb r50)) rfl (AWops.nil (AW.ret ?_))
     obtain rfl := Option.some.inj h
     exact ⟨_, rfl, (wg 0 [] [] rfl (le_upd (le_top _) (.t (.one .sc))) an)⟩
end Go.Abs.GenRm
