import Derived.Test.YtiegaebmhpdnmaaGenLvc
set_option linter.unusedVariables false
set_option linter.unusedSimpArgs false
set_option maxRecDepth 100000
set_option maxHeartbeats 4000000
namespace Go.Abs.GenLv
open Go.Abs Go.Proofs
mutual
def dossierplain_Step_Do_16.j0 : Nat → Bool → dossierplain_Step → vdisk_Disk → dossierref03_Disk → Option (Bool × vdisk_Disk × dossierref03_Disk × (Option Int))
 | 0, _, _, _, _ => none
 | k + 1, x2, a0, p0, p1 => if x2 = true then ((bytes_Clone.f k a0.B).bind fun r4 => (vdisk_Disk_Append_9.f k p0 a0.Name r4).bind fun r5 => (dossierplain_Spoil.f k () r4).bind fun r6 => (dossierref03_Disk_Append_38.f k p1 a0.Name a0.B).bind fun r7 => some ((r5.1 == r7.1), r5.2, r7.2, (none : Option Int))) else (if ((IntKind.i64.wrap (Int.tmod (IntKind.u64.wrap a0.Op) 9)) == 2) = true then ((vdisk_Disk_Sync.f k p0 a0.Name).bind fun r9 => (dossierref03_Disk_Sync_39.f k p1 a0.Name).bind fun r10 => some ((r9.1 == r10.1), r9.2, r10.2, (none : Option Int))) else (if ((IntKind.i64.wrap (Int.tmod (IntKind.u64.wrap a0.Op) 9)) == 3) = true then ((vdisk_Disk_Rename.f k p0 a0.Name a0.To).bind fun r12 => (dossierref03_Disk_Rename_40.f k p1 a0.Name a0.To).bind fun r13 => some ((r12.1 == r13.1), r12.2, r13.2, (none : Option Int))) else (if ((IntKind.i64.wrap (Int.tmod (IntKind.u64.wrap a0.Op) 9)) == 4) = true then ((vdisk_Disk_Truncate.f k p0 a0.Name a0.N).bind fun r15 => (dossierref03_Disk_Truncate_41.f k p1 a0.Name a0.N).bind fun r16 => some ((r15.1 == r16.1), r15.2, r16.2, (none : Option Int))) else (if ((IntKind.i64.wrap (Int.tmod (IntKind.u64.wrap a0.Op) 9)) == 5) = true then ((vdisk_Disk_Remove.f k p0 a0.Name).bind fun r18 => (dossierref03_Disk_Remove_42.f k p1 a0.Name).bind fun r19 => some ((r18.1 == r19.1), r18.2, r19.2, (none : Option Int))) else (if ((IntKind.i64.wrap (Int.tmod (IntKind.u64.wrap a0.Op) 9)) == 6) = true then ((vdisk_Disk_Fuse.f k p0 a0.N).bind fun r21 => optE r21.2.2 ((dossierref03_Disk_Fuse.f k p1 a0.N).bind fun r24 => some ((r21.1 == r24.1), r21.2.1, r24.2, (none : Option Int))) (fun y23 => (dossierref03_Disk_Fuse.f k p1 a0.N).bind fun r25 => some ((r21.1 == r25.1), r21.2.1, r25.2, some y23))) else (if ((IntKind.i64.wrap (Int.tmod (IntKind.u64.wrap a0.Op) 9)) == 7) = true then ((dossierref03_Disk_Crash_44.f k p1 a0.Keeps).bind fun r27 => (vdisk_Disk_Crash.f k p0 a0.Keeps).bind fun r28 => some ((r28.1 == 0), r28.2, r27, (none : Option Int))) else ((vdisk_Disk_Room.f k p0 a0.N).bind fun r29 => (dossierref03_Disk_Room.f k p1 a0.N).bind fun r30 => some ((r29.1 == r30.1), r29.2, r30.2, (none : Option Int)))))))))
end
def dossierplain_Step_Do_16.f (k : Nat) (a0 : dossierplain_Step) (p0 : vdisk_Disk) (p1 : dossierref03_Disk) : Option (Bool × vdisk_Disk × dossierref03_Disk × (Option Int)) := if ((IntKind.i64.wrap (Int.tmod (IntKind.u64.wrap a0.Op) 9)) == 0) = true then (dossierplain_Step_Do_16.j0 k ((IntKind.i64.wrap (Int.tmod (IntKind.u64.wrap a0.Op) 9)) == 0) a0 p0 p1) else (dossierplain_Step_Do_16.j0 k ((IntKind.i64.wrap (Int.tmod (IntKind.u64.wrap a0.Op) 9)) == 1) a0 p0 p1)
theorem dossierplain_Step_Do_16.meets (k : Nat) (a0 : dossierplain_Step) (p0 : vdisk_Disk) (p1 : dossierref03_Disk) (r : Bool × vdisk_Disk × dossierref03_Disk × (Option Int)) (h : dossierplain_Step_Do_16.f k a0 p0 p1 = some r) : Meets Try.prog 16 [(D.agg (c_dossierplain_Step a0)), (rf 0 0), (rf 1 0)] [(o_vdisk_Disk_03 false (C.mp 2) (C.p true (.v (.pointer none))) p0), (o_dossierref03_Disk_0 false (C.own 3 0 p1.L.length 3) p1), (om_ e_vdisk_file p0.files), (or_ e_dossierref03_File p1.L)] (optE r.2.2.2 (sb r.1) (fun z1 : Int => (sb r.1))) (optE r.2.2.2 [(o_vdisk_Disk_03 false (C.mp 2) (C.p true (.v (.pointer none))) r.2.1), (o_dossierref03_Disk_0 false (C.own 4 0 r.2.2.1.L.length 3) r.2.2.1), (om_ e_vdisk_file r.2.1.files), none, (or_ e_dossierref03_File r.2.2.1.L)] (fun z1 : Int => [(o_vdisk_Disk_03 false (C.mp 2) (C.ref 4 0) r.2.1), (o_dossierref03_Disk_0 false (C.own 5 0 r.2.2.1.L.length 3) r.2.2.1), (om_ e_vdisk_file r.2.1.files), none, (some (AObj.cells false [(ci z1)])), (or_ e_dossierref03_File r.2.2.1.L)])) := by
 unfold dossierplain_Step_Do_16.f at h
 refine Meets.of_body (n := 119) Try.func16 rfl rfl (nl rfl) fun x hx => ?_
 replace hx : x.k = 4 := hx
 show AW _ x _ _ ⟨119, fr0 [(D.agg (c_dossierplain_Step a0)), (rf 0 0), (rf 1 0)], [(o_vdisk_Disk_03 false (C.mp 2) (C.p true (.v (.pointer none))) p0), (o_dossierref03_Disk_0 false (C.own 3 0 p1.L.length 3) p1), (om_ e_vdisk_file p0.files), (or_ e_dossierref03_File p1.L)]⟩
 refine AW.weak (st' := ⟨119, (upd 119 (upd 119 (upd 119 topF 0 (D.agg (c_dossierplain_Step a0))) 1 (rf 0 0)) 2 (rf 1 0)), [(o_vdisk_Disk_03 false (C.mp 2) (C.p true (.v (.pointer none))) p0), (o_dossierref03_Disk_0 false (C.own 4 0 p1.L.length 3) p1), (om_ e_vdisk_file p0.files), none, (or_ e_dossierref03_File p1.L)]⟩) (Weak.genL (kk := 4) [0, 1, 2, 3, 3] [] hx rfl (by decide) rfl rfl rfl rfl (le_upd (le_upd (le_upd (le_top _) (.t (.agg (ac .sc (ac .sc (ac .sc (ac .sc (ac .same (ac .same an))))))))) (.t (.one (.ref rfl)))) (.t (.one (.ref rfl)))) (ac (.cells id (ac (.mp rfl) (ac .sc (ac .sc (ac .sc (ac .sc an)))))) (ac (.cells id (ac (.own rfl) (ac .sc (ac .sc (ac .sc an))))) (ac .map (ac (.none _) (ac (.cells id (all2_row _)) an)))))) (AW.seq (AW.region ?_))
 refine s_box (cs := (c_dossierplain_Step a0)) rfl (List.cons_ne_nil _ _) rfl ?_
 refine s_assign (d := (sb false)) rfl (AWops.nil (AW.seq (AW.seq (AW.region ?_))))
 refine s_fieldRef F.fo_43_0 (by decide) rfl ?_
 refine s_load1 (c' := (ci a0.Op)) F.ag_3 rfl rfl ?_
 refine s_convI F.u_3 F.u_38 rfl ?_
 refine s_binI (v := (.int .u64 (Int.tmod (IntKind.u64.wrap a0.Op) 9))) rfl rfl rfl ?_
 refine s_convI F.u_38 F.u_3 rfl (AWops.nil (AW.block ?_))
 refine AW.seqJ (fun st => ∃ (x2 : Bool), dossierplain_Step_Do_16.j0 k x2 a0 p0 p1 = some r ∧ st = ⟨119, (upd 119 (upd 119 (upd 119 (upd 119 (upd 119 topF 1 (rf 0 0)) 2 (rf 1 0)) 3 (rf 4 0)) 13 (si (IntKind.i64.wrap (Int.tmod (IntKind.u64.wrap a0.Op) 9)))) 14 (sb x2)), [(o_vdisk_Disk_03 false (C.mp 2) (C.p true (.v (.pointer none))) p0), (o_dossierref03_Disk_0 false (C.own 5 0 p1.L.length 3) p1), (om_ e_vdisk_file p0.files), none, (some (AObj.cells true (c_dossierplain_Step a0))), (or_ e_dossierref03_File p1.L)]⟩) ?_ ?_
 ·refine AW.seq (AW.region ?_)
  refine s_binI (v := (.bool ((IntKind.i64.wrap (Int.tmod (IntKind.u64.wrap a0.Op) 9)) == 0))) rfl rfl rfl ?_
  refine s_assign (d := (sb ((IntKind.i64.wrap (Int.tmod (IntKind.u64.wrap a0.Op) 9)) == 0))) rfl (AWops.nil ?_)
  rcases itH h with ⟨c1, h⟩ | ⟨c1, h⟩
  ·refine AW.cond_yes rfl c1 (AW.skip ?_)
   exact ⟨⟨119, (upd 119 (upd 119 (upd 119 (upd 119 (upd 119 topF 1 (rf 0 0)) 2 (rf 1 0)) 3 (rf 4 0)) 13 (si (IntKind.i64.wrap (Int.tmod (IntKind.u64.wrap a0.Op) 9)))) 14 (sb ((IntKind.i64.wrap (Int.tmod (IntKind.u64.wrap a0.Op) 9)) == 0))), [(o_vdisk_Disk_03 false (C.mp 2) (C.p true (.v (.pointer none))) p0), (o_dossierref03_Disk_0 false (C.own 5 0 p1.L.length 3) p1), (om_ e_vdisk_file p0.files), none, (some (AObj.cells true (c_dossierplain_Step a0))), (or_ e_dossierref03_File p1.L)]⟩, (wg 4 [0, 1, 2, 3, 5, 4] [] hx (le_upd (le_upd (le_upd (le_upd (le_upd (le_top _) (.t (.one (.ref rfl)))) (.t (.one (.ref rfl)))) (.t (.one (.ref rfl)))) (.t (.one .sc))) (.t (.one .sc))) (ac (.cells id (ac (.mp rfl) (ac .sc (ac .sc (ac .sc (ac .sc an)))))) (ac (.cells id (ac (.own rfl) (ac .sc (ac .sc (ac .sc an))))) (ac .map (ac (.none _) (ac (.cells (fun _ => rfl) (ac .sc (ac .sc (ac .sc (ac .sc (ac .same (ac .same an))))))) (ac (.cells id (all2_row _)) an))))))), ((IntKind.i64.wrap (Int.tmod (IntKind.u64.wrap a0.Op) 9)) == 0), h, rfl⟩
  ·refine AW.cond_no rfl c1 (AW.region ?_)
   refine s_binI (v := (.bool ((IntKind.i64.wrap (Int.tmod (IntKind.u64.wrap a0.Op) 9)) == 1))) rfl rfl rfl ?_
   refine s_assign (d := (sb ((IntKind.i64.wrap (Int.tmod (IntKind.u64.wrap a0.Op) 9)) == 1))) rfl (AWops.nil ?_)
   exact ⟨⟨119, (upd 119 (upd 119 (upd 119 (upd 119 (upd 119 topF 1 (rf 0 0)) 2 (rf 1 0)) 3 (rf 4 0)) 13 (si (IntKind.i64.wrap (Int.tmod (IntKind.u64.wrap a0.Op) 9)))) 14 (sb ((IntKind.i64.wrap (Int.tmod (IntKind.u64.wrap a0.Op) 9)) == 1))), [(o_vdisk_Disk_03 false (C.mp 2) (C.p true (.v (.pointer none))) p0), (o_dossierref03_Disk_0 false (C.own 5 0 p1.L.length 3) p1), (om_ e_vdisk_file p0.files), none, (some (AObj.cells true (c_dossierplain_Step a0))), (or_ e_dossierref03_File p1.L)]⟩, (wg 4 [0, 1, 2, 3, 5, 4] [] hx (le_upd (le_upd (le_upd (le_upd (le_upd (le_top _) (.t (.one (.ref rfl)))) (.t (.one (.ref rfl)))) (.t (.one (.ref rfl)))) (.t (.one .sc))) (.t (.one .sc))) (ac (.cells id (ac (.mp rfl) (ac .sc (ac .sc (ac .sc (ac .sc an)))))) (ac (.cells id (ac (.own rfl) (ac .sc (ac .sc (ac .sc an))))) (ac .map (ac (.none _) (ac (.cells (fun _ => rfl) (ac .sc (ac .sc (ac .sc (ac .sc (ac .same (ac .same an))))))) (ac (.cells id (all2_row _)) an))))))), ((IntKind.i64.wrap (Int.tmod (IntKind.u64.wrap a0.Op) 9)) == 1), h, rfl⟩
 ·rintro st ⟨x2, h, rfl⟩
  cases k with
  | zero => exact absurd h (by simp [dossierplain_Step_Do_16.j0])
  | succ qj0 =>
   replace h := (dossierplain_Step_Do_16.j0.eq_2 _ _ _ _ _).symm.trans h
   rcases itH h with ⟨c3, h⟩ | ⟨c3, h⟩
   ·refine AW.cond_yes rfl c3 (AW.seq (AW.region ?_))
    refine s_fieldRef F.fo_43_4 (by decide) rfl ?_
    refine s_load1 (c' := (C.p false (.sl a0.B.length (a0.B.flatMap e_u8)))) F.ag_22 rfl rfl ?_
    obtain ⟨r4, er4, h⟩ := bnd h
    refine s_call2 (ρ := []) (br := false) (H2 := [(o_vdisk_Disk_03 false (C.mp 2) (C.p true (.v (.pointer none))) p0), (o_dossierref03_Disk_0 false (C.own 5 0 p1.L.length 3) p1), (om_ e_vdisk_file p0.files), none, (some (AObj.cells true (c_dossierplain_Step a0))), (or_ e_dossierref03_File p1.L), (ow_ e_u8 r4)]) (d := (D.one (C.own 6 0 r4.length 1))) F.ca_37 rfl rfl (ac (.one .imm) an) an (by decide) rfl (bytes_Clone.meets _ a0.B r4 er4) (.inl rfl) (by first | rfl | (simp only [mS]; done) | (simp only [mS]; rfl)) rfl ?_
    refine s_assign (d := (D.one (C.own 6 0 r4.length 1))) rfl (AWops.nil (AW.seq (AW.region ?_)))
    refine s_move (d := (rf 0 0)) rfl ?_
    refine s_fieldRef F.fo_43_2 (by decide) rfl ?_
    refine s_load1 (c' := (ct a0.Name)) F.ag_9 rfl rfl ?_
    refine s_move (d := (D.one (C.own 6 0 r4.length 1))) rfl ?_
    obtain ⟨r5, er5, h⟩ := bnd h
    refine s_call2 (ρ := [0, 6, 2]) (br := false) (H2 := [(o_vdisk_Disk_03 false (C.mp 2) (C.p true (.v (.pointer none))) r5.2), (o_dossierref03_Disk_0 false (C.own 5 0 p1.L.length 3) p1), (om_ e_vdisk_file r5.2.files), none, (some (AObj.cells true (c_dossierplain_Step a0))), (or_ e_dossierref03_File p1.L), (ow_ e_u8 r4)]) (d := (si r5.1)) F.ca_9 rfl rfl (ac (.one (.ref rfl)) (ac (.one .sc) (ac (.one (.own rfl)) an))) (ac (.cells (ac (.mp rfl) (ac .sc (ac .sc (ac .sc (ac .sc an)))))) (ac (.cells (lend_row _)) (ac .map an))) (by decide) rfl (vdisk_Disk_Append_9.meets _ p0 a0.Name r4 r5 er5) (.inl rfl) (by first | rfl | (simp only [mS]; done) | (simp only [mS]; rfl)) rfl ?_
    refine s_assign (d := (si r5.1)) rfl (AWops.nil (AW.seq (AW.region ?_)))
    refine s_move (d := (D.one (C.own 6 0 r4.length 1))) rfl ?_
    refine s_buildSlice (n := 1) (ps := [(0, (D.one (C.own 6 0 r4.length 1)))]) (cs := [(C.own 6 0 r4.length 1)]) F.u_23 F.sz_22 F.z_22 rfl rfl (by decide) (by decide) rfl rfl ?_
    obtain ⟨r6, er6, h⟩ := bnd h
    refine s_call2 (ρ := [7, 6]) (br := false) (H2 := [(o_vdisk_Disk_03 false (C.mp 2) (C.p true (.v (.pointer none))) r5.2), (o_dossierref03_Disk_0 false (C.own 5 0 p1.L.length 3) p1), (om_ e_vdisk_file r5.2.files), none, (some (AObj.cells true (c_dossierplain_Step a0))), (or_ e_dossierref03_File p1.L), (ow_ e_u8 r6), (some (AObj.cells true [(C.own 6 0 r6.length 1)]))]) (d := (D.tup [])) F.ca_29 rfl rfl (ac (.one (.own rfl)) an) (ac (.cells (ac (.own rfl) an)) (ac (.cells (lend_row _)) an)) (by decide) rfl (dossierplain_Spoil.meets _ () r4 r6 er6) (.inl rfl) (by first | rfl | (simp only [mS]; done) | (simp only [mS]; rfl)) rfl (AWops.nil (AW.seq (AW.region ?_)))
    refine s_move (d := (si r5.1)) rfl ?_
    refine s_move (d := (rf 1 0)) rfl ?_
    refine s_fieldRef F.fo_43_2 (by decide) rfl ?_
    refine s_load1 (c' := (ct a0.Name)) F.ag_9 rfl rfl ?_
    refine s_fieldRef F.fo_43_4 (by decide) rfl ?_
    refine s_load1 (c' := (C.p false (.sl a0.B.length (a0.B.flatMap e_u8)))) F.ag_22 rfl rfl ?_
    obtain ⟨r7, er7, h⟩ := bnd h
    refine s_call2 (ρ := [1, 5]) (br := false) (H2 := [(o_vdisk_Disk_03 false (C.mp 2) (C.p true (.v (.pointer none))) r5.2), (o_dossierref03_Disk_0 false (C.own 8 0 r7.2.L.length 3) r7.2), (om_ e_vdisk_file r5.2.files), none, (some (AObj.cells true (c_dossierplain_Step a0))), none, (ow_ e_u8 r6), (some (AObj.cells true [(C.own 6 0 r6.length 1)])), (or_ e_dossierref03_File r7.2.L)]) (d := (si r7.1)) F.ca_38 rfl rfl (ac (.one (.ref rfl)) (ac (.one .sc) (ac (.one .imm) an))) (ac (.cells (ac (.own rfl) (ac .sc (ac .sc (ac .sc an))))) (ac (.cells (lend_row _)) an)) (by decide) rfl (dossierref03_Disk_Append_38.meets _ p1 a0.Name a0.B r7 er7) (.inl rfl) (by first | rfl | (simp only [mS]; done) | (simp only [mS]; rfl)) rfl ?_
    refine s_binI (v := (.bool (r5.1 == r7.1))) rfl rfl rfl ?_
    refine s_assign (d := (sb (r5.1 == r7.1))) rfl (AWops.nil (AW.ret ?_))
    obtain rfl := Option.some.inj h
    exact ⟨_, rfl, (wg 4 [0, 1, 2, 3, 8] [] rfl (le_upd (le_top _) (.t (.one .sc))) (ac (.cells id (ac (.mp rfl) (ac .sc (ac .sc (ac .sc (ac .sc an)))))) (ac (.cells id (ac (.own rfl) (ac .sc (ac .sc (ac .sc an))))) (ac .map (ac (.none _) (ac (.cells id (all2_row _)) an))))))⟩
   ·refine AW.cond_no rfl c3 (AW.seq (AW.region ?_))
    refine s_binI (v := (.bool ((IntKind.i64.wrap (Int.tmod (IntKind.u64.wrap a0.Op) 9)) == 2))) rfl rfl rfl ?_
    refine s_assign (d := (sb ((IntKind.i64.wrap (Int.tmod (IntKind.u64.wrap a0.Op) 9)) == 2))) rfl (AWops.nil ?_)
    rcases itH h with ⟨c8, h⟩ | ⟨c8, h⟩
    ·refine AW.cond_yes rfl c8 (AW.seq ?_)
     refine AW.weak (st' := ⟨119, (upd 119 (upd 119 (upd 119 topF 1 (rf 0 0)) 2 (rf 1 0)) 3 (rf 4 0)), [(o_vdisk_Disk_03 false (C.mp 2) (C.p true (.v (.pointer none))) p0), (o_dossierref03_Disk_0 false (C.own 5 0 p1.L.length 3) p1), (om_ e_vdisk_file p0.files), none, (some (AObj.cells true (c_dossierplain_Step a0))), (or_ e_dossierref03_File p1.L)]⟩) (wg 4 [0, 1, 2, 3, 4, 5] [] hx (le_upd (le_upd (le_upd (le_top _) (.t (.one (.ref rfl)))) (.t (.one (.ref rfl)))) (.t (.one (.ref rfl)))) (ac (.cells id (ac (.mp rfl) (ac .sc (ac .sc (ac .sc (ac .sc an)))))) (ac (.cells id (ac (.own rfl) (ac .sc (ac .sc (ac .sc an))))) (ac .map (ac (.none _) (ac (.cells (fun _ => rfl) (ac .sc (ac .sc (ac .sc (ac .sc (ac .same (ac .same an))))))) (ac (.cells id (all2_row _)) an))))))) ?_
     obtain ⟨r9, er9, h⟩ := bnd h
     obtain ⟨r10, er10, h⟩ := bnd h
     refine AW.draw (n := 119) (L := 8) [(ft 0 38 (rf 0 0) [(1, (rf 0 0))]), (ft 1 39 (rf 4 2) [(3, (rf 4 0))]), (2, ⟨some 40, (st_ a0.Name), [(39, (rf 4 2))], [(4, (some (AObj.cells true (c_dossierplain_Step a0))))], [], none⟩), (3, ⟨some 41, (si r9.1), [(38, (rf 0 0)), (40, (st_ a0.Name))], [(0, (o_vdisk_Disk_03 false (C.mp 2) (C.p true (.v (.pointer none))) p0)), (2, (om_ e_vdisk_file p0.files))], [(0, (o_vdisk_Disk_03 false (C.mp 2) (C.p true (.v (.pointer none))) r9.2)), (2, (om_ e_vdisk_file r9.2.files))], none⟩), (ft 4 42 (rf 1 0) [(2, (rf 1 0))]), (ft 5 43 (rf 4 2) [(3, (rf 4 0))]), (6, ⟨some 44, (st_ a0.Name), [(43, (rf 4 2))], [(4, (some (AObj.cells true (c_dossierplain_Step a0))))], [], none⟩), (7, ⟨some 45, (si r10.1), [(42, (rf 1 0)), (44, (st_ a0.Name))], [(1, (o_dossierref03_Disk_0 false (C.own 5 0 p1.L.length 3) p1)), (5, (or_ e_dossierref03_File p1.L))], [(1, (o_dossierref03_Disk_0 false (C.own 7 0 r10.2.L.length 3) r10.2)), (5, none), (7, (or_ e_dossierref03_File r10.2.L))], some 7⟩), (ft 8 46 (sb (r9.1 == r10.1)) [(41, (si r9.1)), (45, (si r10.1))]), (ft 9 6 (sb (r9.1 == r10.1)) [(46, (sb (r9.1 == r10.1)))])] [[], [], [1], [0, 1, 2], [], [], [5], (.range 7), (.range 8), (.range 9)] (nl rfl) [0, 0, 1, 2, 0, 0, 1, 3, 4, 5] rfl (TK := [(7, 7)]) rfl (AllK.cons' ⟨(tk_upd (tk_upd (tk_upd tk_top rfl) rfl) rfl), (tC rfl (tC rfl (tC rfl (tC rfl (tC rfl (tC (tkO_row _) AllT.nil')))))), (fC (.inr rfl) (fC (.inr rfl) (fC (.inr rfl) (fC (.inr rfl) (fC (.inr rfl) (fC (.inr rfl) (fC (.inr rfl) (fC (.inl rfl) (fC (.inl rfl) (fC (.inl rfl) AllF.nil'))))))))))⟩ AllK.nil') (by repeat (first | refine fC ⟨?_, ?_⟩ ?_ | refine sC rfl ?_ | refine hC rfl ?_ | trivial)) ?_ ?_
     ·refine (pC ?_ (pC ?_ (pC ?_ (pC ?_ (pC ?_ (pC ?_ (pC ?_ (pC ?_ (pC ?_ (pC ?_ AllStep.nil'))))))))))
      ·intro K rest fr hv htk k
       show AWops _ x _ _ K ⟨119, (upd 119 fr 1 (rf 0 0)), _⟩
       refine s_move (d := (rf 0 0)) rfl k
      ·intro K rest fr hv htk k
       show AWops _ x _ _ K ⟨119, (upd 119 fr 3 (rf 4 0)), [(hv 0), (hv 1), (hv 2), (hv 3), (hv 4), (hv 5), (hv 6), (hv 7)]⟩
       refine s_fieldRef F.fo_43_2 (by decide) rfl k
      ·intro K rest fr hv htk k
       show AWops _ x _ _ K ⟨119, (upd 119 fr 39 (rf 4 2)), [(hv 0), (hv 1), (hv 2), (hv 3), (some (AObj.cells true (c_dossierplain_Step a0))), (hv 5), (hv 6), (hv 7)]⟩
       refine s_load1 (c' := (ct a0.Name)) F.ag_9 rfl rfl k
      ·intro K rest fr hv htk k
       show AWops _ x _ _ K ⟨119, (upd 119 (upd 119 fr 40 (st_ a0.Name)) 38 (rf 0 0)), [(o_vdisk_Disk_03 false (C.mp 2) (C.p true (.v (.pointer none))) p0), (hv 1), (om_ e_vdisk_file p0.files), (hv 3), (hv 4), (hv 5), (hv 6), (hv 7)]⟩
       refine s_call2 (ρ := [0, 2]) (br := false) (H2 := [(o_vdisk_Disk_03 false (C.mp 2) (C.p true (.v (.pointer none))) r9.2), (hv 1), (om_ e_vdisk_file r9.2.files), (hv 3), (hv 4), (hv 5), (hv 6), (hv 7)]) (d := (si r9.1)) F.ca_10 rfl rfl (ac (.one (.ref rfl)) (ac (.one .sc) an)) (ac (.cells (ac (.mp rfl) (ac .sc (ac .sc (ac .sc (ac .sc an)))))) (ac .map an)) (by decide) rfl (vdisk_Disk_Sync.meets _ p0 a0.Name r9 er9) (.inl rfl) rfl rfl k
      ·intro K rest fr hv htk k
       show AWops _ x _ _ K ⟨119, (upd 119 fr 2 (rf 1 0)), _⟩
       refine s_move (d := (rf 1 0)) rfl k
      ·intro K rest fr hv htk k
       show AWops _ x _ _ K ⟨119, (upd 119 fr 3 (rf 4 0)), [(hv 0), (hv 1), (hv 2), (hv 3), (hv 4), (hv 5), (hv 6), (hv 7)]⟩
       refine s_fieldRef F.fo_43_2 (by decide) rfl k
      ·intro K rest fr hv htk k
       show AWops _ x _ _ K ⟨119, (upd 119 fr 43 (rf 4 2)), [(hv 0), (hv 1), (hv 2), (hv 3), (some (AObj.cells true (c_dossierplain_Step a0))), (hv 5), (hv 6), (hv 7)]⟩
       refine s_load1 (c' := (ct a0.Name)) F.ag_9 rfl rfl k
      ·intro K rest fr hv htk k
       show AWops _ x _ _ K ⟨119, (upd 119 (upd 119 fr 44 (st_ a0.Name)) 42 (rf 1 0)), [(hv 0), (o_dossierref03_Disk_0 false (C.own 5 0 p1.L.length 3) p1), (hv 2), (hv 3), (hv 4), (or_ e_dossierref03_File p1.L), (hv 6), (hv 7)]⟩
       refine s_call2 (ρ := [1, 5]) (br := false) (H2 := [(hv 0), (o_dossierref03_Disk_0 false (C.own 8 0 r10.2.L.length 3) r10.2), (hv 2), (hv 3), (hv 4), none, (hv 6), (hv 7), (or_ e_dossierref03_File r10.2.L)]) (d := (si r10.1)) F.ca_39 rfl rfl (ac (.one (.ref rfl)) (ac (.one .sc) an)) (ac (.cells (ac (.own rfl) (ac .sc (ac .sc (ac .sc an))))) (ac (.cells (lend_row _)) an)) (by decide) rfl (dossierref03_Disk_Sync_39.meets _ p1 a0.Name r10 er10) (.inl rfl) (by first | rfl | (simp only [mS]; done) | (simp only [mS]; rfl)) rfl ?_
       refine AWops.weak (st' := ⟨119, (upd 119 (upd 119 (upd 119 fr 44 (st_ a0.Name)) 42 (rf 1 0)) 45 (si r10.1)), [(hv 0), (o_dossierref03_Disk_0 false (C.own 7 0 r10.2.L.length 3) r10.2), (hv 2), (hv 3), (hv 4), none, (hv 6), (or_ e_dossierref03_File r10.2.L)]⟩) (wg 4 [0, 1, 2, 3, 4, 5, 6, 8] [] hx (le_upd2 (le_ok (p := 7) (L := 8) rfl (htk 7 rfl).1) (.t (.one .sc))) (ac (oq 7 8 (htk 7 rfl) 0) (ac (.cells id (ac (.own rfl) (ac .sc (ac .sc (ac .sc an))))) (ac (oq 7 8 (htk 7 rfl) 2) (ac (oq 7 8 (htk 7 rfl) 3) (ac (oq 7 8 (htk 7 rfl) 4) (ac (.none _) (ac (oq 7 8 (htk 7 rfl) 6) (ac (.cells id (all2_row _)) an))))))))) k
      ·intro K rest fr hv htk k
       show AWops _ x _ _ K ⟨119, (upd 119 (upd 119 fr 45 (si r10.1)) 41 (si r9.1)), _⟩
       refine s_binI (v := (.bool (r9.1 == r10.1))) rfl rfl rfl k
      ·intro K rest fr hv htk k
       show AWops _ x _ _ K ⟨119, (upd 119 fr 46 (sb (r9.1 == r10.1))), _⟩
       refine s_assign (d := (sb (r9.1 == r10.1))) rfl k
     ·refine AWops.weak (st' := ⟨119, (upd 119 topF 6 (sb (r9.1 == r10.1))), [(o_vdisk_Disk_03 false (C.mp 2) (C.p true (.v (.pointer none))) r9.2), (o_dossierref03_Disk_0 false (C.own 4 0 r10.2.L.length 3) r10.2), (om_ e_vdisk_file r9.2.files), none, (or_ e_dossierref03_File r10.2.L)]⟩) (wg 4 [0, 1, 2, 3, 7] [] hx (le_upd (le_top _) (.t (.one .sc))) (ac (.cells id (ac (.mp rfl) (ac .sc (ac .sc (ac .sc (ac .sc an)))))) (ac (.cells id (ac (.own rfl) (ac .sc (ac .sc (ac .sc an))))) (ac .map (ac (.none _) (ac (.cells id (all2_row _)) an)))))) (AWops.nil (AW.ret ?_))
      obtain rfl := Option.some.inj h
      exact ⟨_, rfl, (wg 4 [0, 1, 2, 3, 4] [] rfl (le_upd (le_top _) (.t (.one .sc))) (ac (.cells id (ac (.mp rfl) (ac .sc (ac .sc (ac .sc (ac .sc an)))))) (ac (.cells id (ac (.own rfl) (ac .sc (ac .sc (ac .sc an))))) (ac .map (ac (.none _) (ac (.cells id (all2_row _)) an))))))⟩
    ·refine AW.cond_no rfl c8 (AW.seq (AW.region ?_))
     refine s_binI (v := (.bool ((IntKind.i64.wrap (Int.tmod (IntKind.u64.wrap a0.Op) 9)) == 3))) rfl rfl rfl ?_
     refine s_assign (d := (sb ((IntKind.i64.wrap (Int.tmod (IntKind.u64.wrap a0.Op) 9)) == 3))) rfl (AWops.nil ?_)
     rcases itH h with ⟨c11, h⟩ | ⟨c11, h⟩
     ·refine AW.cond_yes rfl c11 (AW.seq ?_)
      refine AW.weak (st' := ⟨119, (upd 119 (upd 119 (upd 119 topF 1 (rf 0 0)) 2 (rf 1 0)) 3 (rf 4 0)), [(o_vdisk_Disk_03 false (C.mp 2) (C.p true (.v (.pointer none))) p0), (o_dossierref03_Disk_0 false (C.own 5 0 p1.L.length 3) p1), (om_ e_vdisk_file p0.files), none, (some (AObj.cells true (c_dossierplain_Step a0))), (or_ e_dossierref03_File p1.L)]⟩) (wg 4 [0, 1, 2, 3, 4, 5] [] hx (le_upd (le_upd (le_upd (le_top _) (.t (.one (.ref rfl)))) (.t (.one (.ref rfl)))) (.t (.one (.ref rfl)))) (ac (.cells id (ac (.mp rfl) (ac .sc (ac .sc (ac .sc (ac .sc an)))))) (ac (.cells id (ac (.own rfl) (ac .sc (ac .sc (ac .sc an))))) (ac .map (ac (.none _) (ac (.cells (fun _ => rfl) (ac .sc (ac .sc (ac .sc (ac .sc (ac .same (ac .same an))))))) (ac (.cells id (all2_row _)) an))))))) ?_
      obtain ⟨r12, er12, h⟩ := bnd h
      obtain ⟨r13, er13, h⟩ := bnd h
      refine AW.draw (n := 119) (L := 8) [(ft 0 49 (rf 0 0) [(1, (rf 0 0))]), (ft 1 50 (rf 4 2) [(3, (rf 4 0))]), (2, ⟨some 51, (st_ a0.Name), [(50, (rf 4 2))], [(4, (some (AObj.cells true (c_dossierplain_Step a0))))], [], none⟩), (ft 3 52 (rf 4 3) [(3, (rf 4 0))]), (4, ⟨some 53, (st_ a0.To), [(52, (rf 4 3))], [(4, (some (AObj.cells true (c_dossierplain_Step a0))))], [], none⟩), (5, ⟨some 54, (si r12.1), [(49, (rf 0 0)), (51, (st_ a0.Name)), (53, (st_ a0.To))], [(0, (o_vdisk_Disk_03 false (C.mp 2) (C.p true (.v (.pointer none))) p0)), (2, (om_ e_vdisk_file p0.files))], [(0, (o_vdisk_Disk_03 false (C.mp 2) (C.p true (.v (.pointer none))) r12.2)), (2, (om_ e_vdisk_file r12.2.files))], none⟩), (ft 6 55 (rf 1 0) [(2, (rf 1 0))]), (ft 7 56 (rf 4 2) [(3, (rf 4 0))]), (8, ⟨some 57, (st_ a0.Name), [(56, (rf 4 2))], [(4, (some (AObj.cells true (c_dossierplain_Step a0))))], [], none⟩), (ft 9 58 (rf 4 3) [(3, (rf 4 0))]), (10, ⟨some 59, (st_ a0.To), [(58, (rf 4 3))], [(4, (some (AObj.cells true (c_dossierplain_Step a0))))], [], none⟩), (11, ⟨some 60, (si r13.1), [(55, (rf 1 0)), (57, (st_ a0.Name)), (59, (st_ a0.To))], [(1, (o_dossierref03_Disk_0 false (C.own 5 0 p1.L.length 3) p1)), (5, (or_ e_dossierref03_File p1.L))], [(1, (o_dossierref03_Disk_0 false (C.own 7 0 r13.2.L.length 3) r13.2)), (5, none), (7, (or_ e_dossierref03_File r13.2.L))], some 7⟩), (ft 12 61 (sb (r12.1 == r13.1)) [(54, (si r12.1)), (60, (si r13.1))]), (ft 13 6 (sb (r12.1 == r13.1)) [(61, (sb (r12.1 == r13.1)))])] [[], [], [1], [], [3], (.range 5), [], [], [7], [], [9], (.range 11), (.range 12), (.range 13)] (nl rfl) [0, 0, 1, 0, 1, 2, 0, 0, 1, 0, 1, 3, 4, 5] rfl (TK := [(11, 7)]) rfl (AllK.cons' ⟨(tk_upd (tk_upd (tk_upd tk_top rfl) rfl) rfl), (tC rfl (tC rfl (tC rfl (tC rfl (tC rfl (tC (tkO_row _) AllT.nil')))))), (by repeat (first | refine fC (.inl rfl) ?_ | refine fC (.inr rfl) ?_ | refine fC (.inr (by unfold tkFoot; simp only [List.all_cons, List.all_nil, tkO_row, Bool.and_true, Bool.true_and]; rfl)) ?_ | trivial))⟩ AllK.nil') (by repeat (first | refine fC ⟨?_, ?_⟩ ?_ | refine sC rfl ?_ | refine hC rfl ?_ | trivial)) ?_ ?_
      ·refine (pC ?_ (pC ?_ (pC ?_ (pC ?_ (pC ?_ (pC ?_ (pC ?_ (pC ?_ (pC ?_ (pC ?_ (pC ?_ (pC ?_ (pC ?_ (pC ?_ AllStep.nil'))))))))))))))
       ·intro K rest fr hv htk k
        show AWops _ x _ _ K ⟨119, (upd 119 fr 1 (rf 0 0)), _⟩
        refine s_move (d := (rf 0 0)) rfl k
       ·intro K rest fr hv htk k
        show AWops _ x _ _ K ⟨119, (upd 119 fr 3 (rf 4 0)), [(hv 0), (hv 1), (hv 2), (hv 3), (hv 4), (hv 5), (hv 6), (hv 7)]⟩
        refine s_fieldRef F.fo_43_2 (by decide) rfl k
       ·intro K rest fr hv htk k
        show AWops _ x _ _ K ⟨119, (upd 119 fr 50 (rf 4 2)), [(hv 0), (hv 1), (hv 2), (hv 3), (some (AObj.cells true (c_dossierplain_Step a0))), (hv 5), (hv 6), (hv 7)]⟩
        refine s_load1 (c' := (ct a0.Name)) F.ag_9 rfl rfl k
       ·intro K rest fr hv htk k
        show AWops _ x _ _ K ⟨119, (upd 119 fr 3 (rf 4 0)), [(hv 0), (hv 1), (hv 2), (hv 3), (hv 4), (hv 5), (hv 6), (hv 7)]⟩
        refine s_fieldRef F.fo_43_3 (by decide) rfl k
       ·intro K rest fr hv htk k
        show AWops _ x _ _ K ⟨119, (upd 119 fr 52 (rf 4 3)), [(hv 0), (hv 1), (hv 2), (hv 3), (some (AObj.cells true (c_dossierplain_Step a0))), (hv 5), (hv 6), (hv 7)]⟩
        refine s_load1 (c' := (ct a0.To)) F.ag_9 rfl rfl k
       ·intro K rest fr hv htk k
        show AWops _ x _ _ K ⟨119, (upd 119 (upd 119 (upd 119 fr 53 (st_ a0.To)) 51 (st_ a0.Name)) 49 (rf 0 0)), [(o_vdisk_Disk_03 false (C.mp 2) (C.p true (.v (.pointer none))) p0), (hv 1), (om_ e_vdisk_file p0.files), (hv 3), (hv 4), (hv 5), (hv 6), (hv 7)]⟩
        refine s_call2 (ρ := [0, 2]) (br := false) (H2 := [(o_vdisk_Disk_03 false (C.mp 2) (C.p true (.v (.pointer none))) r12.2), (hv 1), (om_ e_vdisk_file r12.2.files), (hv 3), (hv 4), (hv 5), (hv 6), (hv 7)]) (d := (si r12.1)) F.ca_18 rfl rfl (ac (.one (.ref rfl)) (ac (.one .sc) (ac (.one .sc) an))) (ac (.cells (ac (.mp rfl) (ac .sc (ac .sc (ac .sc (ac .sc an)))))) (ac .map an)) (by decide) rfl (vdisk_Disk_Rename.meets _ p0 a0.Name a0.To r12 er12) (.inl rfl) rfl rfl k
       ·intro K rest fr hv htk k
        show AWops _ x _ _ K ⟨119, (upd 119 fr 2 (rf 1 0)), _⟩
        refine s_move (d := (rf 1 0)) rfl k
       ·intro K rest fr hv htk k
        show AWops _ x _ _ K ⟨119, (upd 119 fr 3 (rf 4 0)), [(hv 0), (hv 1), (hv 2), (hv 3), (hv 4), (hv 5), (hv 6), (hv 7)]⟩
        refine s_fieldRef F.fo_43_2 (by decide) rfl k
       ·intro K rest fr hv htk k
        show AWops _ x _ _ K ⟨119, (upd 119 fr 56 (rf 4 2)), [(hv 0), (hv 1), (hv 2), (hv 3), (some (AObj.cells true (c_dossierplain_Step a0))), (hv 5), (hv 6), (hv 7)]⟩
        refine s_load1 (c' := (ct a0.Name)) F.ag_9 rfl rfl k
       ·intro K rest fr hv htk k
        show AWops _ x _ _ K ⟨119, (upd 119 fr 3 (rf 4 0)), [(hv 0), (hv 1), (hv 2), (hv 3), (hv 4), (hv 5), (hv 6), (hv 7)]⟩
        refine s_fieldRef F.fo_43_3 (by decide) rfl k
       ·intro K rest fr hv htk k
        show AWops _ x _ _ K ⟨119, (upd 119 fr 58 (rf 4 3)), [(hv 0), (hv 1), (hv 2), (hv 3), (some (AObj.cells true (c_dossierplain_Step a0))), (hv 5), (hv 6), (hv 7)]⟩
        refine s_load1 (c' := (ct a0.To)) F.ag_9 rfl rfl k
       ·intro K rest fr hv htk k
        show AWops _ x _ _ K ⟨119, (upd 119 (upd 119 (upd 119 fr 59 (st_ a0.To)) 57 (st_ a0.Name)) 55 (rf 1 0)), [(hv 0), (o_dossierref03_Disk_0 false (C.own 5 0 p1.L.length 3) p1), (hv 2), (hv 3), (hv 4), (or_ e_dossierref03_File p1.L), (hv 6), (hv 7)]⟩
        refine s_call2 (ρ := [1, 5]) (br := false) (H2 := [(hv 0), (o_dossierref03_Disk_0 false (C.own 8 0 r13.2.L.length 3) r13.2), (hv 2), (hv 3), (hv 4), none, (hv 6), (hv 7), (or_ e_dossierref03_File r13.2.L)]) (d := (si r13.1)) F.ca_40 rfl rfl (ac (.one (.ref rfl)) (ac (.one .sc) (ac (.one .sc) an))) (ac (.cells (ac (.own rfl) (ac .sc (ac .sc (ac .sc an))))) (ac (.cells (lend_row _)) an)) (by decide) rfl (dossierref03_Disk_Rename_40.meets _ p1 a0.Name a0.To r13 er13) (.inl rfl) (by first | rfl | (simp only [mS]; done) | (simp only [mS]; rfl)) rfl ?_
        refine AWops.weak (st' := ⟨119, (upd 119 (upd 119 (upd 119 (upd 119 fr 59 (st_ a0.To)) 57 (st_ a0.Name)) 55 (rf 1 0)) 60 (si r13.1)), [(hv 0), (o_dossierref03_Disk_0 false (C.own 7 0 r13.2.L.length 3) r13.2), (hv 2), (hv 3), (hv 4), none, (hv 6), (or_ e_dossierref03_File r13.2.L)]⟩) (wg 4 [0, 1, 2, 3, 4, 5, 6, 8] [] hx (le_upd2 (le_ok (p := 7) (L := 8) rfl (htk 7 rfl).1) (.t (.one .sc))) (ac (oq 7 8 (htk 7 rfl) 0) (ac (.cells id (ac (.own rfl) (ac .sc (ac .sc (ac .sc an))))) (ac (oq 7 8 (htk 7 rfl) 2) (ac (oq 7 8 (htk 7 rfl) 3) (ac (oq 7 8 (htk 7 rfl) 4) (ac (.none _) (ac (oq 7 8 (htk 7 rfl) 6) (ac (.cells id (all2_row _)) an))))))))) k
       ·intro K rest fr hv htk k
        show AWops _ x _ _ K ⟨119, (upd 119 (upd 119 fr 60 (si r13.1)) 54 (si r12.1)), _⟩
        refine s_binI (v := (.bool (r12.1 == r13.1))) rfl rfl rfl k
       ·intro K rest fr hv htk k
        show AWops _ x _ _ K ⟨119, (upd 119 fr 61 (sb (r12.1 == r13.1))), _⟩
        refine s_assign (d := (sb (r12.1 == r13.1))) rfl k
      ·refine AWops.weak (st' := ⟨119, (upd 119 topF 6 (sb (r12.1 == r13.1))), [(o_vdisk_Disk_03 false (C.mp 2) (C.p true (.v (.pointer none))) r12.2), (o_dossierref03_Disk_0 false (C.own 4 0 r13.2.L.length 3) r13.2), (om_ e_vdisk_file r12.2.files), none, (or_ e_dossierref03_File r13.2.L)]⟩) (wg 4 [0, 1, 2, 3, 7] [] hx (le_upd (le_top _) (.t (.one .sc))) (ac (.cells id (ac (.mp rfl) (ac .sc (ac .sc (ac .sc (ac .sc an)))))) (ac (.cells id (ac (.own rfl) (ac .sc (ac .sc (ac .sc an))))) (ac .map (ac (.none _) (ac (.cells id (all2_row _)) an)))))) (AWops.nil (AW.ret ?_))
       obtain rfl := Option.some.inj h
       exact ⟨_, rfl, (wg 4 [0, 1, 2, 3, 4] [] rfl (le_upd (le_top _) (.t (.one .sc))) (ac (.cells id (ac (.mp rfl) (ac .sc (ac .sc (ac .sc (ac .sc an)))))) (ac (.cells id (ac (.own rfl) (ac .sc (ac .sc (ac .sc an))))) (ac .map (ac (.none _) (ac (.cells id (all2_row _)) an))))))⟩
     ·refine AW.cond_no rfl c11 (AW.seq (AW.region ?_))
      refine s_binI (v := (.bool ((IntKind.i64.wrap (Int.tmod (IntKind.u64.wrap a0.Op) 9)) == 4))) rfl rfl rfl ?_
      refine s_assign (d := (sb ((IntKind.i64.wrap (Int.tmod (IntKind.u64.wrap a0.Op) 9)) == 4))) rfl (AWops.nil ?_)
      rcases itH h with ⟨c14, h⟩ | ⟨c14, h⟩
      ·refine AW.cond_yes rfl c14 (AW.seq ?_)
       refine AW.weak (st' := ⟨119, (upd 119 (upd 119 (upd 119 topF 1 (rf 0 0)) 2 (rf 1 0)) 3 (rf 4 0)), [(o_vdisk_Disk_03 false (C.mp 2) (C.p true (.v (.pointer none))) p0), (o_dossierref03_Disk_0 false (C.own 5 0 p1.L.length 3) p1), (om_ e_vdisk_file p0.files), none, (some (AObj.cells true (c_dossierplain_Step a0))), (or_ e_dossierref03_File p1.L)]⟩) (wg 4 [0, 1, 2, 3, 4, 5] [] hx (le_upd (le_upd (le_upd (le_top _) (.t (.one (.ref rfl)))) (.t (.one (.ref rfl)))) (.t (.one (.ref rfl)))) (ac (.cells id (ac (.mp rfl) (ac .sc (ac .sc (ac .sc (ac .sc an)))))) (ac (.cells id (ac (.own rfl) (ac .sc (ac .sc (ac .sc an))))) (ac .map (ac (.none _) (ac (.cells (fun _ => rfl) (ac .sc (ac .sc (ac .sc (ac .sc (ac .same (ac .same an))))))) (ac (.cells id (all2_row _)) an))))))) ?_
       obtain ⟨r15, er15, h⟩ := bnd h
       obtain ⟨r16, er16, h⟩ := bnd h
       refine AW.draw (n := 119) (L := 8) [(ft 0 64 (rf 0 0) [(1, (rf 0 0))]), (ft 1 65 (rf 4 2) [(3, (rf 4 0))]), (2, ⟨some 66, (st_ a0.Name), [(65, (rf 4 2))], [(4, (some (AObj.cells true (c_dossierplain_Step a0))))], [], none⟩), (ft 3 67 (rf 4 1) [(3, (rf 4 0))]), (4, ⟨some 68, (si a0.N), [(67, (rf 4 1))], [(4, (some (AObj.cells true (c_dossierplain_Step a0))))], [], none⟩), (5, ⟨some 69, (si r15.1), [(64, (rf 0 0)), (66, (st_ a0.Name)), (68, (si a0.N))], [(0, (o_vdisk_Disk_03 false (C.mp 2) (C.p true (.v (.pointer none))) p0)), (2, (om_ e_vdisk_file p0.files))], [(0, (o_vdisk_Disk_03 false (C.mp 2) (C.p true (.v (.pointer none))) r15.2)), (2, (om_ e_vdisk_file r15.2.files))], none⟩), (ft 6 70 (rf 1 0) [(2, (rf 1 0))]), (ft 7 71 (rf 4 2) [(3, (rf 4 0))]), (8, ⟨some 72, (st_ a0.Name), [(71, (rf 4 2))], [(4, (some (AObj.cells true (c_dossierplain_Step a0))))], [], none⟩), (ft 9 73 (rf 4 1) [(3, (rf 4 0))]), (10, ⟨some 74, (si a0.N), [(73, (rf 4 1))], [(4, (some (AObj.cells true (c_dossierplain_Step a0))))], [], none⟩), (11, ⟨some 75, (si r16.1), [(70, (rf 1 0)), (72, (st_ a0.Name)), (74, (si a0.N))], [(1, (o_dossierref03_Disk_0 false (C.own 5 0 p1.L.length 3) p1)), (5, (or_ e_dossierref03_File p1.L))], [(1, (o_dossierref03_Disk_0 false (C.own 7 0 r16.2.L.length 3) r16.2)), (5, none), (7, (or_ e_dossierref03_File r16.2.L))], some 7⟩), (ft 12 76 (sb (r15.1 == r16.1)) [(69, (si r15.1)), (75, (si r16.1))]), (ft 13 6 (sb (r15.1 == r16.1)) [(76, (sb (r15.1 == r16.1)))])] [[], [], [1], [], [3], (.range 5), [], [], [7], [], [9], (.range 11), (.range 12), (.range 13)] (nl rfl) [0, 0, 1, 0, 1, 2, 0, 0, 1, 0, 1, 3, 4, 5] rfl (TK := [(11, 7)]) rfl (AllK.cons' ⟨(tk_upd (tk_upd (tk_upd tk_top rfl) rfl) rfl), (tC rfl (tC rfl (tC rfl (tC rfl (tC rfl (tC (tkO_row _) AllT.nil')))))), (by repeat (first | refine fC (.inl rfl) ?_ | refine fC (.inr rfl) ?_ | refine fC (.inr (by unfold tkFoot; simp only [List.all_cons, List.all_nil, tkO_row, Bool.and_true, Bool.true_and]; rfl)) ?_ | trivial))⟩ AllK.nil') (by repeat (first | refine fC ⟨?_, ?_⟩ ?_ | refine sC rfl ?_ | refine hC rfl ?_ | trivial)) ?_ ?_
       ·refine (pC ?_ (pC ?_ (pC ?_ (pC ?_ (pC ?_ (pC ?_ (pC ?_ (pC ?_ (pC ?_ (pC ?_ (pC ?_ (pC ?_ (pC ?_ (pC ?_ AllStep.nil'))))))))))))))
        ·intro K rest fr hv htk k
         show AWops _ x _ _ K ⟨119, (upd 119 fr 1 (rf 0 0)), _⟩
         refine s_move (d := (rf 0 0)) rfl k
        ·intro K rest fr hv htk k
         show AWops _ x _ _ K ⟨119, (upd 119 fr 3 (rf 4 0)), [(hv 0), (hv 1), (hv 2), (hv 3), (hv 4), (hv 5), (hv 6), (hv 7)]⟩
         refine s_fieldRef F.fo_43_2 (by decide) rfl k
        ·intro K rest fr hv htk k
         show AWops _ x _ _ K ⟨119, (upd 119 fr 65 (rf 4 2)), [(hv 0), (hv 1), (hv 2), (hv 3), (some (AObj.cells true (c_dossierplain_Step a0))), (hv 5), (hv 6), (hv 7)]⟩
         refine s_load1 (c' := (ct a0.Name)) F.ag_9 rfl rfl k
        ·intro K rest fr hv htk k
         show AWops _ x _ _ K ⟨119, (upd 119 fr 3 (rf 4 0)), [(hv 0), (hv 1), (hv 2), (hv 3), (hv 4), (hv 5), (hv 6), (hv 7)]⟩
         refine s_fieldRef F.fo_43_1 (by decide) rfl k
        ·intro K rest fr hv htk k
         show AWops _ x _ _ K ⟨119, (upd 119 fr 67 (rf 4 1)), [(hv 0), (hv 1), (hv 2), (hv 3), (some (AObj.cells true (c_dossierplain_Step a0))), (hv 5), (hv 6), (hv 7)]⟩
         refine s_load1 (c' := (ci a0.N)) F.ag_3 rfl rfl k
        ·intro K rest fr hv htk k
         show AWops _ x _ _ K ⟨119, (upd 119 (upd 119 (upd 119 fr 68 (si a0.N)) 66 (st_ a0.Name)) 64 (rf 0 0)), [(o_vdisk_Disk_03 false (C.mp 2) (C.p true (.v (.pointer none))) p0), (hv 1), (om_ e_vdisk_file p0.files), (hv 3), (hv 4), (hv 5), (hv 6), (hv 7)]⟩
         refine s_call2 (ρ := [0, 2]) (br := false) (H2 := [(o_vdisk_Disk_03 false (C.mp 2) (C.p true (.v (.pointer none))) r15.2), (hv 1), (om_ e_vdisk_file r15.2.files), (hv 3), (hv 4), (hv 5), (hv 6), (hv 7)]) (d := (si r15.1)) F.ca_19 rfl rfl (ac (.one (.ref rfl)) (ac (.one .sc) (ac (.one .sc) an))) (ac (.cells (ac (.mp rfl) (ac .sc (ac .sc (ac .sc (ac .sc an)))))) (ac .map an)) (by decide) rfl (vdisk_Disk_Truncate.meets _ p0 a0.Name a0.N r15 er15) (.inl rfl) rfl rfl k
        ·intro K rest fr hv htk k
         show AWops _ x _ _ K ⟨119, (upd 119 fr 2 (rf 1 0)), _⟩
         refine s_move (d := (rf 1 0)) rfl k
        ·intro K rest fr hv htk k
         show AWops _ x _ _ K ⟨119, (upd 119 fr 3 (rf 4 0)), [(hv 0), (hv 1), (hv 2), (hv 3), (hv 4), (hv 5), (hv 6), (hv 7)]⟩
         refine s_fieldRef F.fo_43_2 (by decide) rfl k
        ·intro K rest fr hv htk k
         show AWops _ x _ _ K ⟨119, (upd 119 fr 71 (rf 4 2)), [(hv 0), (hv 1), (hv 2), (hv 3), (some (AObj.cells true (c_dossierplain_Step a0))), (hv 5), (hv 6), (hv 7)]⟩
         refine s_load1 (c' := (ct a0.Name)) F.ag_9 rfl rfl k
        ·intro K rest fr hv htk k
         show AWops _ x _ _ K ⟨119, (upd 119 fr 3 (rf 4 0)), [(hv 0), (hv 1), (hv 2), (hv 3), (hv 4), (hv 5), (hv 6), (hv 7)]⟩
         refine s_fieldRef F.fo_43_1 (by decide) rfl k
        ·intro K rest fr hv htk k
         show AWops _ x _ _ K ⟨119, (upd 119 fr 73 (rf 4 1)), [(hv 0), (hv 1), (hv 2), (hv 3), (some (AObj.cells true (c_dossierplain_Step a0))), (hv 5), (hv 6), (hv 7)]⟩
         refine s_load1 (c' := (ci a0.N)) F.ag_3 rfl rfl k
        ·intro K rest fr hv htk k
         show AWops _ x _ _ K ⟨119, (upd 119 (upd 119 (upd 119 fr 74 (si a0.N)) 72 (st_ a0.Name)) 70 (rf 1 0)), [(hv 0), (o_dossierref03_Disk_0 false (C.own 5 0 p1.L.length 3) p1), (hv 2), (hv 3), (hv 4), (or_ e_dossierref03_File p1.L), (hv 6), (hv 7)]⟩
         refine s_call2 (ρ := [1, 5]) (br := false) (H2 := [(hv 0), (o_dossierref03_Disk_0 false (C.own 8 0 r16.2.L.length 3) r16.2), (hv 2), (hv 3), (hv 4), none, (hv 6), (hv 7), (or_ e_dossierref03_File r16.2.L)]) (d := (si r16.1)) F.ca_41 rfl rfl (ac (.one (.ref rfl)) (ac (.one .sc) (ac (.one .sc) an))) (ac (.cells (ac (.own rfl) (ac .sc (ac .sc (ac .sc an))))) (ac (.cells (lend_row _)) an)) (by decide) rfl (dossierref03_Disk_Truncate_41.meets _ p1 a0.Name a0.N r16 er16) (.inl rfl) (by first | rfl | (simp only [mS]; done) | (simp only [mS]; rfl)) rfl ?_
         refine AWops.weak (st' := ⟨119, (upd 119 (upd 119 (upd 119 (upd 119 fr 74 (si a0.N)) 72 (st_ a0.Name)) 70 (rf 1 0)) 75 (si r16.1)), [(hv 0), (o_dossierref03_Disk_0 false (C.own 7 0 r16.2.L.length 3) r16.2), (hv 2), (hv 3), (hv 4), none, (hv 6), (or_ e_dossierref03_File r16.2.L)]⟩) (wg 4 [0, 1, 2, 3, 4, 5, 6, 8] [] hx (le_upd2 (le_ok (p := 7) (L := 8) rfl (htk 7 rfl).1) (.t (.one .sc))) (ac (oq 7 8 (htk 7 rfl) 0) (ac (.cells id (ac (.own rfl) (ac .sc (ac .sc (ac .sc an))))) (ac (oq 7 8 (htk 7 rfl) 2) (ac (oq 7 8 (htk 7 rfl) 3) (ac (oq 7 8 (htk 7 rfl) 4) (ac (.none _) (ac (oq 7 8 (htk 7 rfl) 6) (ac (.cells id (all2_row _)) an))))))))) k
        ·intro K rest fr hv htk k
         show AWops _ x _ _ K ⟨119, (upd 119 (upd 119 fr 75 (si r16.1)) 69 (si r15.1)), _⟩
         refine s_binI (v := (.bool (r15.1 == r16.1))) rfl rfl rfl k
        ·intro K rest fr hv htk k
         show AWops _ x _ _ K ⟨119, (upd 119 fr 76 (sb (r15.1 == r16.1))), _⟩
         refine s_assign (d := (sb (r15.1 == r16.1))) rfl k
       ·refine AWops.weak (st' := ⟨119, (upd 119 topF 6 (sb (r15.1 == r16.1))), [(o_vdisk_Disk_03 false (C.mp 2) (C.p true (.v (.pointer none))) r15.2), (o_dossierref03_Disk_0 false (C.own 4 0 r16.2.L.length 3) r16.2), (om_ e_vdisk_file r15.2.files), none, (or_ e_dossierref03_File r16.2.L)]⟩) (wg 4 [0, 1, 2, 3, 7] [] hx (le_upd (le_top _) (.t (.one .sc))) (ac (.cells id (ac (.mp rfl) (ac .sc (ac .sc (ac .sc (ac .sc an)))))) (ac (.cells id (ac (.own rfl) (ac .sc (ac .sc (ac .sc an))))) (ac .map (ac (.none _) (ac (.cells id (all2_row _)) an)))))) (AWops.nil (AW.ret ?_))
        obtain rfl := Option.some.inj h
        exact ⟨_, rfl, (wg 4 [0, 1, 2, 3, 4] [] rfl (le_upd (le_top _) (.t (.one .sc))) (ac (.cells id (ac (.mp rfl) (ac .sc (ac .sc (ac .sc (ac .sc an)))))) (ac (.cells id (ac (.own rfl) (ac .sc (ac .sc (ac .sc an))))) (ac .map (ac (.none _) (ac (.cells id (all2_row _)) an))))))⟩
      ·refine AW.cond_no rfl c14 (AW.seq (AW.region ?_))
       refine s_binI (v := (.bool ((IntKind.i64.wrap (Int.tmod (IntKind.u64.wrap a0.Op) 9)) == 5))) rfl rfl rfl ?_
       refine s_assign (d := (sb ((IntKind.i64.wrap (Int.tmod (IntKind.u64.wrap a0.Op) 9)) == 5))) rfl (AWops.nil ?_)
       rcases itH h with ⟨c17, h⟩ | ⟨c17, h⟩
       ·refine AW.cond_yes rfl c17 (AW.seq ?_)
        refine AW.weak (st' := ⟨119, (upd 119 (upd 119 (upd 119 topF 1 (rf 0 0)) 2 (rf 1 0)) 3 (rf 4 0)), [(o_vdisk_Disk_03 false (C.mp 2) (C.p true (.v (.pointer none))) p0), (o_dossierref03_Disk_0 false (C.own 5 0 p1.L.length 3) p1), (om_ e_vdisk_file p0.files), none, (some (AObj.cells true (c_dossierplain_Step a0))), (or_ e_dossierref03_File p1.L)]⟩) (wg 4 [0, 1, 2, 3, 4, 5] [] hx (le_upd (le_upd (le_upd (le_top _) (.t (.one (.ref rfl)))) (.t (.one (.ref rfl)))) (.t (.one (.ref rfl)))) (ac (.cells id (ac (.mp rfl) (ac .sc (ac .sc (ac .sc (ac .sc an)))))) (ac (.cells id (ac (.own rfl) (ac .sc (ac .sc (ac .sc an))))) (ac .map (ac (.none _) (ac (.cells (fun _ => rfl) (ac .sc (ac .sc (ac .sc (ac .sc (ac .same (ac .same an))))))) (ac (.cells id (all2_row _)) an))))))) ?_
        obtain ⟨r18, er18, h⟩ := bnd h
        obtain ⟨r19, er19, h⟩ := bnd h
        refine AW.draw (n := 119) (L := 8) [(ft 0 79 (rf 0 0) [(1, (rf 0 0))]), (ft 1 80 (rf 4 2) [(3, (rf 4 0))]), (2, ⟨some 81, (st_ a0.Name), [(80, (rf 4 2))], [(4, (some (AObj.cells true (c_dossierplain_Step a0))))], [], none⟩), (3, ⟨some 82, (si r18.1), [(79, (rf 0 0)), (81, (st_ a0.Name))], [(0, (o_vdisk_Disk_03 false (C.mp 2) (C.p true (.v (.pointer none))) p0)), (2, (om_ e_vdisk_file p0.files))], [(0, (o_vdisk_Disk_03 false (C.mp 2) (C.p true (.v (.pointer none))) r18.2)), (2, (om_ e_vdisk_file r18.2.files))], none⟩), (ft 4 83 (rf 1 0) [(2, (rf 1 0))]), (ft 5 84 (rf 4 2) [(3, (rf 4 0))]), (6, ⟨some 85, (st_ a0.Name), [(84, (rf 4 2))], [(4, (some (AObj.cells true (c_dossierplain_Step a0))))], [], none⟩), (7, ⟨some 86, (si r19.1), [(83, (rf 1 0)), (85, (st_ a0.Name))], [(1, (o_dossierref03_Disk_0 false (C.own 5 0 p1.L.length 3) p1)), (5, (or_ e_dossierref03_File p1.L))], [(1, (o_dossierref03_Disk_0 false (C.own 7 0 r19.2.L.length 3) r19.2)), (5, none), (7, (or_ e_dossierref03_File r19.2.L))], some 7⟩), (ft 8 87 (sb (r18.1 == r19.1)) [(82, (si r18.1)), (86, (si r19.1))]), (ft 9 6 (sb (r18.1 == r19.1)) [(87, (sb (r18.1 == r19.1)))])] [[], [], [1], [0, 1, 2], [], [], [5], (.range 7), (.range 8), (.range 9)] (nl rfl) [0, 0, 1, 2, 0, 0, 1, 3, 4, 5] rfl (TK := [(7, 7)]) rfl (AllK.cons' ⟨(tk_upd (tk_upd (tk_upd tk_top rfl) rfl) rfl), (tC rfl (tC rfl (tC rfl (tC rfl (tC rfl (tC (tkO_row _) AllT.nil')))))), (fC (.inr rfl) (fC (.inr rfl) (fC (.inr rfl) (fC (.inr rfl) (fC (.inr rfl) (fC (.inr rfl) (fC (.inr rfl) (fC (.inl rfl) (fC (.inl rfl) (fC (.inl rfl) AllF.nil'))))))))))⟩ AllK.nil') (by repeat (first | refine fC ⟨?_, ?_⟩ ?_ | refine sC rfl ?_ | refine hC rfl ?_ | trivial)) ?_ ?_
        ·refine (pC ?_ (pC ?_ (pC ?_ (pC ?_ (pC ?_ (pC ?_ (pC ?_ (pC ?_ (pC ?_ (pC ?_ AllStep.nil'))))))))))
         ·intro K rest fr hv htk k
          show AWops _ x _ _ K ⟨119, (upd 119 fr 1 (rf 0 0)), _⟩
          refine s_move (d := (rf 0 0)) rfl k
         ·intro K rest fr hv htk k
          show AWops _ x _ _ K ⟨119, (upd 119 fr 3 (rf 4 0)), [(hv 0), (hv 1), (hv 2), (hv 3), (hv 4), (hv 5), (hv 6), (hv 7)]⟩
          refine s_fieldRef F.fo_43_2 (by decide) rfl k
         ·intro K rest fr hv htk k
          show AWops _ x _ _ K ⟨119, (upd 119 fr 80 (rf 4 2)), [(hv 0), (hv 1), (hv 2), (hv 3), (some (AObj.cells true (c_dossierplain_Step a0))), (hv 5), (hv 6), (hv 7)]⟩
          refine s_load1 (c' := (ct a0.Name)) F.ag_9 rfl rfl k
         ·intro K rest fr hv htk k
          show AWops _ x _ _ K ⟨119, (upd 119 (upd 119 fr 81 (st_ a0.Name)) 79 (rf 0 0)), [(o_vdisk_Disk_03 false (C.mp 2) (C.p true (.v (.pointer none))) p0), (hv 1), (om_ e_vdisk_file p0.files), (hv 3), (hv 4), (hv 5), (hv 6), (hv 7)]⟩
          refine s_call2 (ρ := [0, 2]) (br := false) (H2 := [(o_vdisk_Disk_03 false (C.mp 2) (C.p true (.v (.pointer none))) r18.2), (hv 1), (om_ e_vdisk_file r18.2.files), (hv 3), (hv 4), (hv 5), (hv 6), (hv 7)]) (d := (si r18.1)) F.ca_20 rfl rfl (ac (.one (.ref rfl)) (ac (.one .sc) an)) (ac (.cells (ac (.mp rfl) (ac .sc (ac .sc (ac .sc (ac .sc an)))))) (ac .map an)) (by decide) rfl (vdisk_Disk_Remove.meets _ p0 a0.Name r18 er18) (.inl rfl) rfl rfl k
         ·intro K rest fr hv htk k
          show AWops _ x _ _ K ⟨119, (upd 119 fr 2 (rf 1 0)), _⟩
          refine s_move (d := (rf 1 0)) rfl k
         ·intro K rest fr hv htk k
          show AWops _ x _ _ K ⟨119, (upd 119 fr 3 (rf 4 0)), [(hv 0), (hv 1), (hv 2), (hv 3), (hv 4), (hv 5), (hv 6), (hv 7)]⟩
          refine s_fieldRef F.fo_43_2 (by decide) rfl k
         ·intro K rest fr hv htk k
          show AWops _ x _ _ K ⟨119, (upd 119 fr 84 (rf 4 2)), [(hv 0), (hv 1), (hv 2), (hv 3), (some (AObj.cells true (c_dossierplain_Step a0))), (hv 5), (hv 6), (hv 7)]⟩
          refine s_load1 (c' := (ct a0.Name)) F.ag_9 rfl rfl k
         ·intro K rest fr hv htk k
          show AWops _ x _ _ K ⟨119, (upd 119 (upd 119 fr 85 (st_ a0.Name)) 83 (rf 1 0)), [(hv 0), (o_dossierref03_Disk_0 false (C.own 5 0 p1.L.length 3) p1), (hv 2), (hv 3), (hv 4), (or_ e_dossierref03_File p1.L), (hv 6), (hv 7)]⟩
          refine s_call2 (ρ := [1, 5]) (br := false) (H2 := [(hv 0), (o_dossierref03_Disk_0 false (C.own 8 0 r19.2.L.length 3) r19.2), (hv 2), (hv 3), (hv 4), none, (hv 6), (hv 7), (or_ e_dossierref03_File r19.2.L)]) (d := (si r19.1)) F.ca_42 rfl rfl (ac (.one (.ref rfl)) (ac (.one .sc) an)) (ac (.cells (ac (.own rfl) (ac .sc (ac .sc (ac .sc an))))) (ac (.cells (lend_row _)) an)) (by decide) rfl (dossierref03_Disk_Remove_42.meets _ p1 a0.Name r19 er19) (.inl rfl) (by first | rfl | (simp only [mS]; done) | (simp only [mS]; rfl)) rfl ?_
          refine AWops.weak (st' := ⟨119, (upd 119 (upd 119 (upd 119 fr 85 (st_ a0.Name)) 83 (rf 1 0)) 86 (si r19.1)), [(hv 0), (o_dossierref03_Disk_0 false (C.own 7 0 r19.2.L.length 3) r19.2), (hv 2), (hv 3), (hv 4), none, (hv 6), (or_ e_dossierref03_File r19.2.L)]⟩) (wg 4 [0, 1, 2, 3, 4, 5, 6, 8] [] hx (le_upd2 (le_ok (p := 7) (L := 8) rfl (htk 7 rfl).1) (.t (.one .sc))) (ac (oq 7 8 (htk 7 rfl) 0) (ac (.cells id (ac (.own rfl) (ac .sc (ac .sc (ac .sc an))))) (ac (oq 7 8 (htk 7 rfl) 2) (ac (oq 7 8 (htk 7 rfl) 3) (ac (oq 7 8 (htk 7 rfl) 4) (ac (.none _) (ac (oq 7 8 (htk 7 rfl) 6) (ac (.cells id (all2_row _)) an))))))))) k
         ·intro K rest fr hv htk k
          show AWops _ x _ _ K ⟨119, (upd 119 (upd 119 fr 86 (si r19.1)) 82 (si r18.1)), _⟩
          refine s_binI (v := (.bool (r18.1 == r19.1))) rfl rfl rfl k
         ·intro K rest fr hv htk k
          show AWops _ x _ _ K ⟨119, (upd 119 fr 87 (sb (r18.1 == r19.1))), _⟩
          refine s_assign (d := (sb (r18.1 == r19.1))) rfl k
        ·refine AWops.weak (st' := ⟨119, (upd 119 topF 6 (sb (r18.1 == r19.1))), [(o_vdisk_Disk_03 false (C.mp 2) (C.p true (.v (.pointer none))) r18.2), (o_dossierref03_Disk_0 false (C.own 4 0 r19.2.L.length 3) r19.2), (om_ e_vdisk_file r18.2.files), none, (or_ e_dossierref03_File r19.2.L)]⟩) (wg 4 [0, 1, 2, 3, 7] [] hx (le_upd (le_top _) (.t (.one .sc))) (ac (.cells id (ac (.mp rfl) (ac .sc (ac .sc (ac .sc (ac .sc an)))))) (ac (.cells id (ac (.own rfl) (ac .sc (ac .sc (ac .sc an))))) (ac .map (ac (.none _) (ac (.cells id (all2_row _)) an)))))) (AWops.nil (AW.ret ?_))
         obtain rfl := Option.some.inj h
         exact ⟨_, rfl, (wg 4 [0, 1, 2, 3, 4] [] rfl (le_upd (le_top _) (.t (.one .sc))) (ac (.cells id (ac (.mp rfl) (ac .sc (ac .sc (ac .sc (ac .sc an)))))) (ac (.cells id (ac (.own rfl) (ac .sc (ac .sc (ac .sc an))))) (ac .map (ac (.none _) (ac (.cells id (all2_row _)) an))))))⟩
       ·refine AW.cond_no rfl c17 (AW.seq (AW.region ?_))
        refine s_binI (v := (.bool ((IntKind.i64.wrap (Int.tmod (IntKind.u64.wrap a0.Op) 9)) == 6))) rfl rfl rfl ?_
        refine s_assign (d := (sb ((IntKind.i64.wrap (Int.tmod (IntKind.u64.wrap a0.Op) 9)) == 6))) rfl (AWops.nil ?_)
        rcases itH h with ⟨c20, h⟩ | ⟨c20, h⟩
        ·refine AW.cond_yes rfl c20 (AW.seq ?_)
         refine AW.weak (st' := ⟨119, (upd 119 (upd 119 (upd 119 topF 1 (rf 0 0)) 2 (rf 1 0)) 3 (rf 4 0)), [(o_vdisk_Disk_03 false (C.mp 2) (C.p true (.v (.pointer none))) p0), (o_dossierref03_Disk_0 false (C.own 5 0 p1.L.length 3) p1), (om_ e_vdisk_file p0.files), none, (some (AObj.cells true (c_dossierplain_Step a0))), (or_ e_dossierref03_File p1.L)]⟩) (wg 4 [0, 1, 2, 3, 4, 5] [] hx (le_upd (le_upd (le_upd (le_top _) (.t (.one (.ref rfl)))) (.t (.one (.ref rfl)))) (.t (.one (.ref rfl)))) (ac (.cells id (ac (.mp rfl) (ac .sc (ac .sc (ac .sc (ac .sc an)))))) (ac (.cells id (ac (.own rfl) (ac .sc (ac .sc (ac .sc an))))) (ac .map (ac (.none _) (ac (.cells (fun _ => rfl) (ac .sc (ac .sc (ac .sc (ac .sc (ac .same (ac .same an))))))) (ac (.cells id (all2_row _)) an))))))) ?_
         obtain ⟨r21, er21, h⟩ := bnd h
         rcases optH h with ⟨c22, h⟩ | ⟨y23, c22, h⟩
         ·obtain ⟨r24, er24, h⟩ := bnd h
          refine AW.draw (n := 119) (L := 8) [(ft 0 90 (rf 0 0) [(1, (rf 0 0))]), (ft 1 91 (rf 4 1) [(3, (rf 4 0))]), (2, ⟨some 92, (si a0.N), [(91, (rf 4 1))], [(4, (some (AObj.cells true (c_dossierplain_Step a0))))], [], none⟩), (3, ⟨some 93, (si r21.1), [(90, (rf 0 0)), (92, (si a0.N))], [(0, (o_vdisk_Disk_03 false (C.mp 2) (C.p true (.v (.pointer none))) p0)), (2, (om_ e_vdisk_file p0.files))], [(0, (o_vdisk_Disk_03 false (C.mp 2) (C.p true (.v (.pointer none))) r21.2.1)), (2, (om_ e_vdisk_file r21.2.1.files))], none⟩), (ft 4 94 (rf 1 0) [(2, (rf 1 0))]), (ft 5 95 (rf 4 1) [(3, (rf 4 0))]), (6, ⟨some 96, (si a0.N), [(95, (rf 4 1))], [(4, (some (AObj.cells true (c_dossierplain_Step a0))))], [], none⟩), (7, ⟨some 97, (si r24.1), [(94, (rf 1 0)), (96, (si a0.N))], [(1, (o_dossierref03_Disk_0 false (C.own 5 0 p1.L.length 3) p1)), (5, (or_ e_dossierref03_File p1.L))], [(1, (o_dossierref03_Disk_0 false (C.own 5 0 r24.2.L.length 3) r24.2)), (5, (or_ e_dossierref03_File r24.2.L))], none⟩), (ft 8 98 (sb (r21.1 == r24.1)) [(93, (si r21.1)), (97, (si r24.1))]), (ft 9 6 (sb (r21.1 == r24.1)) [(98, (sb (r21.1 == r24.1)))])] [[], [], [1], [0, 1, 2], [], [], [5], (.range 7), (.range 8), (.range 9)] (nl rfl) [0, 0, 1, 2, 0, 0, 1, 3, 4, 5] rfl (TK := []) rfl AllK.nil' (by repeat (first | refine fC ⟨?_, ?_⟩ ?_ | refine sC rfl ?_ | refine hC rfl ?_ | trivial)) ?_ ?_
          ·refine (pC ?_ (pC ?_ (pC ?_ (pC ?_ (pC ?_ (pC ?_ (pC ?_ (pC ?_ (pC ?_ (pC ?_ AllStep.nil'))))))))))
           ·intro K rest fr hv htk k
            show AWops _ x _ _ K ⟨119, (upd 119 fr 1 (rf 0 0)), _⟩
            refine s_move (d := (rf 0 0)) rfl k
           ·intro K rest fr hv htk k
            show AWops _ x _ _ K ⟨119, (upd 119 fr 3 (rf 4 0)), [(hv 0), (hv 1), (hv 2), (hv 3), (hv 4), (hv 5), (hv 6), (hv 7)]⟩
            refine s_fieldRef F.fo_43_1 (by decide) rfl k
           ·intro K rest fr hv htk k
            show AWops _ x _ _ K ⟨119, (upd 119 fr 91 (rf 4 1)), [(hv 0), (hv 1), (hv 2), (hv 3), (some (AObj.cells true (c_dossierplain_Step a0))), (hv 5), (hv 6), (hv 7)]⟩
            refine s_load1 (c' := (ci a0.N)) F.ag_3 rfl rfl k
           ·intro K rest fr hv htk k
            show AWops _ x _ _ K ⟨119, (upd 119 (upd 119 fr 92 (si a0.N)) 90 (rf 0 0)), [(o_vdisk_Disk_03 false (C.mp 2) (C.p true (.v (.pointer none))) p0), (hv 1), (om_ e_vdisk_file p0.files), (hv 3), (hv 4), (hv 5), (hv 6), (hv 7)]⟩
            refine s_call2 (ρ := [0, 2]) (br := false) (H2 := [(o_vdisk_Disk_03 false (C.mp 2) (C.p true (.v (.pointer none))) r21.2.1), (hv 1), (om_ e_vdisk_file r21.2.1.files), (hv 3), (hv 4), (hv 5), (hv 6), (hv 7)]) (d := (si r21.1)) F.ca_21 rfl rfl (ac (.one (.ref rfl)) (ac (.one .sc) an)) (ac (.cells (ac (.mp rfl) (ac .sc (ac .sc (ac .sc (ac .sc an)))))) (ac .map an)) (by decide) rfl (Meets.eqs (optE_none c22) (optE_none c22) (vdisk_Disk_Fuse.meets _ p0 a0.N r21 er21)) (.inl rfl) rfl rfl k
           ·intro K rest fr hv htk k
            show AWops _ x _ _ K ⟨119, (upd 119 fr 2 (rf 1 0)), _⟩
            refine s_move (d := (rf 1 0)) rfl k
           ·intro K rest fr hv htk k
            show AWops _ x _ _ K ⟨119, (upd 119 fr 3 (rf 4 0)), [(hv 0), (hv 1), (hv 2), (hv 3), (hv 4), (hv 5), (hv 6), (hv 7)]⟩
            refine s_fieldRef F.fo_43_1 (by decide) rfl k
           ·intro K rest fr hv htk k
            show AWops _ x _ _ K ⟨119, (upd 119 fr 95 (rf 4 1)), [(hv 0), (hv 1), (hv 2), (hv 3), (some (AObj.cells true (c_dossierplain_Step a0))), (hv 5), (hv 6), (hv 7)]⟩
            refine s_load1 (c' := (ci a0.N)) F.ag_3 rfl rfl k
           ·intro K rest fr hv htk k
            show AWops _ x _ _ K ⟨119, (upd 119 (upd 119 fr 96 (si a0.N)) 94 (rf 1 0)), [(hv 0), (o_dossierref03_Disk_0 false (C.own 5 0 p1.L.length 3) p1), (hv 2), (hv 3), (hv 4), (or_ e_dossierref03_File p1.L), (hv 6), (hv 7)]⟩
            refine s_call2 (ρ := [1, 5]) (br := false) (H2 := [(hv 0), (o_dossierref03_Disk_0 false (C.own 5 0 r24.2.L.length 3) r24.2), (hv 2), (hv 3), (hv 4), (or_ e_dossierref03_File r24.2.L), (hv 6), (hv 7)]) (d := (si r24.1)) F.ca_43 rfl rfl (ac (.one (.ref rfl)) (ac (.one .sc) an)) (ac (.cells (ac (.own rfl) (ac .sc (ac .sc (ac .sc an))))) (ac (.cells (lend_row _)) an)) (by decide) rfl (dossierref03_Disk_Fuse.meets _ p1 a0.N r24 er24) (.inl rfl) (by first | rfl | (simp only [mS]; done) | (simp only [mS]; rfl)) rfl k
           ·intro K rest fr hv htk k
            show AWops _ x _ _ K ⟨119, (upd 119 (upd 119 fr 97 (si r24.1)) 93 (si r21.1)), _⟩
            refine s_binI (v := (.bool (r21.1 == r24.1))) rfl rfl rfl k
           ·intro K rest fr hv htk k
            show AWops _ x _ _ K ⟨119, (upd 119 fr 98 (sb (r21.1 == r24.1))), _⟩
            refine s_assign (d := (sb (r21.1 == r24.1))) rfl k
          ·refine AWops.weak (st' := ⟨119, (upd 119 topF 6 (sb (r21.1 == r24.1))), [(o_vdisk_Disk_03 false (C.mp 2) (C.p true (.v (.pointer none))) r21.2.1), (o_dossierref03_Disk_0 false (C.own 4 0 r24.2.L.length 3) r24.2), (om_ e_vdisk_file r21.2.1.files), none, (or_ e_dossierref03_File r24.2.L)]⟩) (wg 4 [0, 1, 2, 3, 5] [] hx (le_upd (le_top _) (.t (.one .sc))) (ac (.cells id (ac (.mp rfl) (ac .sc (ac .sc (ac .sc (ac .sc an)))))) (ac (.cells id (ac (.own rfl) (ac .sc (ac .sc (ac .sc an))))) (ac .map (ac (.none _) (ac (.cells id (all2_row _)) an)))))) (AWops.nil (AW.ret ?_))
           obtain rfl := Option.some.inj h
           exact ⟨_, rfl, (wg 4 [0, 1, 2, 3, 4] [] rfl (le_upd (le_top _) (.t (.one .sc))) (ac (.cells id (ac (.mp rfl) (ac .sc (ac .sc (ac .sc (ac .sc an)))))) (ac (.cells id (ac (.own rfl) (ac .sc (ac .sc (ac .sc an))))) (ac .map (ac (.none _) (ac (.cells id (all2_row _)) an))))))⟩
         ·obtain ⟨r25, er25, h⟩ := bnd h
          refine AW.draw (n := 119) (L := 8) [(ft 0 90 (rf 0 0) [(1, (rf 0 0))]), (ft 1 91 (rf 4 1) [(3, (rf 4 0))]), (2, ⟨some 92, (si a0.N), [(91, (rf 4 1))], [(4, (some (AObj.cells true (c_dossierplain_Step a0))))], [], none⟩), (3, ⟨some 93, (si r21.1), [(90, (rf 0 0)), (92, (si a0.N))], [(0, (o_vdisk_Disk_03 false (C.mp 2) (C.p true (.v (.pointer none))) p0)), (2, (om_ e_vdisk_file p0.files))], [(0, (o_vdisk_Disk_03 false (C.mp 2) (C.ref 6 0) r21.2.1)), (2, (om_ e_vdisk_file r21.2.1.files)), (6, (some (AObj.cells false [(ci y23)])))], some 6⟩), (ft 4 94 (rf 1 0) [(2, (rf 1 0))]), (ft 5 95 (rf 4 1) [(3, (rf 4 0))]), (6, ⟨some 96, (si a0.N), [(95, (rf 4 1))], [(4, (some (AObj.cells true (c_dossierplain_Step a0))))], [], none⟩), (7, ⟨some 97, (si r25.1), [(94, (rf 1 0)), (96, (si a0.N))], [(1, (o_dossierref03_Disk_0 false (C.own 5 0 p1.L.length 3) p1)), (5, (or_ e_dossierref03_File p1.L))], [(1, (o_dossierref03_Disk_0 false (C.own 5 0 r25.2.L.length 3) r25.2)), (5, (or_ e_dossierref03_File r25.2.L))], none⟩), (ft 8 98 (sb (r21.1 == r25.1)) [(93, (si r21.1)), (97, (si r25.1))]), (ft 9 6 (sb (r21.1 == r25.1)) [(98, (sb (r21.1 == r25.1)))])] [[], [], [1], [0, 1, 2], [], [], [5], (.range 7), (.range 8), (.range 9)] (nl rfl) [0, 0, 1, 2, 0, 0, 1, 3, 4, 5] rfl (TK := [(3, 6)]) rfl (AllK.cons' ⟨(tk_upd (tk_upd (tk_upd tk_top rfl) rfl) rfl), (tC rfl (tC rfl (tC rfl (tC rfl (tC rfl (tC (tkO_row _) AllT.nil')))))), (fC (.inr rfl) (fC (.inr rfl) (fC (.inr rfl) (fC (.inl rfl) (fC (.inr rfl) (fC (.inr rfl) (fC (.inr rfl) (fC (.inl rfl) (fC (.inl rfl) (fC (.inl rfl) AllF.nil'))))))))))⟩ AllK.nil') (by repeat (first | refine fC ⟨?_, ?_⟩ ?_ | refine sC rfl ?_ | refine hC rfl ?_ | trivial)) ?_ ?_
          ·refine (pC ?_ (pC ?_ (pC ?_ (pC ?_ (pC ?_ (pC ?_ (pC ?_ (pC ?_ (pC ?_ (pC ?_ AllStep.nil'))))))))))
           ·intro K rest fr hv htk k
            show AWops _ x _ _ K ⟨119, (upd 119 fr 1 (rf 0 0)), _⟩
            refine s_move (d := (rf 0 0)) rfl k
           ·intro K rest fr hv htk k
            show AWops _ x _ _ K ⟨119, (upd 119 fr 3 (rf 4 0)), [(hv 0), (hv 1), (hv 2), (hv 3), (hv 4), (hv 5), (hv 6), (hv 7)]⟩
            refine s_fieldRef F.fo_43_1 (by decide) rfl k
           ·intro K rest fr hv htk k
            show AWops _ x _ _ K ⟨119, (upd 119 fr 91 (rf 4 1)), [(hv 0), (hv 1), (hv 2), (hv 3), (some (AObj.cells true (c_dossierplain_Step a0))), (hv 5), (hv 6), (hv 7)]⟩
            refine s_load1 (c' := (ci a0.N)) F.ag_3 rfl rfl k
           ·intro K rest fr hv htk k
            show AWops _ x _ _ K ⟨119, (upd 119 (upd 119 fr 92 (si a0.N)) 90 (rf 0 0)), [(o_vdisk_Disk_03 false (C.mp 2) (C.p true (.v (.pointer none))) p0), (hv 1), (om_ e_vdisk_file p0.files), (hv 3), (hv 4), (hv 5), (hv 6), (hv 7)]⟩
            refine s_call2 (ρ := [0, 2]) (br := false) (H2 := [(o_vdisk_Disk_03 false (C.mp 2) (C.ref 8 0) r21.2.1), (hv 1), (om_ e_vdisk_file r21.2.1.files), (hv 3), (hv 4), (hv 5), (hv 6), (hv 7), (some (AObj.cells false [(ci y23)]))]) (d := (si r21.1)) F.ca_21 rfl rfl (ac (.one (.ref rfl)) (ac (.one .sc) an)) (ac (.cells (ac (.mp rfl) (ac .sc (ac .sc (ac .sc (ac .sc an)))))) (ac .map an)) (by decide) rfl (Meets.eqs (optE_some c22) (optE_some c22) (vdisk_Disk_Fuse.meets _ p0 a0.N r21 er21)) (.inl rfl) rfl rfl ?_
            refine AWops.weak (st' := ⟨119, (upd 119 (upd 119 (upd 119 fr 92 (si a0.N)) 90 (rf 0 0)) 93 (si r21.1)), [(o_vdisk_Disk_03 false (C.mp 2) (C.ref 6 0) r21.2.1), (hv 1), (om_ e_vdisk_file r21.2.1.files), (hv 3), (hv 4), (hv 5), (some (AObj.cells false [(ci y23)])), (hv 7)]⟩) (wg 4 [0, 1, 2, 3, 4, 5, 8, 7] [] hx (le_upd2 (le_ok (p := 6) (L := 8) rfl (htk 6 rfl).1) (.t (.one .sc))) (ac (.cells id (ac (.mp rfl) (ac .sc (ac .sc (ac (.ref rfl) (ac .sc an)))))) (ac (oq 6 8 (htk 6 rfl) 1) (ac .map (ac (oq 6 8 (htk 6 rfl) 3) (ac (oq 6 8 (htk 6 rfl) 4) (ac (oq 6 8 (htk 6 rfl) 5) (ac (.cells id (ac .sc an)) (ac (oq 6 8 (htk 6 rfl) 7) an))))))))) k
           ·intro K rest fr hv htk k
            show AWops _ x _ _ K ⟨119, (upd 119 fr 2 (rf 1 0)), _⟩
            refine s_move (d := (rf 1 0)) rfl k
           ·intro K rest fr hv htk k
            show AWops _ x _ _ K ⟨119, (upd 119 fr 3 (rf 4 0)), [(hv 0), (hv 1), (hv 2), (hv 3), (hv 4), (hv 5), (hv 6), (hv 7)]⟩
            refine s_fieldRef F.fo_43_1 (by decide) rfl k
           ·intro K rest fr hv htk k
            show AWops _ x _ _ K ⟨119, (upd 119 fr 95 (rf 4 1)), [(hv 0), (hv 1), (hv 2), (hv 3), (some (AObj.cells true (c_dossierplain_Step a0))), (hv 5), (hv 6), (hv 7)]⟩
            refine s_load1 (c' := (ci a0.N)) F.ag_3 rfl rfl k
           ·intro K rest fr hv htk k
            show AWops _ x _ _ K ⟨119, (upd 119 (upd 119 fr 96 (si a0.N)) 94 (rf 1 0)), [(hv 0), (o_dossierref03_Disk_0 false (C.own 5 0 p1.L.length 3) p1), (hv 2), (hv 3), (hv 4), (or_ e_dossierref03_File p1.L), (hv 6), (hv 7)]⟩
            refine s_call2 (ρ := [1, 5]) (br := false) (H2 := [(hv 0), (o_dossierref03_Disk_0 false (C.own 5 0 r25.2.L.length 3) r25.2), (hv 2), (hv 3), (hv 4), (or_ e_dossierref03_File r25.2.L), (hv 6), (hv 7)]) (d := (si r25.1)) F.ca_43 rfl rfl (ac (.one (.ref rfl)) (ac (.one .sc) an)) (ac (.cells (ac (.own rfl) (ac .sc (ac .sc (ac .sc an))))) (ac (.cells (lend_row _)) an)) (by decide) rfl (dossierref03_Disk_Fuse.meets _ p1 a0.N r25 er25) (.inl rfl) (by first | rfl | (simp only [mS]; done) | (simp only [mS]; rfl)) rfl k
           ·intro K rest fr hv htk k
            show AWops _ x _ _ K ⟨119, (upd 119 (upd 119 fr 97 (si r25.1)) 93 (si r21.1)), _⟩
            refine s_binI (v := (.bool (r21.1 == r25.1))) rfl rfl rfl k
           ·intro K rest fr hv htk k
            show AWops _ x _ _ K ⟨119, (upd 119 fr 98 (sb (r21.1 == r25.1))), _⟩
            refine s_assign (d := (sb (r21.1 == r25.1))) rfl k
          ·refine AWops.weak (st' := ⟨119, (upd 119 topF 6 (sb (r21.1 == r25.1))), [(o_vdisk_Disk_03 false (C.mp 2) (C.ref 4 0) r21.2.1), (o_dossierref03_Disk_0 false (C.own 5 0 r25.2.L.length 3) r25.2), (om_ e_vdisk_file r21.2.1.files), none, (some (AObj.cells false [(ci y23)])), (or_ e_dossierref03_File r25.2.L)]⟩) (wg 4 [0, 1, 2, 3, 6, 5] [] hx (le_upd (le_top _) (.t (.one .sc))) (ac (.cells id (ac (.mp rfl) (ac .sc (ac .sc (ac (.ref rfl) (ac .sc an)))))) (ac (.cells id (ac (.own rfl) (ac .sc (ac .sc (ac .sc an))))) (ac .map (ac (.none _) (ac (.cells id (ac .sc an)) (ac (.cells id (all2_row _)) an))))))) (AWops.nil (AW.ret ?_))
           obtain rfl := Option.some.inj h
           exact ⟨_, rfl, (wg 4 [0, 1, 2, 3, 4, 5] [] rfl (le_upd (le_top _) (.t (.one .sc))) (ac (.cells id (ac (.mp rfl) (ac .sc (ac .sc (ac (.ref rfl) (ac .sc an)))))) (ac (.cells id (ac (.own rfl) (ac .sc (ac .sc (ac .sc an))))) (ac .map (ac (.none _) (ac (.cells id (ac .sc an)) (ac (.cells id (all2_row _)) an)))))))⟩
        ·refine AW.cond_no rfl c20 (AW.seq (AW.region ?_))
         refine s_binI (v := (.bool ((IntKind.i64.wrap (Int.tmod (IntKind.u64.wrap a0.Op) 9)) == 7))) rfl rfl rfl ?_
         refine s_assign (d := (sb ((IntKind.i64.wrap (Int.tmod (IntKind.u64.wrap a0.Op) 9)) == 7))) rfl (AWops.nil ?_)
         rcases itH h with ⟨c26, h⟩ | ⟨c26, h⟩
         ·refine AW.cond_yes rfl c26 (AW.seq (AW.region ?_))
          refine s_move (d := (rf 1 0)) rfl ?_
          refine s_fieldRef F.fo_43_5 (by decide) rfl ?_
          refine s_load1 (c' := (C.p false (.sl a0.Keeps.length (a0.Keeps.flatMap e_i64)))) F.ag_24 rfl rfl ?_
          obtain ⟨r27, er27, h⟩ := bnd h
          refine s_call2 (ρ := [1, 5]) (br := false) (H2 := [(o_vdisk_Disk_03 false (C.mp 2) (C.p true (.v (.pointer none))) p0), (o_dossierref03_Disk_0 false (C.own 6 0 r27.L.length 3) r27), (om_ e_vdisk_file p0.files), none, (some (AObj.cells true (c_dossierplain_Step a0))), none, (or_ e_dossierref03_File r27.L)]) (d := (D.tup [])) F.ca_44 rfl rfl (ac (.one (.ref rfl)) (ac (.one .imm) an)) (ac (.cells (ac (.own rfl) (ac .sc (ac .sc (ac .sc an))))) (ac (.cells (lend_row _)) an)) (by decide) rfl (dossierref03_Disk_Crash_44.meets _ p1 a0.Keeps r27 er27) (.inl rfl) (by first | rfl | (simp only [mS]; done) | (simp only [mS]; rfl)) rfl (AWops.nil (AW.seq (AW.region ?_)))
          refine s_move (d := (rf 0 0)) rfl ?_
          refine s_fieldRef F.fo_43_5 (by decide) rfl ?_
          refine s_load1 (c' := (C.p false (.sl a0.Keeps.length (a0.Keeps.flatMap e_i64)))) F.ag_24 rfl rfl ?_
          obtain ⟨r28, er28, h⟩ := bnd h
          refine s_call2 (ρ := [0, 2]) (br := false) (H2 := [(o_vdisk_Disk_03 false (C.mp 2) (C.p true (.v (.pointer none))) r28.2), (o_dossierref03_Disk_0 false (C.own 6 0 r27.L.length 3) r27), (om_ e_vdisk_file r28.2.files), none, (some (AObj.cells true (c_dossierplain_Step a0))), none, (or_ e_dossierref03_File r27.L)]) (d := (si r28.1)) F.ca_11 rfl rfl (ac (.one (.ref rfl)) (ac (.one .imm) an)) (ac (.cells (ac (.mp rfl) (ac .sc (ac .sc (ac .sc (ac .sc an)))))) (ac .map an)) (by decide) rfl (vdisk_Disk_Crash.meets _ p0 a0.Keeps r28 er28) (.inl rfl) rfl rfl ?_
          refine s_binI (v := (.bool (r28.1 == 0))) rfl rfl rfl ?_
          refine s_assign (d := (sb (r28.1 == 0))) rfl (AWops.nil (AW.ret ?_))
          obtain rfl := Option.some.inj h
          exact ⟨_, rfl, (wg 4 [0, 1, 2, 3, 6] [] rfl (le_upd (le_top _) (.t (.one .sc))) (ac (.cells id (ac (.mp rfl) (ac .sc (ac .sc (ac .sc (ac .sc an)))))) (ac (.cells id (ac (.own rfl) (ac .sc (ac .sc (ac .sc an))))) (ac .map (ac (.none _) (ac (.cells id (all2_row _)) an))))))⟩
         ·refine AW.cond_no rfl c26 (AW.skip (AW.seq ?_))
          refine AW.weak (st' := ⟨119, (upd 119 (upd 119 (upd 119 topF 1 (rf 0 0)) 2 (rf 1 0)) 3 (rf 4 0)), [(o_vdisk_Disk_03 false (C.mp 2) (C.p true (.v (.pointer none))) p0), (o_dossierref03_Disk_0 false (C.own 5 0 p1.L.length 3) p1), (om_ e_vdisk_file p0.files), none, (some (AObj.cells true (c_dossierplain_Step a0))), (or_ e_dossierref03_File p1.L)]⟩) (wg 4 [0, 1, 2, 3, 4, 5] [] hx (le_upd (le_upd (le_upd (le_top _) (.t (.one (.ref rfl)))) (.t (.one (.ref rfl)))) (.t (.one (.ref rfl)))) (ac (.cells id (ac (.mp rfl) (ac .sc (ac .sc (ac .sc (ac .sc an)))))) (ac (.cells id (ac (.own rfl) (ac .sc (ac .sc (ac .sc an))))) (ac .map (ac (.none _) (ac (.cells (fun _ => rfl) (ac .sc (ac .sc (ac .sc (ac .sc (ac .same (ac .same an))))))) (ac (.cells id (all2_row _)) an))))))) ?_
          obtain ⟨r29, er29, h⟩ := bnd h
          obtain ⟨r30, er30, h⟩ := bnd h
          refine AW.draw (n := 119) (L := 8) [(ft 0 110 (rf 0 0) [(1, (rf 0 0))]), (ft 1 111 (rf 4 1) [(3, (rf 4 0))]), (2, ⟨some 112, (si a0.N), [(111, (rf 4 1))], [(4, (some (AObj.cells true (c_dossierplain_Step a0))))], [], none⟩), (3, ⟨some 113, (si r29.1), [(110, (rf 0 0)), (112, (si a0.N))], [(0, (o_vdisk_Disk_03 false (C.mp 2) (C.p true (.v (.pointer none))) p0)), (2, (om_ e_vdisk_file p0.files))], [(0, (o_vdisk_Disk_03 false (C.mp 2) (C.p true (.v (.pointer none))) r29.2)), (2, (om_ e_vdisk_file r29.2.files))], none⟩), (ft 4 114 (rf 1 0) [(2, (rf 1 0))]), (ft 5 115 (rf 4 1) [(3, (rf 4 0))]), (6, ⟨some 116, (si a0.N), [(115, (rf 4 1))], [(4, (some (AObj.cells true (c_dossierplain_Step a0))))], [], none⟩), (7, ⟨some 117, (si r30.1), [(114, (rf 1 0)), (116, (si a0.N))], [(1, (o_dossierref03_Disk_0 false (C.own 5 0 p1.L.length 3) p1)), (5, (or_ e_dossierref03_File p1.L))], [(1, (o_dossierref03_Disk_0 false (C.own 5 0 r30.2.L.length 3) r30.2)), (5, (or_ e_dossierref03_File r30.2.L))], none⟩), (ft 8 118 (sb (r29.1 == r30.1)) [(113, (si r29.1)), (117, (si r30.1))]), (ft 9 6 (sb (r29.1 == r30.1)) [(118, (sb (r29.1 == r30.1)))])] [[], [], [1], [0, 1, 2], [], [], [5], (.range 7), (.range 8), (.range 9)] (nl rfl) [0, 0, 1, 2, 0, 0, 1, 3, 4, 5] rfl (TK := []) rfl AllK.nil' (by repeat (first | refine fC ⟨?_, ?_⟩ ?_ | refine sC rfl ?_ | refine hC rfl ?_ | trivial)) ?_ ?_
          ·refine (pC ?_ (pC ?_ (pC ?_ (pC ?_ (pC ?_ (pC ?_ (pC ?_ (pC ?_ (pC ?_ (pC ?_ AllStep.nil'))))))))))
           ·intro K rest fr hv htk k
            show AWops _ x _ _ K ⟨119, (upd 119 fr 1 (rf 0 0)), _⟩
            refine s_move (d := (rf 0 0)) rfl k
           ·intro K rest fr hv htk k
            show AWops _ x _ _ K ⟨119, (upd 119 fr 3 (rf 4 0)), [(hv 0), (hv 1), (hv 2), (hv 3), (hv 4), (hv 5), (hv 6), (hv 7)]⟩
            refine s_fieldRef F.fo_43_1 (by decide) rfl k
           ·intro K rest fr hv htk k
            show AWops _ x _ _ K ⟨119, (upd 119 fr 111 (rf 4 1)), [(hv 0), (hv 1), (hv 2), (hv 3), (some (AObj.cells true (c_dossierplain_Step a0))), (hv 5), (hv 6), (hv 7)]⟩
            refine s_load1 (c' := (ci a0.N)) F.ag_3 rfl rfl k
           ·intro K rest fr hv htk k
            show AWops _ x _ _ K ⟨119, (upd 119 (upd 119 fr 112 (si a0.N)) 110 (rf 0 0)), [(o_vdisk_Disk_03 false (C.mp 2) (C.p true (.v (.pointer none))) p0), (hv 1), (om_ e_vdisk_file p0.files), (hv 3), (hv 4), (hv 5), (hv 6), (hv 7)]⟩
            refine s_call2 (ρ := [0, 2]) (br := false) (H2 := [(o_vdisk_Disk_03 false (C.mp 2) (C.p true (.v (.pointer none))) r29.2), (hv 1), (om_ e_vdisk_file r29.2.files), (hv 3), (hv 4), (hv 5), (hv 6), (hv 7)]) (d := (si r29.1)) F.ca_22 rfl rfl (ac (.one (.ref rfl)) (ac (.one .sc) an)) (ac (.cells (ac (.mp rfl) (ac .sc (ac .sc (ac .sc (ac .sc an)))))) (ac .map an)) (by decide) rfl (vdisk_Disk_Room.meets _ p0 a0.N r29 er29) (.inl rfl) rfl rfl k
           ·intro K rest fr hv htk k
            show AWops _ x _ _ K ⟨119, (upd 119 fr 2 (rf 1 0)), _⟩
            refine s_move (d := (rf 1 0)) rfl k
           ·intro K rest fr hv htk k
            show AWops _ x _ _ K ⟨119, (upd 119 fr 3 (rf 4 0)), [(hv 0), (hv 1), (hv 2), (hv 3), (hv 4), (hv 5), (hv 6), (hv 7)]⟩
            refine s_fieldRef F.fo_43_1 (by decide) rfl k
           ·intro K rest fr hv htk k
            show AWops _ x _ _ K ⟨119, (upd 119 fr 115 (rf 4 1)), [(hv 0), (hv 1), (hv 2), (hv 3), (some (AObj.cells true (c_dossierplain_Step a0))), (hv 5), (hv 6), (hv 7)]⟩
            refine s_load1 (c' := (ci a0.N)) F.ag_3 rfl rfl k
           ·intro K rest fr hv htk k
            show AWops _ x _ _ K ⟨119, (upd 119 (upd 119 fr 116 (si a0.N)) 114 (rf 1 0)), [(hv 0), (o_dossierref03_Disk_0 false (C.own 5 0 p1.L.length 3) p1), (hv 2), (hv 3), (hv 4), (or_ e_dossierref03_File p1.L), (hv 6), (hv 7)]⟩
            refine s_call2 (ρ := [1, 5]) (br := false) (H2 := [(hv 0), (o_dossierref03_Disk_0 false (C.own 5 0 r30.2.L.length 3) r30.2), (hv 2), (hv 3), (hv 4), (or_ e_dossierref03_File r30.2.L), (hv 6), (hv 7)]) (d := (si r30.1)) F.ca_45 rfl rfl (ac (.one (.ref rfl)) (ac (.one .sc) an)) (ac (.cells (ac (.own rfl) (ac .sc (ac .sc (ac .sc an))))) (ac (.cells (lend_row _)) an)) (by decide) rfl (dossierref03_Disk_Room.meets _ p1 a0.N r30 er30) (.inl rfl) (by first | rfl | (simp only [mS]; done) | (simp only [mS]; rfl)) rfl k
           ·intro K rest fr hv htk k
            show AWops _ x _ _ K ⟨119, (upd 119 (upd 119 fr 117 (si r30.1)) 113 (si r29.1)), _⟩
            refine s_binI (v := (.bool (r29.1 == r30.1))) rfl rfl rfl k
           ·intro K rest fr hv htk k
            show AWops _ x _ _ K ⟨119, (upd 119 fr 118 (sb (r29.1 == r30.1))), _⟩
            refine s_assign (d := (sb (r29.1 == r30.1))) rfl k
          ·refine AWops.weak (st' := ⟨119, (upd 119 topF 6 (sb (r29.1 == r30.1))), [(o_vdisk_Disk_03 false (C.mp 2) (C.p true (.v (.pointer none))) r29.2), (o_dossierref03_Disk_0 false (C.own 4 0 r30.2.L.length 3) r30.2), (om_ e_vdisk_file r29.2.files), none, (or_ e_dossierref03_File r30.2.L)]⟩) (wg 4 [0, 1, 2, 3, 5] [] hx (le_upd (le_top _) (.t (.one .sc))) (ac (.cells id (ac (.mp rfl) (ac .sc (ac .sc (ac .sc (ac .sc an)))))) (ac (.cells id (ac (.own rfl) (ac .sc (ac .sc (ac .sc an))))) (ac .map (ac (.none _) (ac (.cells id (all2_row _)) an)))))) (AWops.nil (AW.ret ?_))
           obtain rfl := Option.some.inj h
           exact ⟨_, rfl, (wg 4 [0, 1, 2, 3, 4] [] rfl (le_upd (le_top _) (.t (.one .sc))) (ac (.cells id (ac (.mp rfl) (ac .sc (ac .sc (ac .sc (ac .sc an)))))) (ac (.cells id (ac (.own rfl) (ac .sc (ac .sc (ac .sc an))))) (ac .map (ac (.none _) (ac (.cells id (all2_row _)) an))))))⟩
mutual
def dossierref03_Disk_Names.l0 : Nat → (List ByteArray) → Int → dossierref03_Disk → Option (List ByteArray)
 | 0, _, _, _ => none
 | k + 1, x1, x2, p0 => if (decide (x2 < (p0.L.length : Int))) = true then ((rd p0.L x2).bind fun v4 => if (decide (x1.length + ([v4.Name] : List ByteArray).length ≤ 8796093022208)) = true then (dossierref03_Disk_Names.l0 k (x1 ++ ([v4.Name] : List ByteArray)) (IntKind.i64.wrap (x2 + 1)) p0) else none) else (some x1)
end
def dossierref03_Disk_Names.f (k : Nat) (p0 : dossierref03_Disk) : Option (List ByteArray) := dossierref03_Disk_Names.l0 k ([] : List ByteArray) 0 p0
theorem dossierref03_Disk_Names.meets (k : Nat) (p0 : dossierref03_Disk) (r : (List ByteArray)) (h : dossierref03_Disk_Names.f k p0 = some r) : Meets Try.prog 51 [(rf 0 0)] [(o_dossierref03_Disk_0 false (C.own 1 0 p0.L.length 3) p0), (or_ e_dossierref03_File p0.L)] (D.one (C.own 2 0 r.length 1)) [(o_dossierref03_Disk_0 false (C.own 1 0 p0.L.length 3) p0), (or_ e_dossierref03_File p0.L), (ow_ e_str r)] := by
 unfold dossierref03_Disk_Names.f at h
 refine Meets.of_body (n := 22) Try.func51 rfl rfl (nl rfl) fun x hx => ?_
 replace hx : x.k = 2 := hx
 show AW _ x _ _ ⟨22, fr0 [(rf 0 0)], [(o_dossierref03_Disk_0 false (C.own 1 0 p0.L.length 3) p0), (or_ e_dossierref03_File p0.L)]⟩
 refine AW.seq (AW.region ?_)
 refine s_assign (d := (sc (.slice none 0 0))) rfl (AWops.nil (AW.seq (AW.region ?_)))
 refine s_assign (d := (sc (.slice none 0 0))) rfl (AWops.nil (AW.seq (AW.seq (AW.region ?_))))
 refine s_move (d := (rf 0 0)) rfl ?_
 refine s_nilCheck (d := (rf 0 0)) rfl (.inl ⟨_, _, rfl⟩) ?_
 refine s_fieldRef F.fo_72_0 (by decide) rfl ?_
 refine s_load1 (c' := (C.own 1 0 p0.L.length 3)) F.ag_70 rfl rfl ?_
 refine s_len (n := p0.L.length) F.u_70 rfl (.inr ⟨(fun _ _ h => by cases h), ⟨_, rfl⟩⟩) ?_
 refine s_move (d := (si 0)) rfl (AWops.nil (AW.block ?_))
 refine AW.loopw (st0 := ⟨22, (upd 22 (upd 22 (upd 22 (upd 22 topF 3 (D.one (C.own 2 0 ([] : List ByteArray).length 1))) 9 (D.one (C.own 1 0 p0.L.length 3))) 10 (si (p0.L.length : Int))) 11 (si 0)), [(o_dossierref03_Disk_0 false (C.own 1 0 p0.L.length 3) p0), (or_ e_dossierref03_File p0.L), (some (AObj.cells true (rowC e_str ([] : List ByteArray))))]⟩) (fun kv st => kv ≤ k ∧ ∃ (x1 : List ByteArray) (x2 : Int), dossierref03_Disk_Names.l0 kv x1 x2 p0 = some r ∧ st = ⟨22, (upd 22 (upd 22 (upd 22 (upd 22 topF 3 (D.one (C.own 2 0 x1.length 1))) 9 (D.one (C.own 1 0 p0.L.length 3))) 10 (si (p0.L.length : Int))) 11 (si x2)), [(o_dossierref03_Disk_0 false (C.own 1 0 p0.L.length 3) p0), (or_ e_dossierref03_File p0.L), (ow_ e_str x1)]⟩) (k := k) (Weak.trans (Weak.nil (sz := 1) (i := 3) rfl) (wg 2 [0, 1, 2] [] hx (le_upd (le_upd (le_upd (le_upd (le_top _) (.t (.one (.own rfl)))) (.t (.one (.own rfl)))) (.t (.one .sc))) (.t (.one .sc))) (ac (.cells id (ac (.own rfl) (ac .sc (ac .sc (ac .sc an))))) (ac (.cells id (all2_row _)) (ac (.cells (fun _ => rfl) an) an))))) ⟨Nat.le_refl _, ([] : List ByteArray), 0, h, rfl⟩ ?_
 rintro ql0 st ⟨hkl0, x1, x2, h, rfl⟩
 cases ql0 with
 | zero => exact absurd h (by simp [dossierref03_Disk_Names.l0])
 | succ ql0 =>
  replace h := (dossierref03_Disk_Names.l0.eq_2 _ _ _ _).symm.trans h
  refine AW.seq (AW.region ?_)
  refine s_binI (v := (.bool (decide (x2 < (p0.L.length : Int))))) rfl rfl rfl (AWops.nil (AW.seq ?_))
  rcases itH h with ⟨c3, h⟩ | ⟨c3, h⟩
  ·refine AW.cond_yes rfl c3 (AW.skip (AW.seq (AW.block (AW.seq (AW.region ?_)))))
   obtain ⟨v4, ev4, h⟩ := bnd h
   obtain ⟨pv4, qv4, gv4⟩ := rd_some ev4
   refine s_indexOwn (d := (D.one (C.ref 1 (0 + x2.toNat * 3)))) F.u_70 F.sz_82 rfl rfl pv4 qv4 rfl ?_
   obtain ⟨R5, hR5⟩ := row_at (f := e_dossierref03_File) (sz := 3) (o := 0) e_dossierref03_File_len gv4 (e_dossierref03_File_eq v4) (by decide)
   refine s_loadN (ds := (c_dossierref03_File v4)) F.ag_82 F.sz_82 (congrArg some hR5) rfl rfl ?_
   refine s_alloc (cs := [(ct (⟨#[]⟩ : ByteArray)), (C.p true (.v (.slice none 0 0))), (ci 0)]) F.z_82 rfl rfl ?_
   refine s_store (cs' := (c_dossierref03_File v4)) rfl rfl rfl (List.cons_ne_nil _ _) rfl F.sz_82 (nl rfl) rfl (AWops.nil (AW.region ?_))
   refine s_move (d := (D.one (C.own 2 0 x1.length 1))) rfl ?_
   refine s_fieldRef F.fo_82_0 (by decide) rfl ?_
   refine s_load1 (c' := (ct v4.Name)) F.ag_9 rfl rfl ?_
   refine s_buildSlice (n := 1) (ps := [(0, (st_ v4.Name))]) (cs := rowC e_str ([v4.Name] : List ByteArray)) F.u_55 F.sz_9 F.z_9 rfl rfl (by decide) (by decide) rfl rfl ?_
   obtain ⟨c6, h⟩ := gdH h
   have dc6 := of_decide_eq_true c6
   refine t_append (xs := x1) (ys := ([v4.Name] : List ByteArray)) (zs := x1 ++ ([v4.Name] : List ByteArray)) (H' := [(o_dossierref03_Disk_0 false (C.own 1 0 p0.L.length 3) p0), (or_ e_dossierref03_File p0.L), none, (some (AObj.cells true (c_dossierref03_File v4))), (some (AObj.cells true (rowC e_str ([v4.Name] : List ByteArray)))), (some (AObj.cells true (rowC e_str (x1 ++ ([v4.Name] : List ByteArray)))))]) F.u_55 F.in_9 rfl e_str_len (.own rfl rfl) (.own rfl rfl) F.u_55 (by omega) (by omega) rfl rfl ?_
   refine s_assign (d := (D.one (C.own 5 0 ((x1 ++ ([v4.Name] : List ByteArray)).length) 1))) rfl (AWops.nil (AW.region ?_))
   refine s_binI (v := (.int .i64 (IntKind.i64.wrap (x2 + 1)))) rfl rfl rfl ?_
   refine s_move (d := (si (IntKind.i64.wrap (x2 + 1)))) rfl (AWops.nil ?_)
   exact ⟨_, ⟨22, (upd 22 (upd 22 (upd 22 (upd 22 topF 3 (D.one (C.own 2 0 (x1 ++ ([v4.Name] : List ByteArray)).length 1))) 9 (D.one (C.own 1 0 p0.L.length 3))) 10 (si (p0.L.length : Int))) 11 (si (IntKind.i64.wrap (x2 + 1)))), [(o_dossierref03_Disk_0 false (C.own 1 0 p0.L.length 3) p0), (or_ e_dossierref03_File p0.L), (some (AObj.cells true (rowC e_str (x1 ++ ([v4.Name] : List ByteArray)))))]⟩, by omega, (wg 2 [0, 1, 5] [] hx (le_upd (le_upd (le_upd (le_upd (le_top _) (.t (.one (.own rfl)))) (.t (.one (.own rfl)))) (.t (.one .sc))) (.t (.one .sc))) (ac (.cells id (ac (.own rfl) (ac .sc (ac .sc (ac .sc an))))) (ac (.cells id (all2_row _)) (ac (.cells (fun _ => rfl) (all2_row _)) an)))), by omega, x1 ++ ([v4.Name] : List ByteArray), IntKind.i64.wrap (x2 + 1), h, rfl⟩
  ·refine AW.cond_no rfl c3 (AW.exit (AW.seq (AW.region ?_)))
   refine s_move (d := (D.one (C.own 2 0 x1.length 1))) rfl ?_
   refine s_assign (d := (D.one (C.own 2 0 x1.length 1))) rfl (AWops.nil (AW.ret ?_))
   obtain rfl := Option.some.inj h
   exact ⟨_, rfl, (wg 2 [0, 1, 2] [] rfl (le_upd (le_top _) (.t (.one (.own rfl)))) (ac (.cells id (ac (.own rfl) (ac .sc (ac .sc (ac .sc an))))) (ac (.cells id (all2_row _)) (ac (.cells (fun _ => rfl) (all2_row _)) an))))⟩
mutual
def slices_Equal_string_string.l0 : Nat → Int → (List ByteArray) → (List ByteArray) → Option Bool
 | 0, _, _, _ => none
 | k + 1, x2, a0, a1 => if (decide (x2 < (a0.length : Int))) = true then ((rd a0 x2).bind fun v4 => (rd a1 x2).bind fun v5 => if (v4.toList == v5.toList) = true then (slices_Equal_string_string.l0 k (IntKind.i64.wrap (x2 + 1)) a0 a1) else (some false)) else (some true)
end
def slices_Equal_string_string.f (k : Nat) (a0 : List ByteArray) (a1 : List ByteArray) : Option Bool := if ((a0.length : Int) != (a1.length : Int)) = true then (some false) else (slices_Equal_string_string.l0 k 0 a0 a1)
theorem slices_Equal_string_string.meets (k : Nat) (a0 : List ByteArray) (a1 : List ByteArray) (r : Bool) (h : slices_Equal_string_string.f k a0 a1 = some r) : Meets Try.prog 50 [(D.one (C.p false (.sl a0.length (a0.flatMap e_str)))), (D.one (C.p false (.sl a1.length (a1.flatMap e_str))))] [] (sb r) [] := by
 unfold slices_Equal_string_string.f at h
 refine Meets.of_body (n := 26) Try.func50 rfl rfl (nl rfl) fun x hx => ?_
 replace hx : x.k = 0 := hx
 show AW _ x _ _ ⟨26, fr0 [(D.one (C.p false (.sl a0.length (a0.flatMap e_str)))), (D.one (C.p false (.sl a1.length (a1.flatMap e_str))))], []⟩
 refine AW.seq (AW.region ?_)
 refine s_assign (d := (sb false)) rfl (AWops.nil (AW.seq (AW.seq (AW.region ?_))))
 refine s_move (d := (D.one (C.p false (.sl a0.length (a0.flatMap e_str))))) rfl ?_
 refine s_len (n := a0.length) F.u_55 rfl (.inr ⟨(fun _ _ h => by cases h), ⟨_, rfl⟩⟩) ?_
 refine s_move (d := (D.one (C.p false (.sl a1.length (a1.flatMap e_str))))) rfl ?_
 refine s_len (n := a1.length) F.u_55 rfl (.inr ⟨(fun _ _ h => by cases h), ⟨_, rfl⟩⟩) ?_
 refine s_binI (v := (.bool ((a0.length : Int) != (a1.length : Int)))) rfl rfl rfl (AWops.nil ?_)
 rcases itH h with ⟨c1, h⟩ | ⟨c1, h⟩
 ·refine AW.cond_yes rfl c1 (AW.seq (AW.region ?_))
  refine s_assign (d := (sb false)) rfl (AWops.nil (AW.ret ?_))
  obtain rfl := Option.some.inj h
  exact ⟨_, rfl, (wg 0 [] [] rfl (le_upd (le_top _) (.t (.one .sc))) an)⟩
 ·refine AW.cond_no rfl c1 (AW.skip (AW.seq (AW.seq (AW.region ?_))))
  refine s_move (d := (D.one (C.p false (.sl a0.length (a0.flatMap e_str))))) rfl ?_
  refine s_len (n := a0.length) F.u_55 rfl (.inr ⟨(fun _ _ h => by cases h), ⟨_, rfl⟩⟩) ?_
  refine s_move (d := (si 0)) rfl (AWops.nil (AW.block ?_))
  refine AW.loopw (st0 := ⟨26, (upd 26 (upd 26 (upd 26 (upd 26 topF 0 (D.one (C.p false (.sl a0.length (a0.flatMap e_str))))) 1 (D.one (C.p false (.sl a1.length (a1.flatMap e_str))))) 12 (si (a0.length : Int))) 13 (si 0)), []⟩) (fun kv st => kv ≤ k ∧ ∃ (x2 : Int), slices_Equal_string_string.l0 kv x2 a0 a1 = some r ∧ st = ⟨26, (upd 26 (upd 26 (upd 26 (upd 26 topF 0 (D.one (C.p false (.sl a0.length (a0.flatMap e_str))))) 1 (D.one (C.p false (.sl a1.length (a1.flatMap e_str))))) 12 (si (a0.length : Int))) 13 (si x2)), []⟩) (k := k) (wg 0 [] [] hx (le_upd (le_upd (le_upd (le_upd (le_top _) (.t (.one .same))) (.t (.one .same))) (.t (.one .sc))) (.t (.one .sc))) an) ⟨Nat.le_refl _, 0, h, rfl⟩ ?_
  rintro ql0 st ⟨hkl0, x2, h, rfl⟩
  cases ql0 with
  | zero => exact absurd h (by simp [slices_Equal_string_string.l0])
  | succ ql0 =>
   replace h := (slices_Equal_string_string.l0.eq_2 _ _ _ _).symm.trans h
   refine AW.seq (AW.region ?_)
   refine s_binI (v := (.bool (decide (x2 < (a0.length : Int))))) rfl rfl rfl (AWops.nil (AW.seq ?_))
   rcases itH h with ⟨c3, h⟩ | ⟨c3, h⟩
   ·refine AW.cond_yes rfl c3 (AW.skip (AW.seq (AW.block (AW.seq (AW.region ?_)))))
    refine s_move (d := (si x2)) rfl ?_
    refine s_assign (d := (si x2)) rfl (AWops.nil (AW.seq ?_))
    refine AW.weak (st' := ⟨26, (upd 26 (upd 26 (upd 26 (upd 26 (upd 26 topF 0 (D.one (C.p false (.sl a0.length (a0.flatMap e_str))))) 1 (D.one (C.p false (.sl a1.length (a1.flatMap e_str))))) 5 (si x2)) 12 (si (a0.length : Int))) 13 (si x2)), []⟩) (wg 0 [] [] hx (le_upd (le_upd (le_upd (le_upd (le_upd (le_top _) (.t (.one .same))) (.t (.one .same))) (.t (.one .sc))) (.t (.one .sc))) (.t (.one .sc))) an) ?_
    obtain ⟨v4, ev4, h⟩ := bnd h
    obtain ⟨pv4, qv4, gv4⟩ := rd_some ev4
    obtain ⟨v5, ev5, h⟩ := bnd h
    obtain ⟨pv5, qv5, gv5⟩ := rd_some ev5
    refine AW.draw (n := 26) (L := 0) [(ft 0 16 (D.one (C.p false (.sl a0.length (a0.flatMap e_str)))) [(0, (D.one (C.p false (.sl a0.length (a0.flatMap e_str)))))]), (ft 1 17 (si x2) [(5, (si x2))]), (ft 2 18 (D.one (C.peek false [P.v (.string v4)])) [(16, (D.one (C.p false (.sl a0.length (a0.flatMap e_str))))), (17, (si x2))]), (ft 3 19 (st_ v4) [(18, (D.one (C.peek false [P.v (.string v4)])))]), (ft 4 20 (D.one (C.p false (.sl a1.length (a1.flatMap e_str)))) [(1, (D.one (C.p false (.sl a1.length (a1.flatMap e_str)))))]), (ft 5 21 (si x2) [(5, (si x2))]), (ft 6 22 (D.one (C.peek false [P.v (.string v5)])) [(20, (D.one (C.p false (.sl a1.length (a1.flatMap e_str))))), (21, (si x2))]), (ft 7 23 (st_ v5) [(22, (D.one (C.peek false [P.v (.string v5)])))]), (ft 8 24 (sb (!(v4.toList == v5.toList))) [(19, (st_ v4)), (23, (st_ v5))])] [[], [], [0, 1], [0, 1, 2], [], [], [4, 5], [4, 5, 6], (.range 8)] (nl rfl) [0, 0, 1, 2, 0, 0, 1, 2, 3] rfl (TK := []) rfl AllK.nil' (by repeat (first | refine fC ⟨?_, ?_⟩ ?_ | refine sC rfl ?_ | refine hC rfl ?_ | trivial)) ?_ ?_
    ·refine (pC ?_ (pC ?_ (pC ?_ (pC ?_ (pC ?_ (pC ?_ (pC ?_ (pC ?_ (pC ?_ AllStep.nil')))))))))
     ·intro K rest fr hv htk k
      show AWops _ x _ _ K ⟨26, (upd 26 fr 0 (D.one (C.p false (.sl a0.length (a0.flatMap e_str))))), _⟩
      refine s_move (d := (D.one (C.p false (.sl a0.length (a0.flatMap e_str))))) rfl k
     ·intro K rest fr hv htk k
      show AWops _ x _ _ K ⟨26, (upd 26 fr 5 (si x2)), _⟩
      refine s_move (d := (si x2)) rfl k
     ·intro K rest fr hv htk k
      show AWops _ x _ _ K ⟨26, (upd 26 (upd 26 fr 17 (si x2)) 16 (D.one (C.p false (.sl a0.length (a0.flatMap e_str))))), []⟩
      refine s_indexImm (ps := [P.v (.string v4)]) F.u_55 F.sz_9 rfl rfl pv4 qv4 (flat_at e_str_len gv4 (e_str_eq v4)) k
     ·intro K rest fr hv htk k
      show AWops _ x _ _ K ⟨26, (upd 26 fr 18 (D.one (C.peek false [P.v (.string v4)]))), []⟩
      refine s_load1 (c' := (ct v4)) F.ag_9 rfl rfl k
     ·intro K rest fr hv htk k
      show AWops _ x _ _ K ⟨26, (upd 26 fr 1 (D.one (C.p false (.sl a1.length (a1.flatMap e_str))))), _⟩
      refine s_move (d := (D.one (C.p false (.sl a1.length (a1.flatMap e_str))))) rfl k
     ·intro K rest fr hv htk k
      show AWops _ x _ _ K ⟨26, (upd 26 fr 5 (si x2)), _⟩
      refine s_move (d := (si x2)) rfl k
     ·intro K rest fr hv htk k
      show AWops _ x _ _ K ⟨26, (upd 26 (upd 26 fr 21 (si x2)) 20 (D.one (C.p false (.sl a1.length (a1.flatMap e_str))))), []⟩
      refine s_indexImm (ps := [P.v (.string v5)]) F.u_55 F.sz_9 rfl rfl pv5 qv5 (flat_at e_str_len gv5 (e_str_eq v5)) k
     ·intro K rest fr hv htk k
      show AWops _ x _ _ K ⟨26, (upd 26 fr 22 (D.one (C.peek false [P.v (.string v5)]))), []⟩
      refine s_load1 (c' := (ct v5)) F.ag_9 rfl rfl k
     ·intro K rest fr hv htk k
      show AWops _ x _ _ K ⟨26, (upd 26 (upd 26 fr 23 (st_ v5)) 19 (st_ v4)), []⟩
      refine s_binS (v := (.bool (!(v4.toList == v5.toList)))) rfl rfl rfl k
    ·refine AWops.weak (st' := ⟨26, (upd 26 (upd 26 (upd 26 (upd 26 (upd 26 topF 0 (D.one (C.p false (.sl a0.length (a0.flatMap e_str))))) 1 (D.one (C.p false (.sl a1.length (a1.flatMap e_str))))) 12 (si (a0.length : Int))) 13 (si x2)) 24 (sb (!(v4.toList == v5.toList)))), []⟩) (wg 0 [] [] hx (le_upd (le_upd (le_upd (le_upd (le_upd (le_top _) (.t (.one .same))) (.t (.one .same))) (.t (.one .sc))) (.t (.one .sc))) (.t (.one .sc))) an) (AWops.nil ?_)
     rcases itH h with ⟨c6, h⟩ | ⟨c6, h⟩
     ·refine AW.cond_no rfl (by rw [c6] <;> rfl) (AW.skip (AW.region ?_))
      refine s_binI (v := (.int .i64 (IntKind.i64.wrap (x2 + 1)))) rfl rfl rfl ?_
      refine s_move (d := (si (IntKind.i64.wrap (x2 + 1)))) rfl (AWops.nil ?_)
      exact ⟨_, ⟨26, (upd 26 (upd 26 (upd 26 (upd 26 topF 0 (D.one (C.p false (.sl a0.length (a0.flatMap e_str))))) 1 (D.one (C.p false (.sl a1.length (a1.flatMap e_str))))) 12 (si (a0.length : Int))) 13 (si (IntKind.i64.wrap (x2 + 1)))), []⟩, by omega, (wg 0 [] [] hx (le_upd (le_upd (le_upd (le_upd (le_top _) (.t (.one .same))) (.t (.one .same))) (.t (.one .sc))) (.t (.one .sc))) an), by omega, IntKind.i64.wrap (x2 + 1), h, rfl⟩
     ·refine AW.cond_yes rfl (by rw [c6] <;> rfl) (AW.seq (AW.region ?_))
      refine s_assign (d := (sb false)) rfl (AWops.nil (AW.ret ?_))
      obtain rfl := Option.some.inj h
      exact ⟨_, rfl, (wg 0 [] [] rfl (le_upd (le_top _) (.t (.one .sc))) an)⟩
   ·refine AW.cond_no rfl c3 (AW.exit (AW.seq (AW.region ?_)))
    refine s_assign (d := (sb true)) rfl (AWops.nil (AW.ret ?_))
    obtain rfl := Option.some.inj h
    exact ⟨_, rfl, (wg 0 [] [] rfl (le_upd (le_top _) (.t (.one .sc))) an)⟩
def vdisk_Disk_Used.f (k : Nat) (p0 : vdisk_Disk) : Option Int := (vdisk_Disk_none.f k p0).bind fun r1 => some p0.used
theorem vdisk_Disk_Used.meets (k : Nat) (p0 : vdisk_Disk) (r : Int) (h : vdisk_Disk_Used.f k p0 = some r) : Meets Try.prog 17 [(rf 0 0)] [(o_vdisk_Disk_03 false (C.mp 1) (C.p true (.v (.pointer none))) p0), (om_ e_vdisk_file p0.files)] (si r) [(o_vdisk_Disk_03 false (C.mp 1) (C.p true (.v (.pointer none))) p0), (om_ e_vdisk_file p0.files)] := by
 unfold vdisk_Disk_Used.f at h
 refine Meets.of_body (n := 9) Try.func17 rfl rfl (nl rfl) fun x hx => ?_
 replace hx : x.k = 2 := hx
 show AW _ x _ _ ⟨9, fr0 [(rf 0 0)], [(o_vdisk_Disk_03 false (C.mp 1) (C.p true (.v (.pointer none))) p0), (om_ e_vdisk_file p0.files)]⟩
 refine AW.seq (AW.region ?_)
 refine s_assign (d := (si 0)) rfl (AWops.nil (AW.seq (AW.seq (AW.region ?_))))
 refine s_move (d := (rf 0 0)) rfl ?_
 obtain ⟨r1, er1, h⟩ := bnd h
 have kr1 := vdisk_Disk_none.const er1
 subst kr1
 refine s_call2 (ρ := [0, 1]) (br := false) (H2 := [(o_vdisk_Disk_03 false (C.mp 1) (C.p true (.v (.pointer none))) p0), (om_ e_vdisk_file p0.files)]) (d := (sb false)) F.ca_35 rfl rfl (ac (.one (.ref rfl)) an) (ac (.cells (ac (.mp rfl) (ac .sc (ac .sc (ac .sc (ac .sc an)))))) (ac .map an)) (by decide) rfl (vdisk_Disk_none.meets _ p0 false er1) (.inl rfl) rfl rfl (AWops.nil ?_)
 refine AW.cond_no rfl rfl (AW.skip (AW.seq (AW.region ?_)))
 refine s_move (d := (rf 0 0)) rfl ?_
 refine s_nilCheck (d := (rf 0 0)) rfl (.inl ⟨_, _, rfl⟩) ?_
 refine s_fieldRef F.fo_50_2 (by decide) rfl ?_
 refine s_load1 (c' := (ci p0.used)) F.ag_3 rfl rfl ?_
 refine s_assign (d := (si p0.used)) rfl (AWops.nil (AW.ret ?_))
 obtain rfl := Option.some.inj h
 exact ⟨_, rfl, (wg 2 [0, 1] [] rfl (le_upd (le_top _) (.t (.one .sc))) (ac (.cells id (ac (.mp rfl) (ac .sc (ac .sc (ac .sc (ac .sc an)))))) (ac .map an)))⟩
def vdisk_Disk_Dead.f (k : Nat) (p0 : vdisk_Disk) : Option Bool := (vdisk_Disk_none.f k p0).bind fun r1 => some p0.dead
theorem vdisk_Disk_Dead.meets (k : Nat) (p0 : vdisk_Disk) (r : Bool) (h : vdisk_Disk_Dead.f k p0 = some r) : Meets Try.prog 23 [(rf 0 0)] [(o_vdisk_Disk_03 false (C.mp 1) (C.p true (.v (.pointer none))) p0), (om_ e_vdisk_file p0.files)] (sb r) [(o_vdisk_Disk_03 false (C.mp 1) (C.p true (.v (.pointer none))) p0), (om_ e_vdisk_file p0.files)] := by
 unfold vdisk_Disk_Dead.f at h
 refine Meets.of_body (n := 11) Try.func23 rfl rfl (nl rfl) fun x hx => ?_
 replace hx : x.k = 2 := hx
 show AW _ x _ _ ⟨11, fr0 [(rf 0 0)], [(o_vdisk_Disk_03 false (C.mp 1) (C.p true (.v (.pointer none))) p0), (om_ e_vdisk_file p0.files)]⟩
 refine AW.seq (AW.region ?_)
 refine s_assign (d := (sb false)) rfl (AWops.nil (AW.seq (AW.region ?_)))
 refine s_move (d := (rf 0 0)) rfl ?_
 obtain ⟨r1, er1, h⟩ := bnd h
 have kr1 := vdisk_Disk_none.const er1
 subst kr1
 refine s_call2 (ρ := [0, 1]) (br := false) (H2 := [(o_vdisk_Disk_03 false (C.mp 1) (C.p true (.v (.pointer none))) p0), (om_ e_vdisk_file p0.files)]) (d := (sb false)) F.ca_35 rfl rfl (ac (.one (.ref rfl)) an) (ac (.cells (ac (.mp rfl) (ac .sc (ac .sc (ac .sc (ac .sc an)))))) (ac .map an)) (by decide) rfl (vdisk_Disk_none.meets _ p0 false er1) (.inl rfl) rfl rfl ?_
 refine s_move (d := (sb false)) rfl ?_
 refine AWops.guard_yes rfl (nl rfl) rfl rfl ?_
 refine s_move (d := (rf 0 0)) rfl ?_
 refine AWops.guard_yes rfl (nl rfl) rfl rfl ?_
 refine s_nilCheck (d := (rf 0 0)) rfl (.inl ⟨_, _, rfl⟩) ?_
 refine AWops.guard_yes rfl (nl rfl) rfl rfl ?_
 refine s_fieldRef F.fo_50_4 (by decide) rfl ?_
 refine AWops.guard_yes rfl (nl rfl) rfl rfl ?_
 refine s_load1 (c' := (cb p0.dead)) F.ag_4 rfl rfl ?_
 refine s_pick_no (d := (sb p0.dead)) rfl rfl rfl ?_
 refine s_assign (d := (sb p0.dead)) rfl (AWops.nil (AW.ret ?_))
 obtain rfl := Option.some.inj h
 exact ⟨_, rfl, (wg 2 [0, 1] [] rfl (le_upd (le_top _) (.t (.one .sc))) (ac (.cells id (ac (.mp rfl) (ac .sc (ac .sc (ac .sc (ac .sc an)))))) (ac .map an)))⟩
def dossierref03_Disk_Read.f (k : Nat) (p0 : dossierref03_Disk) (a1 : ByteArray) : Option ((List Int) × Int) := (dossierref03_Disk_there.f k p0 a1).bind fun r1 => if (r1.2 != 0) = true then (some (([] : List Int), r1.2)) else (if (decide (([] : List Int).length + r1.1.B.length ≤ 140737488355328)) = true then (some (r1.1.B, 0)) else none)
theorem dossierref03_Disk_Read.meets (k : Nat) (p0 : dossierref03_Disk) (a1 : ByteArray) (r : (List Int) × Int) (h : dossierref03_Disk_Read.f k p0 a1 = some r) : Meets Try.prog 27 [(rf 0 0), (st_ a1)] [(o_dossierref03_Disk_0 false (C.own 1 0 p0.L.length 3) p0), (or_ e_dossierref03_File p0.L)] (D.tup [(D.one (C.p false (.sl r.1.length (r.1.flatMap e_u8)))), (si r.2)]) [(o_dossierref03_Disk_0 false (C.own 1 0 p0.L.length 3) p0), (or_ e_dossierref03_File p0.L)] := by
 unfold dossierref03_Disk_Read.f at h
 refine Meets.of_body (n := 21) Try.func27 rfl rfl (nl rfl) fun x hx => ?_
 replace hx : x.k = 2 := hx
 show AW _ x _ _ ⟨21, fr0 [(rf 0 0), (st_ a1)], [(o_dossierref03_Disk_0 false (C.own 1 0 p0.L.length 3) p0), (or_ e_dossierref03_File p0.L)]⟩
 refine AW.seq (AW.region ?_)
 refine s_assign (d := (sc (.slice none 0 0))) rfl ?_
 refine s_assign (d := (si 0)) rfl (AWops.nil (AW.seq (AW.region ?_)))
 refine s_move (d := (rf 0 0)) rfl ?_
 refine s_move (d := (st_ a1)) rfl ?_
 obtain ⟨r1, er1, h⟩ := bnd h
 refine s_call2 (ρ := [0, 1]) (br := false) (H2 := [(o_dossierref03_Disk_0 false (C.own 1 0 p0.L.length 3) p0), (or_ e_dossierref03_File p0.L)]) (d := (D.tup [(D.agg (c_dossierref03_File r1.1)), (si r1.2)])) F.ca_53 rfl rfl (ac (.one (.ref rfl)) (ac (.one .sc) an)) (ac (.cells (ac (.own rfl) (ac .sc (ac .sc (ac .sc an))))) (ac (.cells (lend_row _)) an)) (by decide) rfl (dossierref03_Disk_there.meets _ p0 a1 r1 er1) (.inl rfl) (by first | rfl | (simp only [mS]; done) | (simp only [mS]; rfl)) rfl ?_
 refine s_move (d := (D.tup [(D.agg (c_dossierref03_File r1.1)), (si r1.2)])) rfl ?_
 refine s_extract (d := (D.agg (c_dossierref03_File r1.1))) rfl rfl ?_
 refine s_extract (d := (si r1.2)) rfl rfl ?_
 refine s_alloc (cs := [(ct (⟨#[]⟩ : ByteArray)), (C.p true (.v (.slice none 0 0))), (ci 0)]) F.z_82 rfl rfl ?_
 refine s_store (cs' := (c_dossierref03_File r1.1)) rfl rfl rfl (List.cons_ne_nil _ _) rfl F.sz_82 (nl rfl) rfl ?_
 refine s_assign (d := (si r1.2)) rfl (AWops.nil (AW.seq (AW.seq (AW.region ?_))))
 refine s_move (d := (si r1.2)) rfl ?_
 refine s_binI (v := (.bool (r1.2 != 0))) rfl rfl rfl (AWops.nil ?_)
 rcases itH h with ⟨c2, h⟩ | ⟨c2, h⟩
 ·refine AW.cond_yes rfl c2 (AW.seq (AW.region ?_))
  refine s_move (d := (si r1.2)) rfl ?_
  refine s_assign (d := (sc (.slice none 0 0))) rfl ?_
  refine s_assign (d := (si r1.2)) rfl (AWops.nil (AW.ret ?_))
  obtain rfl := Option.some.inj h
  exact ⟨_, rfl, (wg 2 [0, 1] [] rfl (le_upd (le_top _) (DLe.tup (ac (TLe.one .nil) (ac (TLe.one .sc) an)))) (ac (.cells id (ac (.own rfl) (ac .sc (ac .sc (ac .sc an))))) (ac (.cells id (all2_row _)) an)))⟩
 ·refine AW.cond_no rfl c2 (AW.skip (AW.seq (AW.region ?_)))
  refine s_buildSlice (n := 0) (ps := []) (cs := rowC e_u8 ([] : List Int)) F.u_22 F.sz_5 F.z_5 rfl rfl (by decide) (by decide) rfl rfl ?_
  refine s_fieldRef F.fo_82_1 (by decide) rfl ?_
  refine s_load1 (c' := (C.p false (.sl r1.1.B.length (r1.1.B.flatMap e_u8)))) F.ag_22 rfl rfl ?_
  obtain ⟨c3, h⟩ := gdH h
  have dc3 := of_decide_eq_true c3
  refine t_append (xs := ([] : List Int)) (ys := r1.1.B) (zs := r1.1.B) (H' := [(o_dossierref03_Disk_0 false (C.own 1 0 p0.L.length 3) p0), (or_ e_dossierref03_File p0.L), (some (AObj.cells true (c_dossierref03_File r1.1))), none, (ow_ e_u8 r1.1.B)]) F.u_22 F.in_5 rfl e_u8_len (.own rfl rfl) .imm F.u_22 (by omega) (by omega) rfl rfl ?_
  refine s_assign (d := (D.one (C.own 4 0 r1.1.B.length 1))) rfl ?_
  refine s_assign (d := (si 0)) rfl (AWops.nil (AW.ret ?_))
  obtain rfl := Option.some.inj h
  exact ⟨_, rfl, (wg 2 [0, 1] [4] rfl (le_upd (le_top _) (DLe.tup (ac (TLe.one (CLe.frz e_u8_len rfl rfl rfl)) (ac (TLe.one .sc) an)))) (ac (.cells id (ac (.own rfl) (ac .sc (ac .sc (ac .sc an))))) (ac (.cells id (all2_row _)) an)))⟩
def bytes_Equal.f (k : Nat) (a0 : List Int) (a1 : List Int) : Option Bool := some ((ofNums a0).toList == (ofNums a1).toList)
theorem bytes_Equal.meets (k : Nat) (a0 : List Int) (a1 : List Int) (r : Bool) (h : bytes_Equal.f k a0 a1 = some r) : Meets Try.prog 28 [(D.one (C.p false (.sl a0.length (a0.flatMap e_u8)))), (D.one (C.p false (.sl a1.length (a1.flatMap e_u8))))] [] (sb r) [] := by
 unfold bytes_Equal.f at h
 refine Meets.of_body (n := 10) Try.func28 rfl rfl (nl rfl) fun x hx => ?_
 replace hx : x.k = 0 := hx
 show AW _ x _ _ ⟨10, fr0 [(D.one (C.p false (.sl a0.length (a0.flatMap e_u8)))), (D.one (C.p false (.sl a1.length (a1.flatMap e_u8))))], []⟩
 refine AW.seq (AW.region ?_)
 refine s_assign (d := (sb false)) rfl (AWops.nil (AW.seq (AW.region ?_)))
 refine s_move (d := (D.one (C.p false (.sl a0.length (a0.flatMap e_u8))))) rfl ?_
 refine t_toStr (xs := a0) F.u_22 F.u_5 F.u_9 .imm ?_
 refine s_move (d := (D.one (C.p false (.sl a1.length (a1.flatMap e_u8))))) rfl ?_
 refine t_toStr (xs := a1) F.u_22 F.u_5 F.u_9 .imm ?_
 refine s_binS (v := (.bool ((ofNums a0).toList == (ofNums a1).toList))) rfl rfl rfl ?_
 refine s_assign (d := (sb ((ofNums a0).toList == (ofNums a1).toList))) rfl (AWops.nil (AW.ret ?_))
 obtain rfl := Option.some.inj h
 exact ⟨_, rfl, (wg 0 [] [] rfl (le_upd (le_top _) (.t (.one .sc))) an)⟩
mutual
def dossierplain_Same.l0 : Nat → Int → vdisk_Disk → dossierref03_Disk → Option Bool
 | 0, _, _, _ => none
 | k + 1, x10, p0, p1 => if (decide (x10 < (p1.L.length : Int))) = true then ((rd p1.L x10).bind fun v12 => (vdisk_Disk_Read.f k p0 v12.Name).bind fun r14 => (dossierref03_Disk_Read.f k p1 v12.Name).bind fun r15 => if (r14.2 != r15.2) = true then (some false) else ((bytes_Equal.f k r14.1 r15.1).bind fun r17 => if r17 = true then (dossierplain_Same.l0 k (IntKind.i64.wrap (x10 + 1)) p0 p1) else (some false))) else (some true)
end
def dossierplain_Same.f (k : Nat) (p0 : vdisk_Disk) (p1 : dossierref03_Disk) : Option Bool := (vdisk_Disk_Names.f k p0).bind fun r1 => (dossierref03_Disk_Names.f k p1).bind fun r2 => (slices_Equal_string_string.f k r1 r2).bind fun r3 => if r3 = true then ((vdisk_Disk_Used.f k p0).bind fun r5 => (dossierref03_Disk_Used.f k p1).bind fun r6 => if (r5 != r6) = true then (some false) else ((vdisk_Disk_Dead.f k p0).bind fun r8 => if (r8 == p1.Off) = true then (dossierplain_Same.l0 k 0 p0 p1) else (some false))) else (some false)
theorem dossierplain_Same.meets (k : Nat) (p0 : vdisk_Disk) (p1 : dossierref03_Disk) (r : Bool) (h : dossierplain_Same.f k p0 p1 = some r) : Meets Try.prog 26 [(rf 0 0), (rf 1 0)] [(o_vdisk_Disk_03 false (C.mp 2) (C.p true (.v (.pointer none))) p0), (o_dossierref03_Disk_0 false (C.own 3 0 p1.L.length 3) p1), (om_ e_vdisk_file p0.files), (or_ e_dossierref03_File p1.L)] (sb r) [(o_vdisk_Disk_03 false (C.mp 2) (C.p true (.v (.pointer none))) p0), (o_dossierref03_Disk_0 false (C.own 3 0 p1.L.length 3) p1), (om_ e_vdisk_file p0.files), (or_ e_dossierref03_File p1.L)] := by
 unfold dossierplain_Same.f at h
 refine Meets.of_body (n := 66) Try.func26 rfl rfl (nl rfl) fun x hx => ?_
 replace hx : x.k = 4 := hx
 show AW _ x _ _ ⟨66, fr0 [(rf 0 0), (rf 1 0)], [(o_vdisk_Disk_03 false (C.mp 2) (C.p true (.v (.pointer none))) p0), (o_dossierref03_Disk_0 false (C.own 3 0 p1.L.length 3) p1), (om_ e_vdisk_file p0.files), (or_ e_dossierref03_File p1.L)]⟩
 refine AW.seq (AW.region ?_)
 refine s_assign (d := (sb false)) rfl (AWops.nil (AW.seq (AW.seq ?_)))
 refine AW.weak (st' := ⟨66, (upd 66 (upd 66 topF 0 (rf 0 0)) 1 (rf 1 0)), [(o_vdisk_Disk_03 false (C.mp 2) (C.p true (.v (.pointer none))) p0), (o_dossierref03_Disk_0 false (C.own 3 0 p1.L.length 3) p1), (om_ e_vdisk_file p0.files), (or_ e_dossierref03_File p1.L)]⟩) (wg 4 [0, 1, 2, 3] [] hx (le_upd (le_upd (le_top _) (.t (.one (.ref rfl)))) (.t (.one (.ref rfl)))) (ac (.cells id (ac (.mp rfl) (ac .sc (ac .sc (ac .sc (ac .sc an)))))) (ac (.cells id (ac (.own rfl) (ac .sc (ac .sc (ac .sc an))))) (ac .map (ac (.cells id (all2_row _)) an))))) ?_
 obtain ⟨r1, er1, h⟩ := bnd h
 obtain ⟨r2, er2, h⟩ := bnd h
 obtain ⟨r3, er3, h⟩ := bnd h
 rcases itH h with ⟨c4, h⟩ | ⟨c4, h⟩
 ·obtain ⟨r5, er5, h⟩ := bnd h
  obtain ⟨r6, er6, h⟩ := bnd h
  rcases itH h with ⟨c7, h⟩ | ⟨c7, h⟩
  ·refine AW.draw (n := 66) (L := 10) [(ft 0 11 (rf 0 0) [(0, (rf 0 0))]), (1, ⟨some 12, (D.one (C.own 4 0 r1.length 1)), [(11, (rf 0 0))], [(0, (o_vdisk_Disk_03 false (C.mp 2) (C.p true (.v (.pointer none))) p0)), (2, (om_ e_vdisk_file p0.files))], [(4, (ow_ e_str r1))], some 4⟩), (ft 2 13 (rf 1 0) [(1, (rf 1 0))]), (3, ⟨some 14, (D.one (C.own 5 0 r2.length 1)), [(13, (rf 1 0))], [(1, (o_dossierref03_Disk_0 false (C.own 3 0 p1.L.length 3) p1)), (3, (or_ e_dossierref03_File p1.L))], [(5, (ow_ e_str r2))], some 5⟩), (4, ⟨some 15, (sb r3), [(12, (D.one (C.own 4 0 r1.length 1))), (14, (D.one (C.own 5 0 r2.length 1)))], [(4, (ow_ e_str r1)), (5, (ow_ e_str r2))], [], none⟩), (ft 5 16 (sb (!r3)) [(15, (sb r3))]), (ft 6 17 (sb (!r3)) [(16, (sb (!r3)))]), (ft 7 18 (rf 0 0) [(0, (rf 0 0)), (17, (sb (!r3)))]), (8, ⟨some 19, (si r5), [(17, (sb (!r3))), (18, (rf 0 0))], [(0, (o_vdisk_Disk_03 false (C.mp 2) (C.p true (.v (.pointer none))) p0)), (2, (om_ e_vdisk_file p0.files))], [], none⟩), (ft 9 20 (rf 1 0) [(1, (rf 1 0)), (17, (sb (!r3)))]), (10, ⟨some 21, (si r6), [(17, (sb (!r3))), (20, (rf 1 0))], [(1, (o_dossierref03_Disk_0 false (C.own 3 0 p1.L.length 3) p1)), (3, (or_ e_dossierref03_File p1.L))], [], none⟩), (ft 11 22 (sb (r5 != r6)) [(17, (sb (!r3))), (19, (si r5)), (21, (si r6))]), (ft 12 23 (sb (r5 != r6)) [(17, (sb (!r3))), (22, (sb (r5 != r6)))]), (ft 13 24 (sb (r5 != r6)) [(23, (sb (r5 != r6)))]), (ft 14 25 (D.tup []) [(0, (rf 0 0)), (24, (sb (r5 != r6)))]), (ft 15 26 (D.tup []) [(24, (sb (r5 != r6)))]), (ft 16 27 (D.tup []) [(24, (sb (r5 != r6)))]), (ft 17 28 (D.tup []) [(24, (sb (r5 != r6)))]), (ft 18 29 (D.tup []) [(24, (sb (r5 != r6)))]), (ft 19 30 (D.tup []) [(24, (sb (r5 != r6)))]), (ft 20 31 (D.tup []) [(24, (sb (r5 != r6)))]), (ft 21 32 (sb true) [(24, (sb (r5 != r6)))])] [[], [0], [], [0, 1, 2], [0, 1, 2, 3], (.range 5), (.range 6), (.range 7), (.range 8), (.range 7), (.range 10), (.range 11), (.range 12), (.range 13), (.range 14), (.range 15), (.range 14), (.range 14 ++ [16]), (.range 14 ++ [16, 17]), (.range 14 ++ [16, 17, 18]), (.range 20), (.range 21)] (nl rfl) [0, 1, 0, 2, 3, 4, 5, 6, 7, 6, 8, 9, 10, 11, 12, 13, 12, 13, 14, 15, 16, 17] rfl (TK := [(1, 4), (3, 5)]) rfl (AllK.cons' ⟨(tk_upd (tk_upd tk_top rfl) rfl), (tC rfl (tC rfl (tC rfl (tC (tkO_row _) AllT.nil')))), (by repeat (first | refine fC (.inl rfl) ?_ | refine fC (.inr rfl) ?_ | refine fC (.inr (by unfold tkFoot; simp only [List.all_cons, List.all_nil, tkO_row, Bool.and_true, Bool.true_and]; rfl)) ?_ | trivial))⟩ (AllK.cons' ⟨(tk_upd (tk_upd tk_top rfl) rfl), (tC rfl (tC rfl (tC rfl (tC (tkO_row _) AllT.nil')))), (by repeat (first | refine fC (.inl rfl) ?_ | refine fC (.inr rfl) ?_ | refine fC (.inr (by unfold tkFoot; simp only [List.all_cons, List.all_nil, tkO_row, Bool.and_true, Bool.true_and]; rfl)) ?_ | trivial))⟩ AllK.nil')) (by repeat (first | refine fC ⟨?_, ?_⟩ ?_ | refine sC rfl ?_ | refine hC rfl ?_ | trivial)) ?_ ?_
   ·refine (pC ?_ (pC ?_ (pC ?_ (pC ?_ (pC ?_ (pC ?_ (pC ?_ (pC ?_ (pC ?_ (pC ?_ (pC ?_ (pC ?_ (pC ?_ (pC ?_ (pC ?_ (pC ?_ (pC ?_ (pC ?_ (pC ?_ (pC ?_ (pC ?_ (pC ?_ AllStep.nil'))))))))))))))))))))))
    ·intro K rest fr hv htk k
     show AWops _ x _ _ K ⟨66, (upd 66 fr 0 (rf 0 0)), _⟩
     refine s_move (d := (rf 0 0)) rfl k
    ·intro K rest fr hv htk k
     show AWops _ x _ _ K ⟨66, (upd 66 fr 11 (rf 0 0)), [(o_vdisk_Disk_03 false (C.mp 2) (C.p true (.v (.pointer none))) p0), (hv 1), (om_ e_vdisk_file p0.files), (hv 3), (hv 4), (hv 5), (hv 6), (hv 7), (hv 8), (hv 9)]⟩
     refine s_call2 (ρ := [0, 2]) (br := false) (H2 := [(o_vdisk_Disk_03 false (C.mp 2) (C.p true (.v (.pointer none))) p0), (hv 1), (om_ e_vdisk_file p0.files), (hv 3), (hv 4), (hv 5), (hv 6), (hv 7), (hv 8), (hv 9), (ow_ e_str r1)]) (d := (D.one (C.own 10 0 r1.length 1))) F.ca_24 rfl rfl (ac (.one (.ref rfl)) an) (ac (.cells (ac (.mp rfl) (ac .sc (ac .sc (ac .sc (ac .sc an)))))) (ac .map an)) (by decide) rfl (vdisk_Disk_Names.meets _ p0 r1 er1) (.inl rfl) (by first | rfl | (simp only [mS]; done) | (simp only [mS]; rfl)) rfl ?_
     refine AWops.weak (st' := ⟨66, (upd 66 (upd 66 fr 11 (rf 0 0)) 12 (D.one (C.own 4 0 r1.length 1))), [(o_vdisk_Disk_03 false (C.mp 2) (C.p true (.v (.pointer none))) p0), (hv 1), (om_ e_vdisk_file p0.files), (hv 3), (ow_ e_str r1), (hv 5), (hv 6), (hv 7), (hv 8), (hv 9)]⟩) (wg 4 [0, 1, 2, 3, 10, 5, 6, 7, 8, 9] [] hx (le_upd2 (le_ok (p := 4) (L := 10) rfl (htk 4 rfl).1) (.t (.one (.own rfl)))) (ac (.cells id (ac (.mp rfl) (ac .sc (ac .sc (ac .sc (ac .sc an)))))) (ac (oq 4 10 (htk 4 rfl) 1) (ac .map (ac (oq 4 10 (htk 4 rfl) 3) (ac (.cells (fun _ => rfl) (all2_row _)) (ac (oq 4 10 (htk 4 rfl) 5) (ac (oq 4 10 (htk 4 rfl) 6) (ac (oq 4 10 (htk 4 rfl) 7) (ac (oq 4 10 (htk 4 rfl) 8) (ac (oq 4 10 (htk 4 rfl) 9) an))))))))))) k
    ·intro K rest fr hv htk k
     show AWops _ x _ _ K ⟨66, (upd 66 fr 1 (rf 1 0)), _⟩
     refine s_move (d := (rf 1 0)) rfl k
    ·intro K rest fr hv htk k
     show AWops _ x _ _ K ⟨66, (upd 66 fr 13 (rf 1 0)), [(hv 0), (o_dossierref03_Disk_0 false (C.own 3 0 p1.L.length 3) p1), (hv 2), (or_ e_dossierref03_File p1.L), (hv 4), (hv 5), (hv 6), (hv 7), (hv 8), (hv 9)]⟩
     refine s_call2 (ρ := [1, 3]) (br := false) (H2 := [(hv 0), (o_dossierref03_Disk_0 false (C.own 3 0 p1.L.length 3) p1), (hv 2), (or_ e_dossierref03_File p1.L), (hv 4), (hv 5), (hv 6), (hv 7), (hv 8), (hv 9), (ow_ e_str r2)]) (d := (D.one (C.own 10 0 r2.length 1))) F.ca_51 rfl rfl (ac (.one (.ref rfl)) an) (ac (.cells (ac (.own rfl) (ac .sc (ac .sc (ac .sc an))))) (ac (.cells (lend_row _)) an)) (by decide) rfl (dossierref03_Disk_Names.meets _ p1 r2 er2) (.inl rfl) (by first | rfl | (simp only [mS]; done) | (simp only [mS]; rfl)) rfl ?_
     refine AWops.weak (st' := ⟨66, (upd 66 (upd 66 fr 13 (rf 1 0)) 14 (D.one (C.own 5 0 r2.length 1))), [(hv 0), (o_dossierref03_Disk_0 false (C.own 3 0 p1.L.length 3) p1), (hv 2), (or_ e_dossierref03_File p1.L), (hv 4), (ow_ e_str r2), (hv 6), (hv 7), (hv 8), (hv 9)]⟩) (wg 4 [0, 1, 2, 3, 4, 10, 6, 7, 8, 9] [] hx (le_upd2 (le_ok (p := 5) (L := 10) rfl (htk 5 rfl).1) (.t (.one (.own rfl)))) (ac (oq 5 10 (htk 5 rfl) 0) (ac (.cells id (ac (.own rfl) (ac .sc (ac .sc (ac .sc an))))) (ac (oq 5 10 (htk 5 rfl) 2) (ac (.cells id (all2_row _)) (ac (oq 5 10 (htk 5 rfl) 4) (ac (.cells (fun _ => rfl) (all2_row _)) (ac (oq 5 10 (htk 5 rfl) 6) (ac (oq 5 10 (htk 5 rfl) 7) (ac (oq 5 10 (htk 5 rfl) 8) (ac (oq 5 10 (htk 5 rfl) 9) an))))))))))) k
    ·intro K rest fr hv htk k
     show AWops _ x _ _ K ⟨66, (upd 66 (upd 66 fr 14 (D.one (C.own 5 0 r2.length 1))) 12 (D.one (C.own 4 0 r1.length 1))), [(hv 0), (hv 1), (hv 2), (hv 3), (ow_ e_str r1), (ow_ e_str r2), (hv 6), (hv 7), (hv 8), (hv 9)]⟩
     refine s_call2 (ρ := []) (br := true) (H2 := [(hv 0), (hv 1), (hv 2), (hv 3), (ow_ e_str r1), (ow_ e_str r2), (hv 6), (hv 7), (hv 8), (hv 9)]) (d := (sb r3)) F.ca_50 rfl rfl (ac (.one (LendC.bor e_str_len rfl rfl rfl)) (ac (.one (LendC.bor e_str_len rfl rfl rfl)) an)) an (by decide) rfl (slices_Equal_string_string.meets _ r1 r2 r3 er3) (.inr ⟨rfl, rfl⟩) rfl rfl k
    ·intro K rest fr hv htk k
     show AWops _ x _ _ K ⟨66, (upd 66 fr 15 (sb r3)), [(hv 0), (hv 1), (hv 2), (hv 3), (hv 4), (hv 5), (hv 6), (hv 7), (hv 8), (hv 9)]⟩
     refine s_not rfl k
    ·intro K rest fr hv htk k
     show AWops _ x _ _ K ⟨66, (upd 66 fr 16 (sb (!r3))), _⟩
     refine s_move (d := (sb (!r3))) rfl k
    ·intro K rest fr hv htk k
     show AWops _ x _ _ K ⟨66, (upd 66 (upd 66 fr 17 (sb (!r3))) 0 (rf 0 0)), _⟩
     refine AWops.guard_yes rfl (nl rfl) rfl (by rw [c4] <;> rfl) ?_
     refine s_move (d := (rf 0 0)) rfl k
    ·intro K rest fr hv htk k
     show AWops _ x _ _ K ⟨66, (upd 66 (upd 66 fr 18 (rf 0 0)) 17 (sb (!r3))), [(o_vdisk_Disk_03 false (C.mp 2) (C.p true (.v (.pointer none))) p0), (hv 1), (om_ e_vdisk_file p0.files), (hv 3), (hv 4), (hv 5), (hv 6), (hv 7), (hv 8), (hv 9)]⟩
     refine AWops.guard_yes rfl (nl rfl) rfl (by rw [c4] <;> rfl) ?_
     refine s_call2 (ρ := [0, 2]) (br := false) (H2 := [(o_vdisk_Disk_03 false (C.mp 2) (C.p true (.v (.pointer none))) p0), (hv 1), (om_ e_vdisk_file p0.files), (hv 3), (hv 4), (hv 5), (hv 6), (hv 7), (hv 8), (hv 9)]) (d := (si r5)) F.ca_17 rfl rfl (ac (.one (.ref rfl)) an) (ac (.cells (ac (.mp rfl) (ac .sc (ac .sc (ac .sc (ac .sc an)))))) (ac .map an)) (by decide) rfl (vdisk_Disk_Used.meets _ p0 r5 er5) (.inl rfl) rfl rfl k
    ·intro K rest fr hv htk k
     show AWops _ x _ _ K ⟨66, (upd 66 (upd 66 fr 17 (sb (!r3))) 1 (rf 1 0)), _⟩
     refine AWops.guard_yes rfl (nl rfl) rfl (by rw [c4] <;> rfl) ?_
     refine s_move (d := (rf 1 0)) rfl k
    ·intro K rest fr hv htk k
     show AWops _ x _ _ K ⟨66, (upd 66 (upd 66 fr 20 (rf 1 0)) 17 (sb (!r3))), [(hv 0), (o_dossierref03_Disk_0 false (C.own 3 0 p1.L.length 3) p1), (hv 2), (or_ e_dossierref03_File p1.L), (hv 4), (hv 5), (hv 6), (hv 7), (hv 8), (hv 9)]⟩
     refine AWops.guard_yes rfl (nl rfl) rfl (by rw [c4] <;> rfl) ?_
     refine s_call2 (ρ := [1, 3]) (br := false) (H2 := [(hv 0), (o_dossierref03_Disk_0 false (C.own 3 0 p1.L.length 3) p1), (hv 2), (or_ e_dossierref03_File p1.L), (hv 4), (hv 5), (hv 6), (hv 7), (hv 8), (hv 9)]) (d := (si r6)) F.ca_52 rfl rfl (ac (.one (.ref rfl)) an) (ac (.cells (ac (.own rfl) (ac .sc (ac .sc (ac .sc an))))) (ac (.cells (lend_row _)) an)) (by decide) rfl (dossierref03_Disk_Used.meets _ p1 r6 er6) (.inl rfl) (by first | rfl | (simp only [mS]; done) | (simp only [mS]; rfl)) rfl k
    ·intro K rest fr hv htk k
     show AWops _ x _ _ K ⟨66, (upd 66 (upd 66 (upd 66 fr 21 (si r6)) 19 (si r5)) 17 (sb (!r3))), _⟩
     refine AWops.guard_yes rfl (nl rfl) rfl (by rw [c4] <;> rfl) ?_
     refine s_binI (v := (.bool (r5 != r6))) rfl rfl rfl k
    ·intro K rest fr hv htk k
     show AWops _ x _ _ K ⟨66, (upd 66 (upd 66 fr 22 (sb (r5 != r6))) 17 (sb (!r3))), _⟩
     refine s_pick_no (d := (sb (r5 != r6))) rfl (by rw [c4] <;> rfl) rfl k
    ·intro K rest fr hv htk k
     show AWops _ x _ _ K ⟨66, (upd 66 fr 23 (sb (r5 != r6))), _⟩
     refine s_move (d := (sb (r5 != r6))) rfl k
    ·intro K rest fr hv htk k
     show AWops _ x _ _ K ⟨66, (upd 66 (upd 66 fr 24 (sb (r5 != r6))) 0 (rf 0 0)), _⟩
     refine AWops.guard_no rfl (nl rfl) rfl c7 k
    ·intro K rest fr hv htk k
     show AWops _ x _ _ K ⟨66, (upd 66 fr 24 (sb (r5 != r6))), _⟩
     refine AWops.guard_no rfl (nl rfl) rfl c7 k
    ·intro K rest fr hv htk k
     show AWops _ x _ _ K ⟨66, (upd 66 fr 24 (sb (r5 != r6))), _⟩
     refine AWops.guard_no rfl (nl rfl) rfl c7 k
    ·intro K rest fr hv htk k
     show AWops _ x _ _ K ⟨66, (upd 66 fr 24 (sb (r5 != r6))), _⟩
     refine AWops.guard_no rfl (nl rfl) rfl c7 k
    ·intro K rest fr hv htk k
     show AWops _ x _ _ K ⟨66, (upd 66 fr 24 (sb (r5 != r6))), _⟩
     refine AWops.guard_no rfl (nl rfl) rfl c7 k
    ·intro K rest fr hv htk k
     show AWops _ x _ _ K ⟨66, (upd 66 fr 24 (sb (r5 != r6))), _⟩
     refine AWops.guard_no rfl (nl rfl) rfl c7 k
    ·intro K rest fr hv htk k
     show AWops _ x _ _ K ⟨66, (upd 66 fr 24 (sb (r5 != r6))), _⟩
     refine AWops.guard_no rfl (nl rfl) rfl c7 k
    ·intro K rest fr hv htk k
     show AWops _ x _ _ K ⟨66, (upd 66 fr 24 (sb (r5 != r6))), _⟩
     refine s_pick_yes (d := (sb true)) rfl c7 rfl k
   ·refine AWops.weak (st' := ⟨66, (upd 66 (upd 66 (upd 66 topF 0 (rf 0 0)) 1 (rf 1 0)) 32 (sb true)), [(o_vdisk_Disk_03 false (C.mp 2) (C.p true (.v (.pointer none))) p0), (o_dossierref03_Disk_0 false (C.own 3 0 p1.L.length 3) p1), (om_ e_vdisk_file p0.files), (or_ e_dossierref03_File p1.L)]⟩) (wg 4 [0, 1, 2, 3] [] hx (le_upd (le_upd (le_upd (le_top _) (.t (.one (.ref rfl)))) (.t (.one (.ref rfl)))) (.t (.one .sc))) (ac (.cells id (ac (.mp rfl) (ac .sc (ac .sc (ac .sc (ac .sc an)))))) (ac (.cells id (ac (.own rfl) (ac .sc (ac .sc (ac .sc an))))) (ac .map (ac (.cells id (all2_row _)) an))))) (AWops.nil ?_)
    refine AW.cond_yes rfl rfl (AW.seq (AW.region ?_))
    refine s_assign (d := (sb false)) rfl (AWops.nil (AW.ret ?_))
    obtain rfl := Option.some.inj h
    exact ⟨_, rfl, (wg 4 [0, 1, 2, 3] [] rfl (le_upd (le_top _) (.t (.one .sc))) (ac (.cells id (ac (.mp rfl) (ac .sc (ac .sc (ac .sc (ac .sc an)))))) (ac (.cells id (ac (.own rfl) (ac .sc (ac .sc (ac .sc an))))) (ac .map (ac (.cells id (all2_row _)) an)))))⟩
  ·obtain ⟨r8, er8, h⟩ := bnd h
   refine AW.draw (n := 66) (L := 10) [(ft 0 11 (rf 0 0) [(0, (rf 0 0))]), (1, ⟨some 12, (D.one (C.own 4 0 r1.length 1)), [(11, (rf 0 0))], [(0, (o_vdisk_Disk_03 false (C.mp 2) (C.p true (.v (.pointer none))) p0)), (2, (om_ e_vdisk_file p0.files))], [(4, (ow_ e_str r1))], some 4⟩), (ft 2 13 (rf 1 0) [(1, (rf 1 0))]), (3, ⟨some 14, (D.one (C.own 5 0 r2.length 1)), [(13, (rf 1 0))], [(1, (o_dossierref03_Disk_0 false (C.own 3 0 p1.L.length 3) p1)), (3, (or_ e_dossierref03_File p1.L))], [(5, (ow_ e_str r2))], some 5⟩), (4, ⟨some 15, (sb r3), [(12, (D.one (C.own 4 0 r1.length 1))), (14, (D.one (C.own 5 0 r2.length 1)))], [(4, (ow_ e_str r1)), (5, (ow_ e_str r2))], [], none⟩), (ft 5 16 (sb (!r3)) [(15, (sb r3))]), (ft 6 17 (sb (!r3)) [(16, (sb (!r3)))]), (ft 7 18 (rf 0 0) [(0, (rf 0 0)), (17, (sb (!r3)))]), (8, ⟨some 19, (si r5), [(17, (sb (!r3))), (18, (rf 0 0))], [(0, (o_vdisk_Disk_03 false (C.mp 2) (C.p true (.v (.pointer none))) p0)), (2, (om_ e_vdisk_file p0.files))], [], none⟩), (ft 9 20 (rf 1 0) [(1, (rf 1 0)), (17, (sb (!r3)))]), (10, ⟨some 21, (si r6), [(17, (sb (!r3))), (20, (rf 1 0))], [(1, (o_dossierref03_Disk_0 false (C.own 3 0 p1.L.length 3) p1)), (3, (or_ e_dossierref03_File p1.L))], [], none⟩), (ft 11 22 (sb (r5 != r6)) [(17, (sb (!r3))), (19, (si r5)), (21, (si r6))]), (ft 12 23 (sb (r5 != r6)) [(17, (sb (!r3))), (22, (sb (r5 != r6)))]), (ft 13 24 (sb (r5 != r6)) [(23, (sb (r5 != r6)))]), (ft 14 25 (rf 0 0) [(0, (rf 0 0)), (24, (sb (r5 != r6)))]), (15, ⟨some 26, (sb r8), [(24, (sb (r5 != r6))), (25, (rf 0 0))], [(0, (o_vdisk_Disk_03 false (C.mp 2) (C.p true (.v (.pointer none))) p0)), (2, (om_ e_vdisk_file p0.files))], [], none⟩), (ft 16 27 (rf 1 0) [(1, (rf 1 0)), (24, (sb (r5 != r6)))]), (ft 17 28 (rf 1 0) [(24, (sb (r5 != r6))), (27, (rf 1 0))]), (ft 18 29 (rf 1 3) [(24, (sb (r5 != r6))), (28, (rf 1 0))]), (19, ⟨some 30, (sb p1.Off), [(24, (sb (r5 != r6))), (29, (rf 1 3))], [(1, (o_dossierref03_Disk_0 false (C.own 3 0 p1.L.length 3) p1))], [], none⟩), (ft 20 31 (sb (!(r8 == p1.Off))) [(24, (sb (r5 != r6))), (26, (sb r8)), (30, (sb p1.Off))]), (ft 21 32 (sb (!(r8 == p1.Off))) [(24, (sb (r5 != r6))), (31, (sb (!(r8 == p1.Off))))])] [[], [0], [], [0, 1, 2], [0, 1, 2, 3], (.range 5), (.range 6), (.range 7), (.range 8), (.range 7), (.range 10), (.range 11), (.range 12), (.range 13), (.range 14), (.range 15), (.range 14), (.range 14 ++ [16]), (.range 14 ++ [16, 17]), (.range 14 ++ [16, 17, 18]), (.range 20), (.range 21)] (nl rfl) [0, 1, 0, 2, 3, 4, 5, 6, 7, 6, 8, 9, 10, 11, 12, 13, 12, 13, 14, 15, 16, 17] rfl (TK := [(1, 4), (3, 5)]) rfl (AllK.cons' ⟨(tk_upd (tk_upd tk_top rfl) rfl), (tC rfl (tC rfl (tC rfl (tC (tkO_row _) AllT.nil')))), (by repeat (first | refine fC (.inl rfl) ?_ | refine fC (.inr rfl) ?_ | refine fC (.inr (by unfold tkFoot; simp only [List.all_cons, List.all_nil, tkO_row, Bool.and_true, Bool.true_and]; rfl)) ?_ | trivial))⟩ (AllK.cons' ⟨(tk_upd (tk_upd tk_top rfl) rfl), (tC rfl (tC rfl (tC rfl (tC (tkO_row _) AllT.nil')))), (by repeat (first | refine fC (.inl rfl) ?_ | refine fC (.inr rfl) ?_ | refine fC (.inr (by unfold tkFoot; simp only [List.all_cons, List.all_nil, tkO_row, Bool.and_true, Bool.true_and]; rfl)) ?_ | trivial))⟩ AllK.nil')) (by repeat (first | refine fC ⟨?_, ?_⟩ ?_ | refine sC rfl ?_ | refine hC rfl ?_ | trivial)) ?_ ?_
   ·refine (pC ?_ (pC ?_ (pC ?_ (pC ?_ (pC ?_ (pC ?_ (pC ?_ (pC ?_ (pC ?_ (pC ?_ (pC ?_ (pC ?_ (pC ?_ (pC ?_ (pC ?_ (pC ?_ (pC ?_ (pC ?_ (pC ?_ (pC ?_ (pC ?_ (pC ?_ AllStep.nil'))))))))))))))))))))))
    ·intro K rest fr hv htk k
     show AWops _ x _ _ K ⟨66, (upd 66 fr 0 (rf 0 0)), _⟩
     refine s_move (d := (rf 0 0)) rfl k
    ·intro K rest fr hv htk k
     show AWops _ x _ _ K ⟨66, (upd 66 fr 11 (rf 0 0)), [(o_vdisk_Disk_03 false (C.mp 2) (C.p true (.v (.pointer none))) p0), (hv 1), (om_ e_vdisk_file p0.files), (hv 3), (hv 4), (hv 5), (hv 6), (hv 7), (hv 8), (hv 9)]⟩
     refine s_call2 (ρ := [0, 2]) (br := false) (H2 := [(o_vdisk_Disk_03 false (C.mp 2) (C.p true (.v (.pointer none))) p0), (hv 1), (om_ e_vdisk_file p0.files), (hv 3), (hv 4), (hv 5), (hv 6), (hv 7), (hv 8), (hv 9), (ow_ e_str r1)]) (d := (D.one (C.own 10 0 r1.length 1))) F.ca_24 rfl rfl (ac (.one (.ref rfl)) an) (ac (.cells (ac (.mp rfl) (ac .sc (ac .sc (ac .sc (ac .sc an)))))) (ac .map an)) (by decide) rfl (vdisk_Disk_Names.meets _ p0 r1 er1) (.inl rfl) (by first | rfl | (simp only [mS]; done) | (simp only [mS]; rfl)) rfl ?_
     refine AWops.weak (st' := ⟨66, (upd 66 (upd 66 fr 11 (rf 0 0)) 12 (D.one (C.own 4 0 r1.length 1))), [(o_vdisk_Disk_03 false (C.mp 2) (C.p true (.v (.pointer none))) p0), (hv 1), (om_ e_vdisk_file p0.files), (hv 3), (ow_ e_str r1), (hv 5), (hv 6), (hv 7), (hv 8), (hv 9)]⟩) (wg 4 [0, 1, 2, 3, 10, 5, 6, 7, 8, 9] [] hx (le_upd2 (le_ok (p := 4) (L := 10) rfl (htk 4 rfl).1) (.t (.one (.own rfl)))) (ac (.cells id (ac (.mp rfl) (ac .sc (ac .sc (ac .sc (ac .sc an)))))) (ac (oq 4 10 (htk 4 rfl) 1) (ac .map (ac (oq 4 10 (htk 4 rfl) 3) (ac (.cells (fun _ => rfl) (all2_row _)) (ac (oq 4 10 (htk 4 rfl) 5) (ac (oq 4 10 (htk 4 rfl) 6) (ac (oq 4 10 (htk 4 rfl) 7) (ac (oq 4 10 (htk 4 rfl) 8) (ac (oq 4 10 (htk 4 rfl) 9) an))))))))))) k
    ·intro K rest fr hv htk k
     show AWops _ x _ _ K ⟨66, (upd 66 fr 1 (rf 1 0)), _⟩
     refine s_move (d := (rf 1 0)) rfl k
    ·intro K rest fr hv htk k
     show AWops _ x _ _ K ⟨66, (upd 66 fr 13 (rf 1 0)), [(hv 0), (o_dossierref03_Disk_0 false (C.own 3 0 p1.L.length 3) p1), (hv 2), (or_ e_dossierref03_File p1.L), (hv 4), (hv 5), (hv 6), (hv 7), (hv 8), (hv 9)]⟩
     refine s_call2 (ρ := [1, 3]) (br := false) (H2 := [(hv 0), (o_dossierref03_Disk_0 false (C.own 3 0 p1.L.length 3) p1), (hv 2), (or_ e_dossierref03_File p1.L), (hv 4), (hv 5), (hv 6), (hv 7), (hv 8), (hv 9), (ow_ e_str r2)]) (d := (D.one (C.own 10 0 r2.length 1))) F.ca_51 rfl rfl (ac (.one (.ref rfl)) an) (ac (.cells (ac (.own rfl) (ac .sc (ac .sc (ac .sc an))))) (ac (.cells (lend_row _)) an)) (by decide) rfl (dossierref03_Disk_Names.meets _ p1 r2 er2) (.inl rfl) (by first | rfl | (simp only [mS]; done) | (simp only [mS]; rfl)) rfl ?_
     refine AWops.weak (st' := ⟨66, (upd 66 (upd 66 fr 13 (rf 1 0)) 14 (D.one (C.own 5 0 r2.length 1))), [(hv 0), (o_dossierref03_Disk_0 false (C.own 3 0 p1.L.length 3) p1), (hv 2), (or_ e_dossierref03_File p1.L), (hv 4), (ow_ e_str r2), (hv 6), (hv 7), (hv 8), (hv 9)]⟩) (wg 4 [0, 1, 2, 3, 4, 10, 6, 7, 8, 9] [] hx (le_upd2 (le_ok (p := 5) (L := 10) rfl (htk 5 rfl).1) (.t (.one (.own rfl)))) (ac (oq 5 10 (htk 5 rfl) 0) (ac (.cells id (ac (.own rfl) (ac .sc (ac .sc (ac .sc an))))) (ac (oq 5 10 (htk 5 rfl) 2) (ac (.cells id (all2_row _)) (ac (oq 5 10 (htk 5 rfl) 4) (ac (.cells (fun _ => rfl) (all2_row _)) (ac (oq 5 10 (htk 5 rfl) 6) (ac (oq 5 10 (htk 5 rfl) 7) (ac (oq 5 10 (htk 5 rfl) 8) (ac (oq 5 10 (htk 5 rfl) 9) an))))))))))) k
    ·intro K rest fr hv htk k
     show AWops _ x _ _ K ⟨66, (upd 66 (upd 66 fr 14 (D.one (C.own 5 0 r2.length 1))) 12 (D.one (C.own 4 0 r1.length 1))), [(hv 0), (hv 1), (hv 2), (hv 3), (ow_ e_str r1), (ow_ e_str r2), (hv 6), (hv 7), (hv 8), (hv 9)]⟩
     refine s_call2 (ρ := []) (br := true) (H2 := [(hv 0), (hv 1), (hv 2), (hv 3), (ow_ e_str r1), (ow_ e_str r2), (hv 6), (hv 7), (hv 8), (hv 9)]) (d := (sb r3)) F.ca_50 rfl rfl (ac (.one (LendC.bor e_str_len rfl rfl rfl)) (ac (.one (LendC.bor e_str_len rfl rfl rfl)) an)) an (by decide) rfl (slices_Equal_string_string.meets _ r1 r2 r3 er3) (.inr ⟨rfl, rfl⟩) rfl rfl k
    ·intro K rest fr hv htk k
     show AWops _ x _ _ K ⟨66, (upd 66 fr 15 (sb r3)), [(hv 0), (hv 1), (hv 2), (hv 3), (hv 4), (hv 5), (hv 6), (hv 7), (hv 8), (hv 9)]⟩
     refine s_not rfl k
    ·intro K rest fr hv htk k
     show AWops _ x _ _ K ⟨66, (upd 66 fr 16 (sb (!r3))), _⟩
     refine s_move (d := (sb (!r3))) rfl k
    ·intro K rest fr hv htk k
     show AWops _ x _ _ K ⟨66, (upd 66 (upd 66 fr 17 (sb (!r3))) 0 (rf 0 0)), _⟩
     refine AWops.guard_yes rfl (nl rfl) rfl (by rw [c4] <;> rfl) ?_
     refine s_move (d := (rf 0 0)) rfl k
    ·intro K rest fr hv htk k
     show AWops _ x _ _ K ⟨66, (upd 66 (upd 66 fr 18 (rf 0 0)) 17 (sb (!r3))), [(o_vdisk_Disk_03 false (C.mp 2) (C.p true (.v (.pointer none))) p0), (hv 1), (om_ e_vdisk_file p0.files), (hv 3), (hv 4), (hv 5), (hv 6), (hv 7), (hv 8), (hv 9)]⟩
     refine AWops.guard_yes rfl (nl rfl) rfl (by rw [c4] <;> rfl) ?_
     refine s_call2 (ρ := [0, 2]) (br := false) (H2 := [(o_vdisk_Disk_03 false (C.mp 2) (C.p true (.v (.pointer none))) p0), (hv 1), (om_ e_vdisk_file p0.files), (hv 3), (hv 4), (hv 5), (hv 6), (hv 7), (hv 8), (hv 9)]) (d := (si r5)) F.ca_17 rfl rfl (ac (.one (.ref rfl)) an) (ac (.cells (ac (.mp rfl) (ac .sc (ac .sc (ac .sc (ac .sc an)))))) (ac .map an)) (by decide) rfl (vdisk_Disk_Used.meets _ p0 r5 er5) (.inl rfl) rfl rfl k
    ·intro K rest fr hv htk k
     show AWops _ x _ _ K ⟨66, (upd 66 (upd 66 fr 17 (sb (!r3))) 1 (rf 1 0)), _⟩
     refine AWops.guard_yes rfl (nl rfl) rfl (by rw [c4] <;> rfl) ?_
     refine s_move (d := (rf 1 0)) rfl k
    ·intro K rest fr hv htk k
     show AWops _ x _ _ K ⟨66, (upd 66 (upd 66 fr 20 (rf 1 0)) 17 (sb (!r3))), [(hv 0), (o_dossierref03_Disk_0 false (C.own 3 0 p1.L.length 3) p1), (hv 2), (or_ e_dossierref03_File p1.L), (hv 4), (hv 5), (hv 6), (hv 7), (hv 8), (hv 9)]⟩
     refine AWops.guard_yes rfl (nl rfl) rfl (by rw [c4] <;> rfl) ?_
     refine s_call2 (ρ := [1, 3]) (br := false) (H2 := [(hv 0), (o_dossierref03_Disk_0 false (C.own 3 0 p1.L.length 3) p1), (hv 2), (or_ e_dossierref03_File p1.L), (hv 4), (hv 5), (hv 6), (hv 7), (hv 8), (hv 9)]) (d := (si r6)) F.ca_52 rfl rfl (ac (.one (.ref rfl)) an) (ac (.cells (ac (.own rfl) (ac .sc (ac .sc (ac .sc an))))) (ac (.cells (lend_row _)) an)) (by decide) rfl (dossierref03_Disk_Used.meets _ p1 r6 er6) (.inl rfl) (by first | rfl | (simp only [mS]; done) | (simp only [mS]; rfl)) rfl k
    ·intro K rest fr hv htk k
     show AWops _ x _ _ K ⟨66, (upd 66 (upd 66 (upd 66 fr 21 (si r6)) 19 (si r5)) 17 (sb (!r3))), _⟩
     refine AWops.guard_yes rfl (nl rfl) rfl (by rw [c4] <;> rfl) ?_
     refine s_binI (v := (.bool (r5 != r6))) rfl rfl rfl k
    ·intro K rest fr hv htk k
     show AWops _ x _ _ K ⟨66, (upd 66 (upd 66 fr 22 (sb (r5 != r6))) 17 (sb (!r3))), _⟩
     refine s_pick_no (d := (sb (r5 != r6))) rfl (by rw [c4] <;> rfl) rfl k
    ·intro K rest fr hv htk k
     show AWops _ x _ _ K ⟨66, (upd 66 fr 23 (sb (r5 != r6))), _⟩
     refine s_move (d := (sb (r5 != r6))) rfl k
    ·intro K rest fr hv htk k
     show AWops _ x _ _ K ⟨66, (upd 66 (upd 66 fr 24 (sb (r5 != r6))) 0 (rf 0 0)), _⟩
     refine AWops.guard_yes rfl (nl rfl) rfl c7 ?_
     refine s_move (d := (rf 0 0)) rfl k
    ·intro K rest fr hv htk k
     show AWops _ x _ _ K ⟨66, (upd 66 (upd 66 fr 25 (rf 0 0)) 24 (sb (r5 != r6))), [(o_vdisk_Disk_03 false (C.mp 2) (C.p true (.v (.pointer none))) p0), (hv 1), (om_ e_vdisk_file p0.files), (hv 3), (hv 4), (hv 5), (hv 6), (hv 7), (hv 8), (hv 9)]⟩
     refine AWops.guard_yes rfl (nl rfl) rfl c7 ?_
     refine s_call2 (ρ := [0, 2]) (br := false) (H2 := [(o_vdisk_Disk_03 false (C.mp 2) (C.p true (.v (.pointer none))) p0), (hv 1), (om_ e_vdisk_file p0.files), (hv 3), (hv 4), (hv 5), (hv 6), (hv 7), (hv 8), (hv 9)]) (d := (sb r8)) F.ca_23 rfl rfl (ac (.one (.ref rfl)) an) (ac (.cells (ac (.mp rfl) (ac .sc (ac .sc (ac .sc (ac .sc an)))))) (ac .map an)) (by decide) rfl (vdisk_Disk_Dead.meets _ p0 r8 er8) (.inl rfl) rfl rfl k
    ·intro K rest fr hv htk k
     show AWops _ x _ _ K ⟨66, (upd 66 (upd 66 fr 24 (sb (r5 != r6))) 1 (rf 1 0)), _⟩
     refine AWops.guard_yes rfl (nl rfl) rfl c7 ?_
     refine s_move (d := (rf 1 0)) rfl k
    ·intro K rest fr hv htk k
     show AWops _ x _ _ K ⟨66, (upd 66 (upd 66 fr 27 (rf 1 0)) 24 (sb (r5 != r6))), [(hv 0), (hv 1), (hv 2), (hv 3), (hv 4), (hv 5), (hv 6), (hv 7), (hv 8), (hv 9)]⟩
     refine AWops.guard_yes rfl (nl rfl) rfl c7 ?_
     refine s_nilCheck (d := (rf 1 0)) rfl (.inl ⟨_, _, rfl⟩) k
    ·intro K rest fr hv htk k
     show AWops _ x _ _ K ⟨66, (upd 66 (upd 66 fr 28 (rf 1 0)) 24 (sb (r5 != r6))), [(hv 0), (hv 1), (hv 2), (hv 3), (hv 4), (hv 5), (hv 6), (hv 7), (hv 8), (hv 9)]⟩
     refine AWops.guard_yes rfl (nl rfl) rfl c7 ?_
     refine s_fieldRef F.fo_72_3 (by decide) rfl k
    ·intro K rest fr hv htk k
     show AWops _ x _ _ K ⟨66, (upd 66 (upd 66 fr 29 (rf 1 3)) 24 (sb (r5 != r6))), [(hv 0), (o_dossierref03_Disk_0 false (C.own 3 0 p1.L.length 3) p1), (hv 2), (hv 3), (hv 4), (hv 5), (hv 6), (hv 7), (hv 8), (hv 9)]⟩
     refine AWops.guard_yes rfl (nl rfl) rfl c7 ?_
     refine s_load1 (c' := (cb p1.Off)) F.ag_4 rfl rfl k
    ·intro K rest fr hv htk k
     show AWops _ x _ _ K ⟨66, (upd 66 (upd 66 (upd 66 fr 30 (sb p1.Off)) 26 (sb r8)) 24 (sb (r5 != r6))), _⟩
     refine AWops.guard_yes rfl (nl rfl) rfl c7 ?_
     refine s_binB (b := (!(r8 == p1.Off))) F.u_4 rfl rfl (.inr ⟨rfl, rfl⟩) k
    ·intro K rest fr hv htk k
     show AWops _ x _ _ K ⟨66, (upd 66 (upd 66 fr 31 (sb (!(r8 == p1.Off)))) 24 (sb (r5 != r6))), _⟩
     refine s_pick_no (d := (sb (!(r8 == p1.Off)))) rfl c7 rfl k
   ·refine AWops.weak (st' := ⟨66, (upd 66 (upd 66 (upd 66 topF 0 (rf 0 0)) 1 (rf 1 0)) 32 (sb (!(r8 == p1.Off)))), [(o_vdisk_Disk_03 false (C.mp 2) (C.p true (.v (.pointer none))) p0), (o_dossierref03_Disk_0 false (C.own 3 0 p1.L.length 3) p1), (om_ e_vdisk_file p0.files), (or_ e_dossierref03_File p1.L)]⟩) (wg 4 [0, 1, 2, 3] [] hx (le_upd (le_upd (le_upd (le_top _) (.t (.one (.ref rfl)))) (.t (.one (.ref rfl)))) (.t (.one .sc))) (ac (.cells id (ac (.mp rfl) (ac .sc (ac .sc (ac .sc (ac .sc an)))))) (ac (.cells id (ac (.own rfl) (ac .sc (ac .sc (ac .sc an))))) (ac .map (ac (.cells id (all2_row _)) an))))) (AWops.nil ?_)
    rcases itH h with ⟨c9, h⟩ | ⟨c9, h⟩
    ·refine AW.cond_no rfl (by rw [c9] <;> rfl) (AW.skip (AW.seq (AW.seq (AW.region ?_))))
     refine s_move (d := (rf 1 0)) rfl ?_
     refine s_nilCheck (d := (rf 1 0)) rfl (.inl ⟨_, _, rfl⟩) ?_
     refine s_fieldRef F.fo_72_0 (by decide) rfl ?_
     refine s_load1 (c' := (C.own 3 0 p1.L.length 3)) F.ag_70 rfl rfl ?_
     refine s_len (n := p1.L.length) F.u_70 rfl (.inr ⟨(fun _ _ h => by cases h), ⟨_, rfl⟩⟩) ?_
     refine s_move (d := (si 0)) rfl (AWops.nil (AW.block ?_))
     refine AW.loopw (st0 := ⟨66, (upd 66 (upd 66 (upd 66 (upd 66 (upd 66 topF 0 (rf 0 0)) 1 (rf 1 0)) 36 (D.one (C.own 3 0 p1.L.length 3))) 37 (si (p1.L.length : Int))) 38 (si 0)), [(o_vdisk_Disk_03 false (C.mp 2) (C.p true (.v (.pointer none))) p0), (o_dossierref03_Disk_0 false (C.own 3 0 p1.L.length 3) p1), (om_ e_vdisk_file p0.files), (or_ e_dossierref03_File p1.L)]⟩) (fun kv st => kv ≤ k ∧ ∃ (x10 : Int), dossierplain_Same.l0 kv x10 p0 p1 = some r ∧ st = ⟨66, (upd 66 (upd 66 (upd 66 (upd 66 (upd 66 topF 0 (rf 0 0)) 1 (rf 1 0)) 36 (D.one (C.own 3 0 p1.L.length 3))) 37 (si (p1.L.length : Int))) 38 (si x10)), [(o_vdisk_Disk_03 false (C.mp 2) (C.p true (.v (.pointer none))) p0), (o_dossierref03_Disk_0 false (C.own 3 0 p1.L.length 3) p1), (om_ e_vdisk_file p0.files), (or_ e_dossierref03_File p1.L)]⟩) (k := k) (wg 4 [0, 1, 2, 3] [] hx (le_upd (le_upd (le_upd (le_upd (le_upd (le_top _) (.t (.one (.ref rfl)))) (.t (.one (.ref rfl)))) (.t (.one (.own rfl)))) (.t (.one .sc))) (.t (.one .sc))) (ac (.cells id (ac (.mp rfl) (ac .sc (ac .sc (ac .sc (ac .sc an)))))) (ac (.cells id (ac (.own rfl) (ac .sc (ac .sc (ac .sc an))))) (ac .map (ac (.cells id (all2_row _)) an))))) ⟨Nat.le_refl _, 0, h, rfl⟩ ?_
     rintro ql0 st ⟨hkl0, x10, h, rfl⟩
     cases ql0 with
     | zero => exact absurd h (by simp [dossierplain_Same.l0])
     | succ ql0 =>
      replace h := (dossierplain_Same.l0.eq_2 _ _ _ _).symm.trans h
      refine AW.seq (AW.region ?_)
      refine s_binI (v := (.bool (decide (x10 < (p1.L.length : Int))))) rfl rfl rfl (AWops.nil (AW.seq ?_))
      rcases itH h with ⟨c11, h⟩ | ⟨c11, h⟩
      ·refine AW.cond_yes rfl c11 (AW.skip (AW.seq (AW.block (AW.seq (AW.region ?_)))))
       obtain ⟨v12, ev12, h⟩ := bnd h
       obtain ⟨pv12, qv12, gv12⟩ := rd_some ev12
       refine s_indexOwn (d := (D.one (C.ref 3 (0 + x10.toNat * 3)))) F.u_70 F.sz_82 rfl rfl pv12 qv12 rfl ?_
       obtain ⟨R13, hR13⟩ := row_at (f := e_dossierref03_File) (sz := 3) (o := 0) e_dossierref03_File_len gv12 (e_dossierref03_File_eq v12) (by decide)
       refine s_loadN (ds := (c_dossierref03_File v12)) F.ag_82 F.sz_82 (congrArg some hR13) rfl rfl ?_
       refine s_alloc (cs := [(ct (⟨#[]⟩ : ByteArray)), (C.p true (.v (.slice none 0 0))), (ci 0)]) F.z_82 rfl rfl ?_
       refine s_store (cs' := (c_dossierref03_File v12)) rfl rfl rfl (List.cons_ne_nil _ _) rfl F.sz_82 (nl rfl) rfl (AWops.nil (AW.seq (AW.region ?_)))
       refine s_move (d := (rf 0 0)) rfl ?_
       refine s_fieldRef F.fo_82_0 (by decide) rfl ?_
       refine s_load1 (c' := (ct v12.Name)) F.ag_9 rfl rfl ?_
       obtain ⟨r14, er14, h⟩ := bnd h
       refine s_call2 (ρ := [0, 2]) (br := false) (H2 := [(o_vdisk_Disk_03 false (C.mp 2) (C.p true (.v (.pointer none))) p0), (o_dossierref03_Disk_0 false (C.own 3 0 p1.L.length 3) p1), (om_ e_vdisk_file p0.files), (or_ e_dossierref03_File p1.L), (some (AObj.cells true (c_dossierref03_File v12)))]) (d := (D.tup [(D.one (C.p false (.sl r14.1.length (r14.1.flatMap e_u8)))), (si r14.2)])) F.ca_12 rfl rfl (ac (.one (.ref rfl)) (ac (.one .sc) an)) (ac (.cells (ac (.mp rfl) (ac .sc (ac .sc (ac .sc (ac .sc an)))))) (ac .map an)) (by decide) rfl (vdisk_Disk_Read.meets _ p0 v12.Name r14 er14) (.inl rfl) rfl rfl ?_
       refine s_move (d := (D.tup [(D.one (C.p false (.sl r14.1.length (r14.1.flatMap e_u8)))), (si r14.2)])) rfl ?_
       refine s_extract (d := (D.one (C.p false (.sl r14.1.length (r14.1.flatMap e_u8))))) rfl rfl ?_
       refine s_extract (d := (si r14.2)) rfl rfl ?_
       refine s_assign (d := (D.one (C.p false (.sl r14.1.length (r14.1.flatMap e_u8))))) rfl ?_
       refine s_assign (d := (si r14.2)) rfl (AWops.nil (AW.seq (AW.region ?_)))
       refine s_move (d := (rf 1 0)) rfl ?_
       refine s_fieldRef F.fo_82_0 (by decide) rfl ?_
       refine s_load1 (c' := (ct v12.Name)) F.ag_9 rfl rfl ?_
       obtain ⟨r15, er15, h⟩ := bnd h
       refine s_call2 (ρ := [1, 3]) (br := false) (H2 := [(o_vdisk_Disk_03 false (C.mp 2) (C.p true (.v (.pointer none))) p0), (o_dossierref03_Disk_0 false (C.own 3 0 p1.L.length 3) p1), (om_ e_vdisk_file p0.files), (or_ e_dossierref03_File p1.L), (some (AObj.cells true (c_dossierref03_File v12)))]) (d := (D.tup [(D.one (C.p false (.sl r15.1.length (r15.1.flatMap e_u8)))), (si r15.2)])) F.ca_27 rfl rfl (ac (.one (.ref rfl)) (ac (.one .sc) an)) (ac (.cells (ac (.own rfl) (ac .sc (ac .sc (ac .sc an))))) (ac (.cells (lend_row _)) an)) (by decide) rfl (dossierref03_Disk_Read.meets _ p1 v12.Name r15 er15) (.inl rfl) (by first | rfl | (simp only [mS]; done) | (simp only [mS]; rfl)) rfl ?_
       refine s_move (d := (D.tup [(D.one (C.p false (.sl r15.1.length (r15.1.flatMap e_u8)))), (si r15.2)])) rfl ?_
       refine s_extract (d := (D.one (C.p false (.sl r15.1.length (r15.1.flatMap e_u8))))) rfl rfl ?_
       refine s_extract (d := (si r15.2)) rfl rfl ?_
       refine s_assign (d := (D.one (C.p false (.sl r15.1.length (r15.1.flatMap e_u8))))) rfl ?_
       refine s_assign (d := (si r15.2)) rfl (AWops.nil (AW.seq (AW.region ?_)))
       refine s_move (d := (si r14.2)) rfl ?_
       refine s_move (d := (si r15.2)) rfl ?_
       refine s_binI (v := (.bool (r14.2 != r15.2))) rfl rfl rfl ?_
       refine s_move (d := (sb (r14.2 != r15.2))) rfl ?_
       rcases itH h with ⟨c16, h⟩ | ⟨c16, h⟩
       ·iterate 4 refine AWops.guard_no rfl (nl rfl) rfl c16 ?_
        refine s_pick_yes (d := (sb true)) rfl c16 rfl (AWops.nil ?_)
        refine AW.cond_yes rfl rfl (AW.seq (AW.region ?_))
        refine s_assign (d := (sb false)) rfl (AWops.nil (AW.ret ?_))
        obtain rfl := Option.some.inj h
        exact ⟨_, rfl, (wg 4 [0, 1, 2, 3] [] rfl (le_upd (le_top _) (.t (.one .sc))) (ac (.cells id (ac (.mp rfl) (ac .sc (ac .sc (ac .sc (ac .sc an)))))) (ac (.cells id (ac (.own rfl) (ac .sc (ac .sc (ac .sc an))))) (ac .map (ac (.cells id (all2_row _)) an)))))⟩
       ·refine AWops.guard_yes rfl (nl rfl) rfl c16 ?_
        refine s_move (d := (D.one (C.p false (.sl r14.1.length (r14.1.flatMap e_u8))))) rfl ?_
        refine AWops.guard_yes rfl (nl rfl) rfl c16 ?_
        refine s_move (d := (D.one (C.p false (.sl r15.1.length (r15.1.flatMap e_u8))))) rfl ?_
        refine AWops.guard_yes rfl (nl rfl) rfl c16 ?_
        obtain ⟨r17, er17, h⟩ := bnd h
        refine s_call2 (ρ := []) (br := false) (H2 := [(o_vdisk_Disk_03 false (C.mp 2) (C.p true (.v (.pointer none))) p0), (o_dossierref03_Disk_0 false (C.own 3 0 p1.L.length 3) p1), (om_ e_vdisk_file p0.files), (or_ e_dossierref03_File p1.L), (some (AObj.cells true (c_dossierref03_File v12)))]) (d := (sb r17)) F.ca_28 rfl rfl (ac (.one .imm) (ac (.one .imm) an)) an (by decide) rfl (bytes_Equal.meets _ r14.1 r15.1 r17 er17) (.inl rfl) rfl rfl ?_
        refine AWops.guard_yes rfl (nl rfl) rfl c16 ?_
        refine s_not rfl ?_
        refine s_pick_no (d := (sb (!r17))) rfl c16 rfl (AWops.nil ?_)
        rcases itH h with ⟨c18, h⟩ | ⟨c18, h⟩
        ·refine AW.cond_no rfl (by rw [c18] <;> rfl) (AW.skip (AW.region ?_))
         refine s_binI (v := (.int .i64 (IntKind.i64.wrap (x10 + 1)))) rfl rfl rfl ?_
         refine s_move (d := (si (IntKind.i64.wrap (x10 + 1)))) rfl (AWops.nil ?_)
         exact ⟨_, ⟨66, (upd 66 (upd 66 (upd 66 (upd 66 (upd 66 topF 0 (rf 0 0)) 1 (rf 1 0)) 36 (D.one (C.own 3 0 p1.L.length 3))) 37 (si (p1.L.length : Int))) 38 (si (IntKind.i64.wrap (x10 + 1)))), [(o_vdisk_Disk_03 false (C.mp 2) (C.p true (.v (.pointer none))) p0), (o_dossierref03_Disk_0 false (C.own 3 0 p1.L.length 3) p1), (om_ e_vdisk_file p0.files), (or_ e_dossierref03_File p1.L)]⟩, by omega, (wg 4 [0, 1, 2, 3] [] hx (le_upd (le_upd (le_upd (le_upd (le_upd (le_top _) (.t (.one (.ref rfl)))) (.t (.one (.ref rfl)))) (.t (.one (.own rfl)))) (.t (.one .sc))) (.t (.one .sc))) (ac (.cells id (ac (.mp rfl) (ac .sc (ac .sc (ac .sc (ac .sc an)))))) (ac (.cells id (ac (.own rfl) (ac .sc (ac .sc (ac .sc an))))) (ac .map (ac (.cells id (all2_row _)) an))))), by omega, IntKind.i64.wrap (x10 + 1), h, rfl⟩
        ·refine AW.cond_yes rfl (by rw [c18] <;> rfl) (AW.seq (AW.region ?_))
         refine s_assign (d := (sb false)) rfl (AWops.nil (AW.ret ?_))
         obtain rfl := Option.some.inj h
         exact ⟨_, rfl, (wg 4 [0, 1, 2, 3] [] rfl (le_upd (le_top _) (.t (.one .sc))) (ac (.cells id (ac (.mp rfl) (ac .sc (ac .sc (ac .sc (ac .sc an)))))) (ac (.cells id (ac (.own rfl) (ac .sc (ac .sc (ac .sc an))))) (ac .map (ac (.cells id (all2_row _)) an)))))⟩
      ·refine AW.cond_no rfl c11 (AW.exit (AW.seq (AW.region ?_)))
       refine s_assign (d := (sb true)) rfl (AWops.nil (AW.ret ?_))
       obtain rfl := Option.some.inj h
       exact ⟨_, rfl, (wg 4 [0, 1, 2, 3] [] rfl (le_upd (le_top _) (.t (.one .sc))) (ac (.cells id (ac (.mp rfl) (ac .sc (ac .sc (ac .sc (ac .sc an)))))) (ac (.cells id (ac (.own rfl) (ac .sc (ac .sc (ac .sc an))))) (ac .map (ac (.cells id (all2_row _)) an)))))⟩
    ·refine AW.cond_yes rfl (by rw [c9] <;> rfl) (AW.seq (AW.region ?_))
     refine s_assign (d := (sb false)) rfl (AWops.nil (AW.ret ?_))
     obtain rfl := Option.some.inj h
     exact ⟨_, rfl, (wg 4 [0, 1, 2, 3] [] rfl (le_upd (le_top _) (.t (.one .sc))) (ac (.cells id (ac (.mp rfl) (ac .sc (ac .sc (ac .sc (ac .sc an)))))) (ac (.cells id (ac (.own rfl) (ac .sc (ac .sc (ac .sc an))))) (ac .map (ac (.cells id (all2_row _)) an)))))⟩
 ·refine AW.draw (n := 66) (L := 10) [(ft 0 11 (rf 0 0) [(0, (rf 0 0))]), (1, ⟨some 12, (D.one (C.own 4 0 r1.length 1)), [(11, (rf 0 0))], [(0, (o_vdisk_Disk_03 false (C.mp 2) (C.p true (.v (.pointer none))) p0)), (2, (om_ e_vdisk_file p0.files))], [(4, (ow_ e_str r1))], some 4⟩), (ft 2 13 (rf 1 0) [(1, (rf 1 0))]), (3, ⟨some 14, (D.one (C.own 5 0 r2.length 1)), [(13, (rf 1 0))], [(1, (o_dossierref03_Disk_0 false (C.own 3 0 p1.L.length 3) p1)), (3, (or_ e_dossierref03_File p1.L))], [(5, (ow_ e_str r2))], some 5⟩), (4, ⟨some 15, (sb r3), [(12, (D.one (C.own 4 0 r1.length 1))), (14, (D.one (C.own 5 0 r2.length 1)))], [(4, (ow_ e_str r1)), (5, (ow_ e_str r2))], [], none⟩), (ft 5 16 (sb (!r3)) [(15, (sb r3))]), (ft 6 17 (sb (!r3)) [(16, (sb (!r3)))]), (ft 7 18 (D.tup []) [(0, (rf 0 0)), (17, (sb (!r3)))]), (ft 8 19 (D.tup []) [(17, (sb (!r3)))]), (ft 9 20 (D.tup []) [(17, (sb (!r3)))]), (ft 10 21 (D.tup []) [(17, (sb (!r3)))]), (ft 11 22 (D.tup []) [(17, (sb (!r3)))]), (ft 12 23 (sb true) [(17, (sb (!r3)))]), (ft 13 24 (sb true) [(23, (sb true))]), (ft 14 25 (D.tup []) [(24, (sb true))]), (ft 15 26 (D.tup []) [(24, (sb true))]), (ft 16 27 (D.tup []) [(24, (sb true))]), (ft 17 28 (D.tup []) [(24, (sb true))]), (ft 18 29 (D.tup []) [(24, (sb true))]), (ft 19 30 (D.tup []) [(24, (sb true))]), (ft 20 31 (D.tup []) [(24, (sb true))]), (ft 21 32 (sb true) [(24, (sb true))])] [[], [0], [], [0, 1, 2], [0, 1, 2, 3], (.range 5), (.range 6), (.range 7), (.range 8), (.range 7), (.range 10), (.range 11), (.range 12), (.range 13), (.range 14), (.range 15), (.range 14), (.range 14 ++ [16]), (.range 14 ++ [16, 17]), (.range 14 ++ [16, 17, 18]), (.range 20), (.range 21)] (nl rfl) [0, 1, 0, 2, 3, 4, 5, 6, 7, 6, 8, 9, 10, 11, 12, 13, 12, 13, 14, 15, 16, 17] rfl (TK := [(1, 4), (3, 5)]) rfl (AllK.cons' ⟨(tk_upd (tk_upd tk_top rfl) rfl), (tC rfl (tC rfl (tC rfl (tC (tkO_row _) AllT.nil')))), (by repeat (first | refine fC (.inl rfl) ?_ | refine fC (.inr rfl) ?_ | refine fC (.inr (by unfold tkFoot; simp only [List.all_cons, List.all_nil, tkO_row, Bool.and_true, Bool.true_and]; rfl)) ?_ | trivial))⟩ (AllK.cons' ⟨(tk_upd (tk_upd tk_top rfl) rfl), (tC rfl (tC rfl (tC rfl (tC (tkO_row _) AllT.nil')))), (by repeat (first | refine fC (.inl rfl) ?_ | refine fC (.inr rfl) ?_ | refine fC (.inr (by unfold tkFoot; simp only [List.all_cons, List.all_nil, tkO_row, Bool.and_true, Bool.true_and]; rfl)) ?_ | trivial))⟩ AllK.nil')) (by repeat (first | refine fC ⟨?_, ?_⟩ ?_ | refine sC rfl ?_ | refine hC rfl ?_ | trivial)) ?_ ?_
  ·refine (pC ?_ (pC ?_ (pC ?_ (pC ?_ (pC ?_ (pC ?_ (pC ?_ (pC ?_ (pC ?_ (pC ?_ (pC ?_ (pC ?_ (pC ?_ (pC ?_ (pC ?_ (pC ?_ (pC ?_ (pC ?_ (pC ?_ (pC ?_ (pC ?_ (pC ?_ AllStep.nil'))))))))))))))))))))))
   ·intro K rest fr hv htk k
    show AWops _ x _ _ K ⟨66, (upd 66 fr 0 (rf 0 0)), _⟩
    refine s_move (d := (rf 0 0)) rfl k
   ·intro K rest fr hv htk k
    show AWops _ x _ _ K ⟨66, (upd 66 fr 11 (rf 0 0)), [(o_vdisk_Disk_03 false (C.mp 2) (C.p true (.v (.pointer none))) p0), (hv 1), (om_ e_vdisk_file p0.files), (hv 3), (hv 4), (hv 5), (hv 6), (hv 7), (hv 8), (hv 9)]⟩
    refine s_call2 (ρ := [0, 2]) (br := false) (H2 := [(o_vdisk_Disk_03 false (C.mp 2) (C.p true (.v (.pointer none))) p0), (hv 1), (om_ e_vdisk_file p0.files), (hv 3), (hv 4), (hv 5), (hv 6), (hv 7), (hv 8), (hv 9), (ow_ e_str r1)]) (d := (D.one (C.own 10 0 r1.length 1))) F.ca_24 rfl rfl (ac (.one (.ref rfl)) an) (ac (.cells (ac (.mp rfl) (ac .sc (ac .sc (ac .sc (ac .sc an)))))) (ac .map an)) (by decide) rfl (vdisk_Disk_Names.meets _ p0 r1 er1) (.inl rfl) (by first | rfl | (simp only [mS]; done) | (simp only [mS]; rfl)) rfl ?_
    refine AWops.weak (st' := ⟨66, (upd 66 (upd 66 fr 11 (rf 0 0)) 12 (D.one (C.own 4 0 r1.length 1))), [(o_vdisk_Disk_03 false (C.mp 2) (C.p true (.v (.pointer none))) p0), (hv 1), (om_ e_vdisk_file p0.files), (hv 3), (ow_ e_str r1), (hv 5), (hv 6), (hv 7), (hv 8), (hv 9)]⟩) (wg 4 [0, 1, 2, 3, 10, 5, 6, 7, 8, 9] [] hx (le_upd2 (le_ok (p := 4) (L := 10) rfl (htk 4 rfl).1) (.t (.one (.own rfl)))) (ac (.cells id (ac (.mp rfl) (ac .sc (ac .sc (ac .sc (ac .sc an)))))) (ac (oq 4 10 (htk 4 rfl) 1) (ac .map (ac (oq 4 10 (htk 4 rfl) 3) (ac (.cells (fun _ => rfl) (all2_row _)) (ac (oq 4 10 (htk 4 rfl) 5) (ac (oq 4 10 (htk 4 rfl) 6) (ac (oq 4 10 (htk 4 rfl) 7) (ac (oq 4 10 (htk 4 rfl) 8) (ac (oq 4 10 (htk 4 rfl) 9) an))))))))))) k
   ·intro K rest fr hv htk k
    show AWops _ x _ _ K ⟨66, (upd 66 fr 1 (rf 1 0)), _⟩
    refine s_move (d := (rf 1 0)) rfl k
   ·intro K rest fr hv htk k
    show AWops _ x _ _ K ⟨66, (upd 66 fr 13 (rf 1 0)), [(hv 0), (o_dossierref03_Disk_0 false (C.own 3 0 p1.L.length 3) p1), (hv 2), (or_ e_dossierref03_File p1.L), (hv 4), (hv 5), (hv 6), (hv 7), (hv 8), (hv 9)]⟩
    refine s_call2 (ρ := [1, 3]) (br := false) (H2 := [(hv 0), (o_dossierref03_Disk_0 false (C.own 3 0 p1.L.length 3) p1), (hv 2), (or_ e_dossierref03_File p1.L), (hv 4), (hv 5), (hv 6), (hv 7), (hv 8), (hv 9), (ow_ e_str r2)]) (d := (D.one (C.own 10 0 r2.length 1))) F.ca_51 rfl rfl (ac (.one (.ref rfl)) an) (ac (.cells (ac (.own rfl) (ac .sc (ac .sc (ac .sc an))))) (ac (.cells (lend_row _)) an)) (by decide) rfl (dossierref03_Disk_Names.meets _ p1 r2 er2) (.inl rfl) (by first | rfl | (simp only [mS]; done) | (simp only [mS]; rfl)) rfl ?_
    refine AWops.weak (st' := ⟨66, (upd 66 (upd 66 fr 13 (rf 1 0)) 14 (D.one (C.own 5 0 r2.length 1))), [(hv 0), (o_dossierref03_Disk_0 false (C.own 3 0 p1.L.length 3) p1), (hv 2), (or_ e_dossierref03_File p1.L), (hv 4), (ow_ e_str r2), (hv 6), (hv 7), (hv 8), (hv 9)]⟩) (wg 4 [0, 1, 2, 3, 4, 10, 6, 7, 8, 9] [] hx (le_upd2 (le_ok (p := 5) (L := 10) rfl (htk 5 rfl).1) (.t (.one (.own rfl)))) (ac (oq 5 10 (htk 5 rfl) 0) (ac (.cells id (ac (.own rfl) (ac .sc (ac .sc (ac .sc an))))) (ac (oq 5 10 (htk 5 rfl) 2) (ac (.cells id (all2_row _)) (ac (oq 5 10 (htk 5 rfl) 4) (ac (.cells (fun _ => rfl) (all2_row _)) (ac (oq 5 10 (htk 5 rfl) 6) (ac (oq 5 10 (htk 5 rfl) 7) (ac (oq 5 10 (htk 5 rfl) 8) (ac (oq 5 10 (htk 5 rfl) 9) an))))))))))) k
   ·intro K rest fr hv htk k
    show AWops _ x _ _ K ⟨66, (upd 66 (upd 66 fr 14 (D.one (C.own 5 0 r2.length 1))) 12 (D.one (C.own 4 0 r1.length 1))), [(hv 0), (hv 1), (hv 2), (hv 3), (ow_ e_str r1), (ow_ e_str r2), (hv 6), (hv 7), (hv 8), (hv 9)]⟩
    refine s_call2 (ρ := []) (br := true) (H2 := [(hv 0), (hv 1), (hv 2), (hv 3), (ow_ e_str r1), (ow_ e_str r2), (hv 6), (hv 7), (hv 8), (hv 9)]) (d := (sb r3)) F.ca_50 rfl rfl (ac (.one (LendC.bor e_str_len rfl rfl rfl)) (ac (.one (LendC.bor e_str_len rfl rfl rfl)) an)) an (by decide) rfl (slices_Equal_string_string.meets _ r1 r2 r3 er3) (.inr ⟨rfl, rfl⟩) rfl rfl k
   ·intro K rest fr hv htk k
    show AWops _ x _ _ K ⟨66, (upd 66 fr 15 (sb r3)), [(hv 0), (hv 1), (hv 2), (hv 3), (hv 4), (hv 5), (hv 6), (hv 7), (hv 8), (hv 9)]⟩
    refine s_not rfl k
   ·intro K rest fr hv htk k
    show AWops _ x _ _ K ⟨66, (upd 66 fr 16 (sb (!r3))), _⟩
    refine s_move (d := (sb (!r3))) rfl k
   ·intro K rest fr hv htk k
    show AWops _ x _ _ K ⟨66, (upd 66 (upd 66 fr 17 (sb (!r3))) 0 (rf 0 0)), _⟩
    refine AWops.guard_no rfl (nl rfl) rfl (by rw [c4] <;> rfl) k
   ·intro K rest fr hv htk k
    show AWops _ x _ _ K ⟨66, (upd 66 fr 17 (sb (!r3))), _⟩
    refine AWops.guard_no rfl (nl rfl) rfl (by rw [c4] <;> rfl) k
   ·intro K rest fr hv htk k
    show AWops _ x _ _ K ⟨66, (upd 66 fr 17 (sb (!r3))), _⟩
    refine AWops.guard_no rfl (nl rfl) rfl (by rw [c4] <;> rfl) k
   ·intro K rest fr hv htk k
    show AWops _ x _ _ K ⟨66, (upd 66 fr 17 (sb (!r3))), _⟩
    refine AWops.guard_no rfl (nl rfl) rfl (by rw [c4] <;> rfl) k
   ·intro K rest fr hv htk k
    show AWops _ x _ _ K ⟨66, (upd 66 fr 17 (sb (!r3))), _⟩
    refine AWops.guard_no rfl (nl rfl) rfl (by rw [c4] <;> rfl) k
   ·intro K rest fr hv htk k
    show AWops _ x _ _ K ⟨66, (upd 66 fr 17 (sb (!r3))), _⟩
    refine s_pick_yes (d := (sb true)) rfl (by rw [c4] <;> rfl) rfl k
   ·intro K rest fr hv htk k
    show AWops _ x _ _ K ⟨66, (upd 66 fr 23 (sb true)), _⟩
    refine s_move (d := (sb true)) rfl k
   ·intro K rest fr hv htk k
    show AWops _ x _ _ K ⟨66, (upd 66 fr 24 (sb true)), _⟩
    refine AWops.guard_no rfl (nl rfl) rfl rfl k
   ·intro K rest fr hv htk k
    show AWops _ x _ _ K ⟨66, (upd 66 fr 24 (sb true)), _⟩
    refine AWops.guard_no rfl (nl rfl) rfl rfl k
   ·intro K rest fr hv htk k
    show AWops _ x _ _ K ⟨66, (upd 66 fr 24 (sb true)), _⟩
    refine AWops.guard_no rfl (nl rfl) rfl rfl k
   ·intro K rest fr hv htk k
    show AWops _ x _ _ K ⟨66, (upd 66 fr 24 (sb true)), _⟩
    refine AWops.guard_no rfl (nl rfl) rfl rfl k
   ·intro K rest fr hv htk k
    show AWops _ x _ _ K ⟨66, (upd 66 fr 24 (sb true)), _⟩
    refine AWops.guard_no rfl (nl rfl) rfl rfl k
   ·intro K rest fr hv htk k
    show AWops _ x _ _ K ⟨66, (upd 66 fr 24 (sb true)), _⟩
    refine AWops.guard_no rfl (nl rfl) rfl rfl k
   ·intro K rest fr hv htk k
    show AWops _ x _ _ K ⟨66, (upd 66 fr 24 (sb true)), _⟩
    refine AWops.guard_no rfl (nl rfl) rfl rfl k
   ·intro K rest fr hv htk k
    show AWops _ x _ _ K ⟨66, (upd 66 fr 24 (sb true)), _⟩
    refine s_pick_yes (d := (sb true)) rfl rfl rfl k
  ·refine AWops.weak (st' := ⟨66, (upd 66 (upd 66 (upd 66 topF 0 (rf 0 0)) 1 (rf 1 0)) 32 (sb true)), [(o_vdisk_Disk_03 false (C.mp 2) (C.p true (.v (.pointer none))) p0), (o_dossierref03_Disk_0 false (C.own 3 0 p1.L.length 3) p1), (om_ e_vdisk_file p0.files), (or_ e_dossierref03_File p1.L)]⟩) (wg 4 [0, 1, 2, 3] [] hx (le_upd (le_upd (le_upd (le_top _) (.t (.one (.ref rfl)))) (.t (.one (.ref rfl)))) (.t (.one .sc))) (ac (.cells id (ac (.mp rfl) (ac .sc (ac .sc (ac .sc (ac .sc an)))))) (ac (.cells id (ac (.own rfl) (ac .sc (ac .sc (ac .sc an))))) (ac .map (ac (.cells id (all2_row _)) an))))) (AWops.nil ?_)
   refine AW.cond_yes rfl rfl (AW.seq (AW.region ?_))
   refine s_assign (d := (sb false)) rfl (AWops.nil (AW.ret ?_))
   obtain rfl := Option.some.inj h
   exact ⟨_, rfl, (wg 4 [0, 1, 2, 3] [] rfl (le_upd (le_top _) (.t (.one .sc))) (ac (.cells id (ac (.mp rfl) (ac .sc (ac .sc (ac .sc (ac .sc an)))))) (ac (.cells id (ac (.own rfl) (ac .sc (ac .sc (ac .sc an))))) (ac .map (ac (.cells id (all2_row _)) an)))))⟩
def vdisk_Disk_none_35.f (k : Nat) (p0 : vdisk_Disk) (p2 : Int) : Option Bool := some false
theorem vdisk_Disk_none_35.meets (k : Nat) (p0 : vdisk_Disk) (p2 : Int) (r : Bool) (h : vdisk_Disk_none_35.f k p0 p2 = some r) : Meets Try.prog 35 [(rf 0 0)] [(o_vdisk_Disk_03 false (C.mp 1) (C.ref 2 0) p0), (om_ e_vdisk_file p0.files), (some (AObj.cells false [(ci p2)]))] (sb r) [(o_vdisk_Disk_03 false (C.mp 1) (C.ref 2 0) p0), (om_ e_vdisk_file p0.files), (some (AObj.cells false [(ci p2)]))] := by
 unfold vdisk_Disk_none_35.f at h
 refine Meets.of_body (n := 12) Try.func35 rfl rfl (nl rfl) fun x hx => ?_
 replace hx : x.k = 3 := hx
 show AW _ x _ _ ⟨12, fr0 [(rf 0 0)], [(o_vdisk_Disk_03 false (C.mp 1) (C.ref 2 0) p0), (om_ e_vdisk_file p0.files), (some (AObj.cells false [(ci p2)]))]⟩
 refine AW.seq (AW.region ?_)
 refine s_assign (d := (sb false)) rfl (AWops.nil (AW.seq (AW.region ?_)))
 refine s_move (d := (rf 0 0)) rfl ?_
 refine s_ptrNil (b := false) F.u_25 rfl (.inl ⟨⟨_, _, rfl⟩, rfl⟩) (.inl rfl) ?_
 refine s_move (d := (sb false)) rfl ?_
 refine AWops.guard_yes rfl (nl rfl) rfl rfl ?_
 refine s_move (d := (rf 0 0)) rfl ?_
 refine AWops.guard_yes rfl (nl rfl) rfl rfl ?_
 refine s_nilCheck (d := (rf 0 0)) rfl (.inl ⟨_, _, rfl⟩) ?_
 refine AWops.guard_yes rfl (nl rfl) rfl rfl ?_
 refine s_fieldRef F.fo_50_0 (by decide) rfl ?_
 refine AWops.guard_yes rfl (nl rfl) rfl rfl ?_
 refine s_load1 (c' := (C.mp 1)) F.ag_47 rfl rfl ?_
 refine AWops.guard_yes rfl (nl rfl) rfl rfl ?_
 refine s_mapNil (b := false) F.u_47 rfl (.inr ⟨rfl, _, rfl⟩) (.inl ⟨rfl, rfl⟩) ?_
 refine s_pick_no (d := (sb false)) rfl rfl rfl ?_
 refine s_assign (d := (sb false)) rfl (AWops.nil (AW.ret ?_))
 obtain rfl := Option.some.inj h
 exact ⟨_, rfl, (wg 3 [0, 1, 2] [] rfl (le_upd (le_top _) (.t (.one .sc))) (ac (.cells id (ac (.mp rfl) (ac .sc (ac .sc (ac (.ref rfl) (ac .sc an)))))) (ac .map (ac (.cells id (ac .sc an)) an))))⟩
theorem vdisk_Disk_none_35.const {k : Nat} {p0 : vdisk_Disk} {p2 : Int} {r : Bool} (h : vdisk_Disk_none_35.f k p0 p2 = some r) : r = false := by
 unfold vdisk_Disk_none_35.f at h
 exact (Option.some.inj h).symm
def vdisk_Disk_Names_24.f (k : Nat) (p0 : vdisk_Disk) (p2 : Int) : Option (List ByteArray) := (vdisk_Disk_none_35.f k p0 p2).bind fun r1 => if (okK p0.files) = true then (some (sortK p0.files)) else none
theorem vdisk_Disk_Names_24.meets (k : Nat) (p0 : vdisk_Disk) (p2 : Int) (r : (List ByteArray)) (h : vdisk_Disk_Names_24.f k p0 p2 = some r) : Meets Try.prog 24 [(rf 0 0)] [(o_vdisk_Disk_03 false (C.mp 1) (C.ref 2 0) p0), (om_ e_vdisk_file p0.files), (some (AObj.cells false [(ci p2)]))] (D.one (C.own 3 0 r.length 1)) [(o_vdisk_Disk_03 false (C.mp 1) (C.ref 2 0) p0), (om_ e_vdisk_file p0.files), (some (AObj.cells false [(ci p2)])), (ow_ e_str r)] := by
 unfold vdisk_Disk_Names_24.f at h
 refine Meets.of_body (n := 11) Try.func24 rfl rfl (nl rfl) fun x hx => ?_
 replace hx : x.k = 3 := hx
 show AW _ x _ _ ⟨11, fr0 [(rf 0 0)], [(o_vdisk_Disk_03 false (C.mp 1) (C.ref 2 0) p0), (om_ e_vdisk_file p0.files), (some (AObj.cells false [(ci p2)]))]⟩
 refine AW.seq (AW.region ?_)
 refine s_assign (d := (sc (.slice none 0 0))) rfl (AWops.nil (AW.seq (AW.seq (AW.region ?_))))
 refine s_move (d := (rf 0 0)) rfl ?_
 obtain ⟨r1, er1, h⟩ := bnd h
 have kr1 := vdisk_Disk_none_35.const er1
 subst kr1
 refine s_call2 (ρ := [0, 1, 2]) (br := false) (H2 := [(o_vdisk_Disk_03 false (C.mp 1) (C.ref 2 0) p0), (om_ e_vdisk_file p0.files), (some (AObj.cells false [(ci p2)]))]) (d := (sb false)) F.ca_35 rfl rfl (ac (.one (.ref rfl)) an) (ac (.cells (ac (.mp rfl) (ac .sc (ac .sc (ac (.ref rfl) (ac .sc an)))))) (ac .map (ac (.cells (ac .sc an)) an))) (by decide) rfl (vdisk_Disk_none_35.meets _ p0 p2 false er1) (.inl rfl) rfl rfl (AWops.nil ?_)
 refine AW.cond_no rfl rfl (AW.skip (AW.seq (AW.region ?_)))
 refine s_move (d := (rf 0 0)) rfl ?_
 refine s_nilCheck (d := (rf 0 0)) rfl (.inl ⟨_, _, rfl⟩) ?_
 refine s_fieldRef F.fo_50_0 (by decide) rfl ?_
 refine s_load1 (c' := (C.mp 1)) F.ag_47 rfl rfl ?_
 refine s_call2 (ρ := [1]) (br := false) (H2 := [(o_vdisk_Disk_03 false (C.mp 1) (C.ref 2 0) p0), (om_ e_vdisk_file p0.files), (some (AObj.cells false [(ci p2)])), (some (AObj.cells true [(C.mp 1)]))]) (d := (D.one (C.clo 62 [(C.ref 3 0)]))) F.ca_48 rfl rfl (ac (.one (.mp rfl)) an) (ac .map an) (by decide) rfl (SK.keys _) (.inl rfl) rfl rfl ?_
 obtain ⟨c2, h⟩ := gdH h
 refine s_call2 (ρ := [3, 1]) (br := false) (H2 := [(o_vdisk_Disk_03 false (C.mp 1) (C.ref 2 0) p0), (om_ e_vdisk_file p0.files), (some (AObj.cells false [(ci p2)])), (some (AObj.cells true [(C.mp 1)])), (some (AObj.cells true (rowC e_str (sortK p0.files))))]) (d := (D.one (C.own 4 0 ((sortK p0.files).length) 1))) F.ca_47 rfl rfl (ac (.one (LendC.cloL (ac (.ref rfl) an))) an) (ac (.cells (ac (.mp rfl) an)) (ac .map an)) (by decide) rfl (SK.sorted (b := true) (f := e_vdisk_file) c2) (.inl rfl) (by first | rfl | (simp only [mS]; done) | (simp only [mS]; rfl)) rfl ?_
 refine s_assign (d := (D.one (C.own 4 0 ((sortK p0.files).length) 1))) rfl (AWops.nil (AW.ret ?_))
 obtain rfl := Option.some.inj h
 exact ⟨_, rfl, (wg 3 [0, 1, 2, 4] [] rfl (le_upd (le_top _) (.t (.one (.own rfl)))) (ac (.cells id (ac (.mp rfl) (ac .sc (ac .sc (ac (.ref rfl) (ac .sc an)))))) (ac .map (ac (.cells id (ac .sc an)) (ac (.cells (fun _ => rfl) (all2_row _)) an)))))⟩
def vdisk_Disk_Used_17.f (k : Nat) (p0 : vdisk_Disk) (p2 : Int) : Option Int := (vdisk_Disk_none_35.f k p0 p2).bind fun r1 => some p0.used
theorem vdisk_Disk_Used_17.meets (k : Nat) (p0 : vdisk_Disk) (p2 : Int) (r : Int) (h : vdisk_Disk_Used_17.f k p0 p2 = some r) : Meets Try.prog 17 [(rf 0 0)] [(o_vdisk_Disk_03 false (C.mp 1) (C.ref 2 0) p0), (om_ e_vdisk_file p0.files), (some (AObj.cells false [(ci p2)]))] (si r) [(o_vdisk_Disk_03 false (C.mp 1) (C.ref 2 0) p0), (om_ e_vdisk_file p0.files), (some (AObj.cells false [(ci p2)]))] := by
 unfold vdisk_Disk_Used_17.f at h
 refine Meets.of_body (n := 9) Try.func17 rfl rfl (nl rfl) fun x hx => ?_
 replace hx : x.k = 3 := hx
 show AW _ x _ _ ⟨9, fr0 [(rf 0 0)], [(o_vdisk_Disk_03 false (C.mp 1) (C.ref 2 0) p0), (om_ e_vdisk_file p0.files), (some (AObj.cells false [(ci p2)]))]⟩
 refine AW.seq (AW.region ?_)
 refine s_assign (d := (si 0)) rfl (AWops.nil (AW.seq (AW.seq (AW.region ?_))))
 refine s_move (d := (rf 0 0)) rfl ?_
 obtain ⟨r1, er1, h⟩ := bnd h
 have kr1 := vdisk_Disk_none_35.const er1
 subst kr1
 refine s_call2 (ρ := [0, 1, 2]) (br := false) (H2 := [(o_vdisk_Disk_03 false (C.mp 1) (C.ref 2 0) p0), (om_ e_vdisk_file p0.files), (some (AObj.cells false [(ci p2)]))]) (d := (sb false)) F.ca_35 rfl rfl (ac (.one (.ref rfl)) an) (ac (.cells (ac (.mp rfl) (ac .sc (ac .sc (ac (.ref rfl) (ac .sc an)))))) (ac .map (ac (.cells (ac .sc an)) an))) (by decide) rfl (vdisk_Disk_none_35.meets _ p0 p2 false er1) (.inl rfl) rfl rfl (AWops.nil ?_)
 refine AW.cond_no rfl rfl (AW.skip (AW.seq (AW.region ?_)))
 refine s_move (d := (rf 0 0)) rfl ?_
 refine s_nilCheck (d := (rf 0 0)) rfl (.inl ⟨_, _, rfl⟩) ?_
 refine s_fieldRef F.fo_50_2 (by decide) rfl ?_
 refine s_load1 (c' := (ci p0.used)) F.ag_3 rfl rfl ?_
 refine s_assign (d := (si p0.used)) rfl (AWops.nil (AW.ret ?_))
 obtain rfl := Option.some.inj h
 exact ⟨_, rfl, (wg 3 [0, 1, 2] [] rfl (le_upd (le_top _) (.t (.one .sc))) (ac (.cells id (ac (.mp rfl) (ac .sc (ac .sc (ac (.ref rfl) (ac .sc an)))))) (ac .map (ac (.cells id (ac .sc an)) an))))⟩
def vdisk_Disk_Dead_23.f (k : Nat) (p0 : vdisk_Disk) (p2 : Int) : Option Bool := (vdisk_Disk_none_35.f k p0 p2).bind fun r1 => some p0.dead
theorem vdisk_Disk_Dead_23.meets (k : Nat) (p0 : vdisk_Disk) (p2 : Int) (r : Bool) (h : vdisk_Disk_Dead_23.f k p0 p2 = some r) : Meets Try.prog 23 [(rf 0 0)] [(o_vdisk_Disk_03 false (C.mp 1) (C.ref 2 0) p0), (om_ e_vdisk_file p0.files), (some (AObj.cells false [(ci p2)]))] (sb r) [(o_vdisk_Disk_03 false (C.mp 1) (C.ref 2 0) p0), (om_ e_vdisk_file p0.files), (some (AObj.cells false [(ci p2)]))] := by
 unfold vdisk_Disk_Dead_23.f at h
 refine Meets.of_body (n := 11) Try.func23 rfl rfl (nl rfl) fun x hx => ?_
 replace hx : x.k = 3 := hx
 show AW _ x _ _ ⟨11, fr0 [(rf 0 0)], [(o_vdisk_Disk_03 false (C.mp 1) (C.ref 2 0) p0), (om_ e_vdisk_file p0.files), (some (AObj.cells false [(ci p2)]))]⟩
 refine AW.seq (AW.region ?_)
 refine s_assign (d := (sb false)) rfl (AWops.nil (AW.seq (AW.region ?_)))
 refine s_move (d := (rf 0 0)) rfl ?_
 obtain ⟨r1, er1, h⟩ := bnd h
 have kr1 := vdisk_Disk_none_35.const er1
 subst kr1
 refine s_call2 (ρ := [0, 1, 2]) (br := false) (H2 := [(o_vdisk_Disk_03 false (C.mp 1) (C.ref 2 0) p0), (om_ e_vdisk_file p0.files), (some (AObj.cells false [(ci p2)]))]) (d := (sb false)) F.ca_35 rfl rfl (ac (.one (.ref rfl)) an) (ac (.cells (ac (.mp rfl) (ac .sc (ac .sc (ac (.ref rfl) (ac .sc an)))))) (ac .map (ac (.cells (ac .sc an)) an))) (by decide) rfl (vdisk_Disk_none_35.meets _ p0 p2 false er1) (.inl rfl) rfl rfl ?_
 refine s_move (d := (sb false)) rfl ?_
 refine AWops.guard_yes rfl (nl rfl) rfl rfl ?_
 refine s_move (d := (rf 0 0)) rfl ?_
 refine AWops.guard_yes rfl (nl rfl) rfl rfl ?_
 refine s_nilCheck (d := (rf 0 0)) rfl (.inl ⟨_, _, rfl⟩) ?_
 refine AWops.guard_yes rfl (nl rfl) rfl rfl ?_
 refine s_fieldRef F.fo_50_4 (by decide) rfl ?_
 refine AWops.guard_yes rfl (nl rfl) rfl rfl ?_
 refine s_load1 (c' := (cb p0.dead)) F.ag_4 rfl rfl ?_
 refine s_pick_no (d := (sb p0.dead)) rfl rfl rfl ?_
 refine s_assign (d := (sb p0.dead)) rfl (AWops.nil (AW.ret ?_))
 obtain rfl := Option.some.inj h
 exact ⟨_, rfl, (wg 3 [0, 1, 2] [] rfl (le_upd (le_top _) (.t (.one .sc))) (ac (.cells id (ac (.mp rfl) (ac .sc (ac .sc (ac (.ref rfl) (ac .sc an)))))) (ac .map (ac (.cells id (ac .sc an)) an))))⟩
end Go.Abs.GenLv
