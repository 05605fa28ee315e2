import Derived.Test.YtiegaebmhpdnmaaGenVa
set_option linter.unusedVariables false
set_option linter.unusedSimpArgs false
set_option maxRecDepth 100000
set_option maxHeartbeats 4000000
namespace Go.Abs.GenV
open Go.Abs Go.Proofs
def dossierlaw03_awake.f (k : Nat) : Option Bool := (vdisk_New_8x.f k).bind fun r1 => if (r1.2 != 0) = true then (some false) else ((vdisk_Disk_Append.f k r1.1 (⟨#[97]⟩ : ByteArray) ([97, 98, 99] : List Int)).bind fun r3 => if (r3.1 != 0) = true then (some false) else ((vdisk_Disk_Crash.f k r3.2 ([2] : List Int)).bind fun r5 => if (r5.1 != 0) = true then (some false) else ((vdisk_Disk_Read.f k r5.2 (⟨#[97]⟩ : ByteArray)).bind fun r7 => if (r7.2.1 == 0) = true then (some ((ofNums r7.1).toList == (⟨#[97, 98]⟩ : ByteArray).toList)) else (some false))))
theorem dossierlaw03_awake.meets (k : Nat) (r : Bool) (h : dossierlaw03_awake.f k = some r) : Meets Try.prog 14 [] [] (sc (.bool r)) [] := by
 unfold dossierlaw03_awake.f at h
 refine Meets.of_body (n := 35) Try.func14 rfl rfl (nl rfl) fun x hx => ?_
 replace hx : x.k = 0 := hx
 show AW _ x _ _ ⟨35, fr0 [], []⟩
 refine AW.seq (AW.region ?_)
 refine s_assign (d := (sc (.bool false))) rfl (AWops.nil (AW.seq (AW.region ?_)))
 obtain ⟨r1, er1, h⟩ := bnd h
 refine s_call2 (ρ := []) (br := false) (H2 := [(some (AObj.cells true [(C.mp 1), (C.p true (.v (.int .i64 r1.1.room))), (C.p true (.v (.int .i64 r1.1.used))), (C.p true (.v (.pointer none))), (C.p true (.v (.bool r1.1.dead)))])), (some (AObj.map false (mapE true e_vdisk_file r1.1.files)))]) (d := (D.tup [(D.one (C.ref 0 0)), (sc (.int .i64 r1.2))])) F.ca_8 rfl rfl (ac (.one .sc) an) an (by decide) rfl (vdisk_New_8x.meets _  r1 er1) (.inl rfl) rfl rfl ?_
 refine s_move (d := (D.tup [(D.one (C.ref 0 0)), (sc (.int .i64 r1.2))])) rfl ?_
 refine s_extract (d := (D.one (C.ref 0 0))) rfl rfl ?_
 refine s_extract (d := (sc (.int .i64 r1.2))) rfl rfl ?_
 refine s_assign (d := (D.one (C.ref 0 0))) rfl ?_
 refine s_assign (d := (sc (.int .i64 r1.2))) rfl (AWops.nil (AW.seq (AW.seq (AW.region ?_))))
 refine s_move (d := (sc (.int .i64 r1.2))) rfl ?_
 refine s_binI (v := (.bool (r1.2 != 0))) rfl rfl rfl ?_
 refine s_move (d := (sc (.bool (r1.2 != 0)))) rfl ?_
 rcases itH h with ⟨c2, h⟩ | ⟨c2, h⟩
 ·iterate 5 refine AWops.guard_no rfl (nl rfl) rfl c2 ?_
  refine s_pick_yes (d := (sc (.bool true))) rfl c2 rfl ?_
  refine s_move (d := (sc (.bool true))) rfl ?_
  iterate 4 refine AWops.guard_no rfl (nl rfl) rfl rfl ?_
  refine s_pick_yes (d := (sc (.bool true))) rfl rfl rfl (AWops.nil ?_)
  refine AW.cond_yes rfl rfl (AW.seq (AW.region ?_))
  refine s_assign (d := (sc (.bool false))) rfl (AWops.nil (AW.ret ?_))
  obtain rfl := Option.some.inj h
  exact ⟨_, rfl, (Weak.gen (kk := 0) [] [] rfl rfl (by decide) (by decide) rfl rfl rfl (le_upd (le_top _) (.t (.one .sc))) an)⟩
 ·refine AWops.guard_yes rfl (nl rfl) rfl c2 ?_
  refine s_move (d := (D.one (C.ref 0 0))) rfl ?_
  refine AWops.guard_yes rfl (nl rfl) rfl c2 ?_
  refine s_buildSlice (n := 3) (ps := [(0, (sc (.int .u8 97))), (1, (sc (.int .u8 98))), (2, (sc (.int .u8 99)))]) (cs := rowC e_u8 ([97, 98, 99] : List Int)) F.u_22 F.sz_5 F.z_5 rfl rfl (by decide) (by decide) rfl rfl ?_
  refine AWops.guard_yes rfl (nl rfl) rfl c2 ?_
  refine t_convConst (xs := ([97, 98, 99] : List Int)) F.u_22 F.u_5 rfl rfl rfl (by decide) rfl ?_
  refine AWops.guard_yes rfl (nl rfl) rfl c2 ?_
  obtain ⟨r3, er3, h⟩ := bnd h
  refine s_call2 (ρ := [0, 1]) (br := false) (H2 := [(some (AObj.cells true [(C.mp 3), (C.p true (.v (.int .i64 r3.2.room))), (C.p true (.v (.int .i64 r3.2.used))), (C.p true (.v (.pointer none))), (C.p true (.v (.bool r3.2.dead)))])), none, none, (some (AObj.map false (mapE true e_vdisk_file r3.2.files)))]) (d := (sc (.int .i64 r3.1))) F.ca_9 rfl rfl (ac (.one (.ref rfl)) (ac (.one .sc) (ac (.one .imm) an))) (ac (.cells (ac (.mp rfl) (ac .sc (ac .sc (ac .sc (ac .sc an)))))) (ac .map an)) (by decide) rfl (vdisk_Disk_Append.meets _ r1.1 (⟨#[97]⟩ : ByteArray) ([97, 98, 99] : List Int) r3 er3) (.inl rfl) rfl rfl ?_
  refine AWops.guard_yes rfl (nl rfl) rfl c2 ?_
  refine s_binI (v := (.bool (r3.1 != 0))) rfl rfl rfl ?_
  refine s_pick_no (d := (sc (.bool (r3.1 != 0)))) rfl c2 rfl ?_
  refine s_move (d := (sc (.bool (r3.1 != 0)))) rfl ?_
  rcases itH h with ⟨c4, h⟩ | ⟨c4, h⟩
  ·iterate 4 refine AWops.guard_no rfl (nl rfl) rfl c4 ?_
   refine s_pick_yes (d := (sc (.bool true))) rfl c4 rfl (AWops.nil ?_)
   refine AW.cond_yes rfl rfl (AW.seq (AW.region ?_))
   refine s_assign (d := (sc (.bool false))) rfl (AWops.nil (AW.ret ?_))
   obtain rfl := Option.some.inj h
   exact ⟨_, rfl, (Weak.gen (kk := 0) [] [] rfl rfl (by decide) (by decide) rfl rfl rfl (le_upd (le_top _) (.t (.one .sc))) an)⟩
  ·refine AWops.guard_yes rfl (nl rfl) rfl c4 ?_
   refine s_move (d := (D.one (C.ref 0 0))) rfl ?_
   refine AWops.guard_yes rfl (nl rfl) rfl c4 ?_
   refine s_buildSlice (n := 1) (ps := [(0, (sc (.int .i64 2)))]) (cs := rowC e_i64 ([2] : List Int)) F.u_24 F.sz_3 F.z_3 rfl rfl (by decide) (by decide) rfl rfl ?_
   refine AWops.guard_yes rfl (nl rfl) rfl c4 ?_
   obtain ⟨r5, er5, h⟩ := bnd h
   refine AWops.weak (st' := ⟨35, (upd 35 (upd 35 (upd 35 (upd 35 (upd 35 (upd 35 (upd 35 (upd 35 (upd 35 (upd 35 (upd 35 (upd 35 (upd 35 (upd 35 (upd 35 (upd 35 (upd 35 (upd 35 topF 0 (sc (.bool false))) 1 (D.one (C.ref 0 0))) 2 (sc (.int .i64 r1.2))) 4 (D.tup [(D.one (C.ref 0 0)), (sc (.int .i64 r1.2))])) 5 (D.tup [(D.one (C.ref 0 0)), (sc (.int .i64 r1.2))])) 6 (D.one (C.ref 0 0))) 7 (sc (.int .i64 r1.2))) 8 (sc (.int .i64 r1.2))) 9 (sc (.bool (r1.2 != 0)))) 10 (sc (.bool (r1.2 != 0)))) 11 (D.one (C.ref 0 0))) 13 (D.one (C.p false (.sl ([97, 98, 99] : List Int).length (([97, 98, 99] : List Int).flatMap e_u8))))) 14 (sc (.int .i64 r3.1))) 15 (sc (.bool (r3.1 != 0)))) 16 (sc (.bool (r3.1 != 0)))) 17 (sc (.bool (r3.1 != 0)))) 18 (D.one (C.ref 0 0))) 19 (D.one (C.p false (.sl ([2] : List Int).length (([2] : List Int).flatMap e_i64))))), [(some (AObj.cells true [(C.mp 1), (C.p true (.v (.int .i64 r3.2.room))), (C.p true (.v (.int .i64 r3.2.used))), (C.p true (.v (.pointer none))), (C.p true (.v (.bool r3.2.dead)))])), (some (AObj.map false (mapE true e_vdisk_file r3.2.files)))]⟩) (Weak.gen (kk := 0) [0, 3] [4] hx rfl (by decide) (by decide) rfl rfl rfl (le_upd (le_upd (le_upd (le_upd (le_upd (le_upd (le_upd (le_upd (le_upd (le_upd (le_upd (le_upd (le_upd (le_upd (le_upd (le_upd (le_upd (le_upd (le_top _) (.t (.one .sc))) (.t (.one (.ref rfl)))) (.t (.one .sc))) (DLe.tup (ac (TLe.one (.ref rfl)) (ac (TLe.one .sc) an)))) (DLe.tup (ac (TLe.one (.ref rfl)) (ac (TLe.one .sc) an)))) (.t (.one (.ref rfl)))) (.t (.one .sc))) (.t (.one .sc))) (.t (.one .sc))) (.t (.one .sc))) (.t (.one (.ref rfl)))) (.t (.one .same))) (.t (.one .sc))) (.t (.one .sc))) (.t (.one .sc))) (.t (.one .sc))) (.t (.one (.ref rfl)))) (.t (.one (CLe.frz e_i64_len rfl rfl rfl)))) (ac (.cells (fun h => h) (ac (.mp rfl) (ac .sc (ac .sc (ac .sc (ac .sc an)))))) (ac .map an))) ?_
   refine s_call2 (ρ := [0, 1]) (br := false) (H2 := [(some (AObj.cells true [(C.mp 2), (C.p true (.v (.int .i64 r5.2.room))), (C.p true (.v (.int .i64 r5.2.used))), (C.p true (.v (.pointer none))), (C.p true (.v (.bool r5.2.dead)))])), none, (some (AObj.map false (mapE true e_vdisk_file r5.2.files)))]) (d := (sc (.int .i64 r5.1))) F.ca_11 rfl rfl (ac (.one (.ref rfl)) (ac (.one .imm) an)) (ac (.cells (ac (.mp rfl) (ac .sc (ac .sc (ac .sc (ac .sc an)))))) (ac .map an)) (by decide) rfl (vdisk_Disk_Crash.meets _ r3.2 ([2] : List Int) r5 er5) (.inl rfl) rfl rfl ?_
   refine AWops.guard_yes rfl (nl rfl) rfl c4 ?_
   refine s_binI (v := (.bool (r5.1 != 0))) rfl rfl rfl ?_
   refine s_pick_no (d := (sc (.bool (r5.1 != 0)))) rfl c4 rfl (AWops.nil ?_)
   rcases itH h with ⟨c6, h⟩ | ⟨c6, h⟩
   ·refine AW.cond_yes rfl c6 (AW.seq (AW.region ?_))
    refine s_assign (d := (sc (.bool false))) rfl (AWops.nil (AW.ret ?_))
    obtain rfl := Option.some.inj h
    exact ⟨_, rfl, (Weak.gen (kk := 0) [] [] rfl rfl (by decide) (by decide) rfl rfl rfl (le_upd (le_top _) (.t (.one .sc))) an)⟩
   ·refine AW.cond_no rfl c6 (AW.skip (AW.seq (AW.region ?_)))
    refine s_move (d := (D.one (C.ref 0 0))) rfl ?_
    obtain ⟨r7, er7, h⟩ := bnd h
    refine s_call2 (ρ := [0, 2]) (br := false) (H2 := [(some (AObj.cells true [(C.mp 3), (C.p true (.v (.int .i64 r7.2.2.room))), (C.p true (.v (.int .i64 r7.2.2.used))), (C.p true (.v (.pointer none))), (C.p true (.v (.bool r7.2.2.dead)))])), none, none, (some (AObj.map false (mapE true e_vdisk_file r7.2.2.files)))]) (d := (D.tup [(D.one (C.p false (.sl r7.1.length (r7.1.flatMap e_u8)))), (sc (.int .i64 r7.2.1))])) F.ca_12 rfl rfl (ac (.one (.ref rfl)) (ac (.one .sc) an)) (ac (.cells (ac (.mp rfl) (ac .sc (ac .sc (ac .sc (ac .sc an)))))) (ac .map an)) (by decide) rfl (vdisk_Disk_Read.meets _ r5.2 (⟨#[97]⟩ : ByteArray) r7 er7) (.inl rfl) rfl rfl ?_
    refine s_move (d := (D.tup [(D.one (C.p false (.sl r7.1.length (r7.1.flatMap e_u8)))), (sc (.int .i64 r7.2.1))])) rfl ?_
    refine s_extract (d := (D.one (C.p false (.sl r7.1.length (r7.1.flatMap e_u8))))) rfl rfl ?_
    refine s_extract (d := (sc (.int .i64 r7.2.1))) rfl rfl ?_
    refine s_assign (d := (D.one (C.p false (.sl r7.1.length (r7.1.flatMap e_u8))))) rfl ?_
    refine s_assign (d := (sc (.int .i64 r7.2.1))) rfl (AWops.nil (AW.seq (AW.region ?_)))
    refine s_move (d := (sc (.int .i64 r7.2.1))) rfl ?_
    refine s_binI (v := (.bool (r7.2.1 == 0))) rfl rfl rfl ?_
    refine s_move (d := (sc (.bool (r7.2.1 == 0)))) rfl ?_
    rcases itH h with ⟨c8, h⟩ | ⟨c8, h⟩
    ·refine AWops.guard_yes rfl (nl rfl) rfl c8 ?_
     refine s_move (d := (D.one (C.p false (.sl r7.1.length (r7.1.flatMap e_u8))))) rfl ?_
     refine AWops.guard_yes rfl (nl rfl) rfl c8 ?_
     refine t_toStr (xs := r7.1) F.u_22 F.u_5 F.u_9 .imm ?_
     refine AWops.guard_yes rfl (nl rfl) rfl c8 ?_
     refine s_binS (v := (.bool ((ofNums r7.1).toList == (⟨#[97, 98]⟩ : ByteArray).toList))) rfl rfl rfl ?_
     refine s_pick_yes (d := (sc (.bool ((ofNums r7.1).toList == (⟨#[97, 98]⟩ : ByteArray).toList)))) rfl c8 rfl ?_
     refine s_assign (d := (sc (.bool ((ofNums r7.1).toList == (⟨#[97, 98]⟩ : ByteArray).toList)))) rfl (AWops.nil (AW.ret ?_))
     obtain rfl := Option.some.inj h
     exact ⟨_, rfl, (Weak.gen (kk := 0) [] [] rfl rfl (by decide) (by decide) rfl rfl rfl (le_upd (le_top _) (.t (.one .sc))) an)⟩
    ·iterate 3 refine AWops.guard_no rfl (nl rfl) rfl c8 ?_
     refine s_pick_no (d := (sc (.bool false))) rfl c8 rfl ?_
     refine s_assign (d := (sc (.bool false))) rfl (AWops.nil (AW.ret ?_))
     obtain rfl := Option.some.inj h
     exact ⟨_, rfl, (Weak.gen (kk := 0) [] [] rfl rfl (by decide) (by decide) rfl rfl rfl (le_upd (le_top _) (.t (.one .sc))) an)⟩
mutual
def dossierlaw03_VdiskStays.l0 : Nat → Int → Int → Bool → (List (ByteArray × vdisk_file)) → Int → (List Int) → (List (List Int)) → (List Int) → Option Bool
 | 0, _, _, _, _, _, _, _, _ => none
 | k + 1, x8, x9, x10, x11, x12, a0, a1, a2 => if (decide (x12 < (a1.length : Int))) = true then ((rd a1 x12).bind fun v14 => if (decide (x12 < 10)) = true then (if (decide (0 ≤ 0 ∧ 0 ≤ (if 300 < (v14.length : Int) then 300 else (v14.length : Int)) ∧ (if 300 < (v14.length : Int) then 300 else (v14.length : Int)) ≤ (v14.length : Int))) = true then ((vdisk_Disk_Append.f k (⟨x11, x8, x9, (), x10⟩ : vdisk_Disk) (⟨#[97]⟩ : ByteArray) (sub v14 0 (if 300 < (v14.length : Int) then 300 else (v14.length : Int)))).bind fun r17 => (vdisk_Disk_Append.f k r17.2 (⟨#[98]⟩ : ByteArray) (sub v14 0 (if 300 < (v14.length : Int) then 300 else (v14.length : Int)))).bind fun r18 => dossierlaw03_VdiskStays.l0 k r18.2.room r18.2.used r18.2.dead r18.2.files (IntKind.i64.wrap (x12 + 1)) a0 a1 a2) else none) else (dossierlaw03_VdiskStays.l0 k x8 x9 x10 x11 (IntKind.i64.wrap (x12 + 1)) a0 a1 a2)) else ((vdisk_Disk_Crash.f k (⟨x11, x8, x9, (), x10⟩ : vdisk_Disk) a2).bind fun r19 => if (r19.1 != 0) = true then (some false) else ((vdisk_Disk_Read.f k r19.2 (⟨#[97]⟩ : ByteArray)).bind fun r21 => if (r21.2.1 == 0) = true then ((bytes_HasPrefix.f k r21.1 (sub a0 0 (if 300 < (a0.length : Int) then 300 else (a0.length : Int)))).bind fun r23 => if r23 = true then ((dossierlaw03_awake.f k).bind fun r25 => some r25) else (some false)) else (some false)))
end
def dossierlaw03_VdiskStays.f (k : Nat) (a0 : List Int) (a1 : List (List Int)) (a2 : List Int) : Option Bool := if (decide (0 ≤ 0 ∧ 0 ≤ (if 300 < (a0.length : Int) then 300 else (a0.length : Int)) ∧ (if 300 < (a0.length : Int) then 300 else (a0.length : Int)) ≤ (a0.length : Int))) = true then ((vdisk_New_8.f k).bind fun r2 => if (r2.2 != 0) = true then (some false) else ((vdisk_Disk_Append.f k r2.1 (⟨#[97]⟩ : ByteArray) (sub a0 0 (if 300 < (a0.length : Int) then 300 else (a0.length : Int)))).bind fun r4 => if (r4.1 != 0) = true then (some false) else ((vdisk_Disk_Sync.f k r4.2 (⟨#[97]⟩ : ByteArray)).bind fun r6 => if (r6.1 != 0) = true then (some false) else (dossierlaw03_VdiskStays.l0 k r6.2.room r6.2.used r6.2.dead r6.2.files 0 a0 a1 a2)))) else none
theorem dossierlaw03_VdiskStays.meets (k : Nat) (a0 : List Int) (a1 : List (List Int)) (a2 : List Int) (r : Bool) (h : dossierlaw03_VdiskStays.f k a0 a1 a2 = some r) : Meets Try.prog 3 [(D.one (C.p false (.sl a0.length (a0.flatMap e_u8)))), (D.one (C.p false (.sl a1.length (a1.flatMap (e_sl e_u8))))), (D.one (C.p false (.sl a2.length (a2.flatMap e_i64))))] [] (sc (.bool r)) [] := by
 unfold dossierlaw03_VdiskStays.f at h
 refine Meets.of_body (n := 77) Try.func3 rfl rfl (nl rfl) fun x hx => ?_
 replace hx : x.k = 0 := hx
 show AW _ x _ _ ⟨77, fr0 [(D.one (C.p false (.sl a0.length (a0.flatMap e_u8)))), (D.one (C.p false (.sl a1.length (a1.flatMap (e_sl e_u8))))), (D.one (C.p false (.sl a2.length (a2.flatMap e_i64))))], []⟩
 refine AW.seq (AW.region ?_)
 refine s_assign (d := (sc (.bool false))) rfl (AWops.nil (AW.seq (AW.region ?_)))
 refine s_move (d := (D.one (C.p false (.sl a0.length (a0.flatMap e_u8))))) rfl ?_
 refine s_move (d := (D.one (C.p false (.sl a0.length (a0.flatMap e_u8))))) rfl ?_
 refine s_len (n := a0.length) F.u_22 rfl (.inr ⟨(fun _ _ h => by cases h), ⟨_, rfl⟩⟩) ?_
 refine s_min2 (r := (if 300 < (a0.length : Int) then 300 else (a0.length : Int))) rfl rfl rfl ?_
 obtain ⟨c1, h⟩ := gdH h
 have dc1 := of_decide_eq_true c1
 refine t_sliceImm (a := 0) (b := (if 300 < (a0.length : Int) then 300 else (a0.length : Int))) F.u_22 F.sz_5 e_u8_len rfl (by omega) (by omega) (by omega) .no (.yes rfl (by omega) rfl) ?_
 refine s_assign (d := (D.one (C.p false (.sl (sub a0 0 (if 300 < (a0.length : Int) then 300 else (a0.length : Int))).length ((sub a0 0 (if 300 < (a0.length : Int) then 300 else (a0.length : Int))).flatMap e_u8))))) rfl (AWops.nil (AW.seq (AW.region ?_)))
 obtain ⟨r2, er2, h⟩ := bnd h
 refine s_call2 (ρ := []) (br := false) (H2 := [(some (AObj.cells true [(C.mp 1), (C.p true (.v (.int .i64 r2.1.room))), (C.p true (.v (.int .i64 r2.1.used))), (C.p true (.v (.pointer none))), (C.p true (.v (.bool r2.1.dead)))])), (some (AObj.map false (mapE true e_vdisk_file r2.1.files)))]) (d := (D.tup [(D.one (C.ref 0 0)), (sc (.int .i64 r2.2))])) F.ca_8 rfl rfl (ac (.one .sc) an) an (by decide) rfl (vdisk_New_8.meets _  r2 er2) (.inl rfl) rfl rfl ?_
 refine s_move (d := (D.tup [(D.one (C.ref 0 0)), (sc (.int .i64 r2.2))])) rfl ?_
 refine s_extract (d := (D.one (C.ref 0 0))) rfl rfl ?_
 refine s_extract (d := (sc (.int .i64 r2.2))) rfl rfl ?_
 refine s_assign (d := (D.one (C.ref 0 0))) rfl ?_
 refine s_assign (d := (sc (.int .i64 r2.2))) rfl (AWops.nil (AW.seq (AW.seq (AW.region ?_))))
 refine s_move (d := (sc (.int .i64 r2.2))) rfl ?_
 refine s_binI (v := (.bool (r2.2 != 0))) rfl rfl rfl ?_
 refine s_move (d := (sc (.bool (r2.2 != 0)))) rfl ?_
 rcases itH h with ⟨c3, h⟩ | ⟨c3, h⟩
 ·iterate 4 refine AWops.guard_no rfl (nl rfl) rfl c3 ?_
  refine s_pick_yes (d := (sc (.bool true))) rfl c3 rfl ?_
  refine s_move (d := (sc (.bool true))) rfl ?_
  iterate 3 refine AWops.guard_no rfl (nl rfl) rfl rfl ?_
  refine s_pick_yes (d := (sc (.bool true))) rfl rfl rfl (AWops.nil ?_)
  refine AW.cond_yes rfl rfl (AW.seq (AW.region ?_))
  refine s_assign (d := (sc (.bool false))) rfl (AWops.nil (AW.ret ?_))
  obtain rfl := Option.some.inj h
  exact ⟨_, rfl, (Weak.gen (kk := 0) [] [] rfl rfl (by decide) (by decide) rfl rfl rfl (le_upd (le_top _) (.t (.one .sc))) an)⟩
 ·refine AWops.guard_yes rfl (nl rfl) rfl c3 ?_
  refine s_move (d := (D.one (C.ref 0 0))) rfl ?_
  refine AWops.guard_yes rfl (nl rfl) rfl c3 ?_
  refine s_move (d := (D.one (C.p false (.sl (sub a0 0 (if 300 < (a0.length : Int) then 300 else (a0.length : Int))).length ((sub a0 0 (if 300 < (a0.length : Int) then 300 else (a0.length : Int))).flatMap e_u8))))) rfl ?_
  refine AWops.guard_yes rfl (nl rfl) rfl c3 ?_
  obtain ⟨r4, er4, h⟩ := bnd h
  refine s_call2 (ρ := [0, 1]) (br := false) (H2 := [(some (AObj.cells true [(C.mp 2), (C.p true (.v (.int .i64 r4.2.room))), (C.p true (.v (.int .i64 r4.2.used))), (C.p true (.v (.pointer none))), (C.p true (.v (.bool r4.2.dead)))])), none, (some (AObj.map false (mapE true e_vdisk_file r4.2.files)))]) (d := (sc (.int .i64 r4.1))) F.ca_9 rfl rfl (ac (.one (.ref rfl)) (ac (.one .sc) (ac (.one .imm) an))) (ac (.cells (ac (.mp rfl) (ac .sc (ac .sc (ac .sc (ac .sc an)))))) (ac .map an)) (by decide) rfl (vdisk_Disk_Append.meets _ r2.1 (⟨#[97]⟩ : ByteArray) (sub a0 0 (if 300 < (a0.length : Int) then 300 else (a0.length : Int))) r4 er4) (.inl rfl) rfl rfl ?_
  refine AWops.guard_yes rfl (nl rfl) rfl c3 ?_
  refine s_binI (v := (.bool (r4.1 != 0))) rfl rfl rfl ?_
  refine s_pick_no (d := (sc (.bool (r4.1 != 0)))) rfl c3 rfl ?_
  refine s_move (d := (sc (.bool (r4.1 != 0)))) rfl ?_
  rcases itH h with ⟨c5, h⟩ | ⟨c5, h⟩
  ·iterate 3 refine AWops.guard_no rfl (nl rfl) rfl c5 ?_
   refine s_pick_yes (d := (sc (.bool true))) rfl c5 rfl (AWops.nil ?_)
   refine AW.cond_yes rfl rfl (AW.seq (AW.region ?_))
   refine s_assign (d := (sc (.bool false))) rfl (AWops.nil (AW.ret ?_))
   obtain rfl := Option.some.inj h
   exact ⟨_, rfl, (Weak.gen (kk := 0) [] [] rfl rfl (by decide) (by decide) rfl rfl rfl (le_upd (le_top _) (.t (.one .sc))) an)⟩
  ·refine AWops.guard_yes rfl (nl rfl) rfl c5 ?_
   refine s_move (d := (D.one (C.ref 0 0))) rfl ?_
   refine AWops.guard_yes rfl (nl rfl) rfl c5 ?_
   obtain ⟨r6, er6, h⟩ := bnd h
   refine s_call2 (ρ := [0, 2]) (br := false) (H2 := [(some (AObj.cells true [(C.mp 3), (C.p true (.v (.int .i64 r6.2.room))), (C.p true (.v (.int .i64 r6.2.used))), (C.p true (.v (.pointer none))), (C.p true (.v (.bool r6.2.dead)))])), none, none, (some (AObj.map false (mapE true e_vdisk_file r6.2.files)))]) (d := (sc (.int .i64 r6.1))) F.ca_10 rfl rfl (ac (.one (.ref rfl)) (ac (.one .sc) an)) (ac (.cells (ac (.mp rfl) (ac .sc (ac .sc (ac .sc (ac .sc an)))))) (ac .map an)) (by decide) rfl (vdisk_Disk_Sync.meets _ r4.2 (⟨#[97]⟩ : ByteArray) r6 er6) (.inl rfl) rfl rfl ?_
   refine AWops.guard_yes rfl (nl rfl) rfl c5 ?_
   refine s_binI (v := (.bool (r6.1 != 0))) rfl rfl rfl ?_
   refine s_pick_no (d := (sc (.bool (r6.1 != 0)))) rfl c5 rfl (AWops.nil ?_)
   rcases itH h with ⟨c7, h⟩ | ⟨c7, h⟩
   ·refine AW.cond_yes rfl c7 (AW.seq (AW.region ?_))
    refine s_assign (d := (sc (.bool false))) rfl (AWops.nil (AW.ret ?_))
    obtain rfl := Option.some.inj h
    exact ⟨_, rfl, (Weak.gen (kk := 0) [] [] rfl rfl (by decide) (by decide) rfl rfl rfl (le_upd (le_top _) (.t (.one .sc))) an)⟩
   ·refine AW.cond_no rfl c7 (AW.skip (AW.seq (AW.seq (AW.region ?_))))
    refine s_move (d := (D.one (C.p false (.sl a1.length (a1.flatMap (e_sl e_u8)))))) rfl ?_
    refine s_len (n := a1.length) F.u_23 rfl (.inr ⟨(fun _ _ h => by cases h), ⟨_, rfl⟩⟩) ?_
    refine s_move (d := (sc (.int .i64 0))) rfl (AWops.nil (AW.block ?_))
    refine AW.loopw (st0 := ⟨77, (upd 77 (upd 77 (upd 77 (upd 77 (upd 77 (upd 77 topF 0 (D.one (C.p false (.sl (sub a0 0 (if 300 < (a0.length : Int) then 300 else (a0.length : Int))).length ((sub a0 0 (if 300 < (a0.length : Int) then 300 else (a0.length : Int))).flatMap e_u8))))) 2 (D.one (C.p false (.sl a2.length (a2.flatMap e_i64))))) 7 (D.one (C.ref 0 0))) 34 (D.one (C.p false (.sl a1.length (a1.flatMap (e_sl e_u8)))))) 35 (sc (.int .i64 (a1.length : Int)))) 36 (sc (.int .i64 0))), [(some (AObj.cells true [(C.mp 1), (C.p true (.v (.int .i64 r6.2.room))), (C.p true (.v (.int .i64 r6.2.used))), (C.p true (.v (.pointer none))), (C.p true (.v (.bool r6.2.dead)))])), (some (AObj.map false (mapE true e_vdisk_file r6.2.files)))]⟩) (fun kv st => kv ≤ k ∧ ∃ (x8 : Int) (x9 : Int) (x10 : Bool) (x11 : List (ByteArray × vdisk_file)) (x12 : Int), dossierlaw03_VdiskStays.l0 kv x8 x9 x10 x11 x12 a0 a1 a2 = some r ∧ st = ⟨77, (upd 77 (upd 77 (upd 77 (upd 77 (upd 77 (upd 77 topF 0 (D.one (C.p false (.sl (sub a0 0 (if 300 < (a0.length : Int) then 300 else (a0.length : Int))).length ((sub a0 0 (if 300 < (a0.length : Int) then 300 else (a0.length : Int))).flatMap e_u8))))) 2 (D.one (C.p false (.sl a2.length (a2.flatMap e_i64))))) 7 (D.one (C.ref 0 0))) 34 (D.one (C.p false (.sl a1.length (a1.flatMap (e_sl e_u8)))))) 35 (sc (.int .i64 (a1.length : Int)))) 36 (sc (.int .i64 x12))), [(some (AObj.cells true [(C.mp 1), (C.p true (.v (.int .i64 x8))), (C.p true (.v (.int .i64 x9))), (C.p true (.v (.pointer none))), (C.p true (.v (.bool x10)))])), (some (AObj.map false (mapE true e_vdisk_file x11)))]⟩) (k := k) (Weak.gen (kk := 0) [0, 3] [] hx rfl (by decide) (by decide) rfl rfl rfl (le_upd (le_upd (le_upd (le_upd (le_upd (le_upd (le_top _) (.t (.one .same))) (.t (.one .same))) (.t (.one (.ref rfl)))) (.t (.one .same))) (.t (.one .sc))) (.t (.one .sc))) (ac (.cells (fun h => h) (ac (.mp rfl) (ac .sc (ac .sc (ac .sc (ac .sc an)))))) (ac .map an))) ⟨Nat.le_refl _, r6.2.room, r6.2.used, r6.2.dead, r6.2.files, 0, h, rfl⟩ ?_
    rintro ql0 st ⟨hkl0, x8, x9, x10, x11, x12, h, rfl⟩
    cases ql0 with
    | zero => exact absurd h (by simp [dossierlaw03_VdiskStays.l0])
    | succ ql0 =>
     replace h := (dossierlaw03_VdiskStays.l0.eq_2 _ _ _ _ _ _ _ _ _).symm.trans h
     refine AW.seq (AW.region ?_)
     refine s_binI (v := (.bool (decide (x12 < (a1.length : Int))))) rfl rfl rfl (AWops.nil (AW.seq ?_))
     rcases itH h with ⟨c13, h⟩ | ⟨c13, h⟩
     ·refine AW.cond_yes rfl c13 (AW.skip (AW.seq (AW.block (AW.seq (AW.region ?_)))))
      refine s_move (d := (sc (.int .i64 x12))) rfl ?_
      obtain ⟨v14, ev14, h⟩ := bnd h
      obtain ⟨pv14, qv14, gv14⟩ := rd_some ev14
      refine s_indexImm (ps := [P.sl v14.length (v14.flatMap e_u8)]) F.u_23 F.sz_22 rfl rfl pv14 qv14 (flat_at (e_sl_len _) gv14 (e_sl_eq _ v14)) ?_
      refine s_load1 (c' := (C.p false (.sl v14.length (v14.flatMap e_u8)))) F.ag_22 rfl rfl ?_
      refine s_assign (d := (sc (.int .i64 x12))) rfl ?_
      refine s_assign (d := (D.one (C.p false (.sl v14.length (v14.flatMap e_u8))))) rfl (AWops.nil (AW.seq (AW.region ?_)))
      refine s_move (d := (sc (.int .i64 x12))) rfl ?_
      refine s_binI (v := (.bool (decide (x12 < 10)))) rfl rfl rfl (AWops.nil ?_)
      rcases itH h with ⟨c15, h⟩ | ⟨c15, h⟩
      ·refine AW.cond_yes rfl c15 (AW.seq (AW.region ?_))
       refine s_move (d := (D.one (C.ref 0 0))) rfl ?_
       refine s_move (d := (D.one (C.p false (.sl v14.length (v14.flatMap e_u8))))) rfl ?_
       refine s_move (d := (D.one (C.p false (.sl v14.length (v14.flatMap e_u8))))) rfl ?_
       refine s_len (n := v14.length) F.u_22 rfl (.inr ⟨(fun _ _ h => by cases h), ⟨_, rfl⟩⟩) ?_
       refine s_min2 (r := (if 300 < (v14.length : Int) then 300 else (v14.length : Int))) rfl rfl rfl ?_
       obtain ⟨c16, h⟩ := gdH h
       have dc16 := of_decide_eq_true c16
       refine t_sliceImm (a := 0) (b := (if 300 < (v14.length : Int) then 300 else (v14.length : Int))) F.u_22 F.sz_5 e_u8_len rfl (by omega) (by omega) (by omega) .no (.yes rfl (by omega) rfl) ?_
       obtain ⟨r17, er17, h⟩ := bnd h
       refine s_call2 (ρ := [0, 1]) (br := false) (H2 := [(some (AObj.cells true [(C.mp 2), (C.p true (.v (.int .i64 r17.2.room))), (C.p true (.v (.int .i64 r17.2.used))), (C.p true (.v (.pointer none))), (C.p true (.v (.bool r17.2.dead)))])), none, (some (AObj.map false (mapE true e_vdisk_file r17.2.files)))]) (d := (sc (.int .i64 r17.1))) F.ca_9 rfl rfl (ac (.one (.ref rfl)) (ac (.one .sc) (ac (.one .imm) an))) (ac (.cells (ac (.mp rfl) (ac .sc (ac .sc (ac .sc (ac .sc an)))))) (ac .map an)) (by decide) rfl (vdisk_Disk_Append.meets _ (⟨x11, x8, x9, (), x10⟩ : vdisk_Disk) (⟨#[97]⟩ : ByteArray) (sub v14 0 (if 300 < (v14.length : Int) then 300 else (v14.length : Int))) r17 er17) (.inl rfl) rfl rfl (AWops.nil (AW.region ?_))
       refine s_move (d := (D.one (C.ref 0 0))) rfl ?_
       refine s_move (d := (D.one (C.p false (.sl v14.length (v14.flatMap e_u8))))) rfl ?_
       refine s_move (d := (D.one (C.p false (.sl v14.length (v14.flatMap e_u8))))) rfl ?_
       refine s_len (n := v14.length) F.u_22 rfl (.inr ⟨(fun _ _ h => by cases h), ⟨_, rfl⟩⟩) ?_
       refine s_min2 (r := (if 300 < (v14.length : Int) then 300 else (v14.length : Int))) rfl rfl rfl ?_
       have dc16 := of_decide_eq_true c16
       refine t_sliceImm (a := 0) (b := (if 300 < (v14.length : Int) then 300 else (v14.length : Int))) F.u_22 F.sz_5 e_u8_len rfl (by omega) (by omega) (by omega) .no (.yes rfl (by omega) rfl) ?_
       obtain ⟨r18, er18, h⟩ := bnd h
       refine s_call2 (ρ := [0, 2]) (br := false) (H2 := [(some (AObj.cells true [(C.mp 3), (C.p true (.v (.int .i64 r18.2.room))), (C.p true (.v (.int .i64 r18.2.used))), (C.p true (.v (.pointer none))), (C.p true (.v (.bool r18.2.dead)))])), none, none, (some (AObj.map false (mapE true e_vdisk_file r18.2.files)))]) (d := (sc (.int .i64 r18.1))) F.ca_9 rfl rfl (ac (.one (.ref rfl)) (ac (.one .sc) (ac (.one .imm) an))) (ac (.cells (ac (.mp rfl) (ac .sc (ac .sc (ac .sc (ac .sc an)))))) (ac .map an)) (by decide) rfl (vdisk_Disk_Append.meets _ r17.2 (⟨#[98]⟩ : ByteArray) (sub v14 0 (if 300 < (v14.length : Int) then 300 else (v14.length : Int))) r18 er18) (.inl rfl) rfl rfl (AWops.nil (AW.region ?_))
       refine s_binI (v := (.int .i64 (IntKind.i64.wrap (x12 + 1)))) rfl rfl rfl ?_
       refine s_move (d := (sc (.int .i64 (IntKind.i64.wrap (x12 + 1))))) rfl (AWops.nil ?_)
       exact ⟨_, ⟨77, (upd 77 (upd 77 (upd 77 (upd 77 (upd 77 (upd 77 topF 0 (D.one (C.p false (.sl (sub a0 0 (if 300 < (a0.length : Int) then 300 else (a0.length : Int))).length ((sub a0 0 (if 300 < (a0.length : Int) then 300 else (a0.length : Int))).flatMap e_u8))))) 2 (D.one (C.p false (.sl a2.length (a2.flatMap e_i64))))) 7 (D.one (C.ref 0 0))) 34 (D.one (C.p false (.sl a1.length (a1.flatMap (e_sl e_u8)))))) 35 (sc (.int .i64 (a1.length : Int)))) 36 (sc (.int .i64 (IntKind.i64.wrap (x12 + 1))))), [(some (AObj.cells true [(C.mp 1), (C.p true (.v (.int .i64 r18.2.room))), (C.p true (.v (.int .i64 r18.2.used))), (C.p true (.v (.pointer none))), (C.p true (.v (.bool r18.2.dead)))])), (some (AObj.map false (mapE true e_vdisk_file r18.2.files)))]⟩, by omega, (Weak.gen (kk := 0) [0, 3] [] hx rfl (by decide) (by decide) rfl rfl rfl (le_upd (le_upd (le_upd (le_upd (le_upd (le_upd (le_top _) (.t (.one .same))) (.t (.one .same))) (.t (.one (.ref rfl)))) (.t (.one .same))) (.t (.one .sc))) (.t (.one .sc))) (ac (.cells (fun h => h) (ac (.mp rfl) (ac .sc (ac .sc (ac .sc (ac .sc an)))))) (ac .map an))), by omega, r18.2.room, r18.2.used, r18.2.dead, r18.2.files, IntKind.i64.wrap (x12 + 1), h, rfl⟩
      ·refine AW.cond_no rfl c15 (AW.skip (AW.region ?_))
       refine s_binI (v := (.int .i64 (IntKind.i64.wrap (x12 + 1)))) rfl rfl rfl ?_
       refine s_move (d := (sc (.int .i64 (IntKind.i64.wrap (x12 + 1))))) rfl (AWops.nil ?_)
       exact ⟨_, ⟨77, (upd 77 (upd 77 (upd 77 (upd 77 (upd 77 (upd 77 topF 0 (D.one (C.p false (.sl (sub a0 0 (if 300 < (a0.length : Int) then 300 else (a0.length : Int))).length ((sub a0 0 (if 300 < (a0.length : Int) then 300 else (a0.length : Int))).flatMap e_u8))))) 2 (D.one (C.p false (.sl a2.length (a2.flatMap e_i64))))) 7 (D.one (C.ref 0 0))) 34 (D.one (C.p false (.sl a1.length (a1.flatMap (e_sl e_u8)))))) 35 (sc (.int .i64 (a1.length : Int)))) 36 (sc (.int .i64 (IntKind.i64.wrap (x12 + 1))))), [(some (AObj.cells true [(C.mp 1), (C.p true (.v (.int .i64 x8))), (C.p true (.v (.int .i64 x9))), (C.p true (.v (.pointer none))), (C.p true (.v (.bool x10)))])), (some (AObj.map false (mapE true e_vdisk_file x11)))]⟩, by omega, (Weak.gen (kk := 0) [0, 1] [] hx rfl (by decide) (by decide) rfl rfl rfl (le_upd (le_upd (le_upd (le_upd (le_upd (le_upd (le_top _) (.t (.one .same))) (.t (.one .same))) (.t (.one (.ref rfl)))) (.t (.one .same))) (.t (.one .sc))) (.t (.one .sc))) (ac (.cells (fun h => h) (ac (.mp rfl) (ac .sc (ac .sc (ac .sc (ac .sc an)))))) (ac .map an))), by omega, x8, x9, x10, x11, IntKind.i64.wrap (x12 + 1), h, rfl⟩
     ·refine AW.cond_no rfl c13 (AW.exit (AW.seq (AW.seq (AW.region ?_))))
      refine s_move (d := (D.one (C.ref 0 0))) rfl ?_
      refine s_move (d := (D.one (C.p false (.sl a2.length (a2.flatMap e_i64))))) rfl ?_
      obtain ⟨r19, er19, h⟩ := bnd h
      refine s_call2 (ρ := [0, 1]) (br := false) (H2 := [(some (AObj.cells true [(C.mp 2), (C.p true (.v (.int .i64 r19.2.room))), (C.p true (.v (.int .i64 r19.2.used))), (C.p true (.v (.pointer none))), (C.p true (.v (.bool r19.2.dead)))])), none, (some (AObj.map false (mapE true e_vdisk_file r19.2.files)))]) (d := (sc (.int .i64 r19.1))) F.ca_11 rfl rfl (ac (.one (.ref rfl)) (ac (.one .imm) an)) (ac (.cells (ac (.mp rfl) (ac .sc (ac .sc (ac .sc (ac .sc an)))))) (ac .map an)) (by decide) rfl (vdisk_Disk_Crash.meets _ (⟨x11, x8, x9, (), x10⟩ : vdisk_Disk) a2 r19 er19) (.inl rfl) rfl rfl ?_
      refine s_binI (v := (.bool (r19.1 != 0))) rfl rfl rfl (AWops.nil ?_)
      rcases itH h with ⟨c20, h⟩ | ⟨c20, h⟩
      ·refine AW.cond_yes rfl c20 (AW.seq (AW.region ?_))
       refine s_assign (d := (sc (.bool false))) rfl (AWops.nil (AW.ret ?_))
       obtain rfl := Option.some.inj h
       exact ⟨_, rfl, (Weak.gen (kk := 0) [] [] rfl rfl (by decide) (by decide) rfl rfl rfl (le_upd (le_top _) (.t (.one .sc))) an)⟩
      ·refine AW.cond_no rfl c20 (AW.skip (AW.seq (AW.region ?_)))
       refine s_move (d := (D.one (C.ref 0 0))) rfl ?_
       obtain ⟨r21, er21, h⟩ := bnd h
       refine s_call2 (ρ := [0, 2]) (br := false) (H2 := [(some (AObj.cells true [(C.mp 3), (C.p true (.v (.int .i64 r21.2.2.room))), (C.p true (.v (.int .i64 r21.2.2.used))), (C.p true (.v (.pointer none))), (C.p true (.v (.bool r21.2.2.dead)))])), none, none, (some (AObj.map false (mapE true e_vdisk_file r21.2.2.files)))]) (d := (D.tup [(D.one (C.p false (.sl r21.1.length (r21.1.flatMap e_u8)))), (sc (.int .i64 r21.2.1))])) F.ca_12 rfl rfl (ac (.one (.ref rfl)) (ac (.one .sc) an)) (ac (.cells (ac (.mp rfl) (ac .sc (ac .sc (ac .sc (ac .sc an)))))) (ac .map an)) (by decide) rfl (vdisk_Disk_Read.meets _ r19.2 (⟨#[97]⟩ : ByteArray) r21 er21) (.inl rfl) rfl rfl ?_
       refine s_move (d := (D.tup [(D.one (C.p false (.sl r21.1.length (r21.1.flatMap e_u8)))), (sc (.int .i64 r21.2.1))])) rfl ?_
       refine s_extract (d := (D.one (C.p false (.sl r21.1.length (r21.1.flatMap e_u8))))) rfl rfl ?_
       refine s_extract (d := (sc (.int .i64 r21.2.1))) rfl rfl ?_
       refine s_assign (d := (D.one (C.p false (.sl r21.1.length (r21.1.flatMap e_u8))))) rfl ?_
       refine s_assign (d := (sc (.int .i64 r21.2.1))) rfl (AWops.nil (AW.seq (AW.region ?_)))
       refine s_move (d := (sc (.int .i64 r21.2.1))) rfl ?_
       refine s_binI (v := (.bool (r21.2.1 == 0))) rfl rfl rfl ?_
       refine s_move (d := (sc (.bool (r21.2.1 == 0)))) rfl ?_
       rcases itH h with ⟨c22, h⟩ | ⟨c22, h⟩
       ·refine AWops.guard_yes rfl (nl rfl) rfl c22 ?_
        refine s_move (d := (D.one (C.p false (.sl r21.1.length (r21.1.flatMap e_u8))))) rfl ?_
        refine AWops.guard_yes rfl (nl rfl) rfl c22 ?_
        refine s_move (d := (D.one (C.p false (.sl (sub a0 0 (if 300 < (a0.length : Int) then 300 else (a0.length : Int))).length ((sub a0 0 (if 300 < (a0.length : Int) then 300 else (a0.length : Int))).flatMap e_u8))))) rfl ?_
        refine AWops.guard_yes rfl (nl rfl) rfl c22 ?_
        obtain ⟨r23, er23, h⟩ := bnd h
        refine s_call2 (ρ := []) (br := false) (H2 := [(some (AObj.cells true [(C.mp 3), (C.p true (.v (.int .i64 r21.2.2.room))), (C.p true (.v (.int .i64 r21.2.2.used))), (C.p true (.v (.pointer none))), (C.p true (.v (.bool r21.2.2.dead)))])), none, none, (some (AObj.map false (mapE true e_vdisk_file r21.2.2.files)))]) (d := (sc (.bool r23))) F.ca_13 rfl rfl (ac (.one .imm) (ac (.one .imm) an)) an (by decide) rfl (bytes_HasPrefix.meets _ r21.1 (sub a0 0 (if 300 < (a0.length : Int) then 300 else (a0.length : Int))) r23 er23) (.inl rfl) rfl rfl ?_
        refine s_pick_yes (d := (sc (.bool r23))) rfl c22 rfl ?_
        refine s_move (d := (sc (.bool r23))) rfl ?_
        rcases itH h with ⟨c24, h⟩ | ⟨c24, h⟩
        ·refine AWops.guard_yes rfl (nl rfl) rfl c24 ?_
         obtain ⟨r25, er25, h⟩ := bnd h
         refine s_call2 (ρ := []) (br := false) (H2 := [(some (AObj.cells true [(C.mp 3), (C.p true (.v (.int .i64 r21.2.2.room))), (C.p true (.v (.int .i64 r21.2.2.used))), (C.p true (.v (.pointer none))), (C.p true (.v (.bool r21.2.2.dead)))])), none, none, (some (AObj.map false (mapE true e_vdisk_file r21.2.2.files)))]) (d := (sc (.bool r25))) F.ca_14 rfl rfl an an (by decide) rfl (dossierlaw03_awake.meets _  r25 er25) (.inl rfl) rfl rfl ?_
         refine s_pick_yes (d := (sc (.bool r25))) rfl c24 rfl ?_
         refine s_assign (d := (sc (.bool r25))) rfl (AWops.nil (AW.ret ?_))
         obtain rfl := Option.some.inj h
         exact ⟨_, rfl, (Weak.gen (kk := 0) [] [] rfl rfl (by decide) (by decide) rfl rfl rfl (le_upd (le_top _) (.t (.one .sc))) an)⟩
        ·refine AWops.guard_no rfl (nl rfl) rfl c24 ?_
         refine s_pick_no (d := (sc (.bool false))) rfl c24 rfl ?_
         refine s_assign (d := (sc (.bool false))) rfl (AWops.nil (AW.ret ?_))
         obtain rfl := Option.some.inj h
         exact ⟨_, rfl, (Weak.gen (kk := 0) [] [] rfl rfl (by decide) (by decide) rfl rfl rfl (le_upd (le_top _) (.t (.one .sc))) an)⟩
       ·iterate 3 refine AWops.guard_no rfl (nl rfl) rfl c22 ?_
        refine s_pick_no (d := (sc (.bool false))) rfl c22 rfl ?_
        refine s_move (d := (sc (.bool false))) rfl ?_
        refine AWops.guard_no rfl (nl rfl) rfl rfl ?_
        refine s_pick_no (d := (sc (.bool false))) rfl rfl rfl ?_
        refine s_assign (d := (sc (.bool false))) rfl (AWops.nil (AW.ret ?_))
        obtain rfl := Option.some.inj h
        exact ⟨_, rfl, (Weak.gen (kk := 0) [] [] rfl rfl (by decide) (by decide) rfl rfl rfl (le_upd (le_top _) (.t (.one .sc))) an)⟩
end Go.Abs.GenV
