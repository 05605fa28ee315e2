import Derived.Test.YtiegaebmhpdnmaaGenLvf
set_option linter.unusedVariables false
set_option linter.unusedSimpArgs false
set_option maxRecDepth 100000
set_option maxHeartbeats 4000000
namespace Go.Abs.GenLv
open Go.Abs Go.Proofs
mutual
def dossierlaw03_VdiskLives.l0 : Nat → Int → Int → Bool → Int → Int → Bool → (List (ByteArray × vdisk_file)) → (List dossierref03_File) → Int → (List dossierplain_Step) → Option Bool
 | 0, _, _, _, _, _, _, _, _, _, _ => none
 | k + 1, x15, x16, x17, x18, x19, x20, x21, x22, x23, a1 => if (decide (x23 < (a1.length : Int))) = true then ((rd a1 x23).bind fun v35 => if (decide (x23 < 40)) = true then ((dossierplain_Step_Do_16.f k v35 (⟨x21, x15, x16, (), x17⟩ : vdisk_Disk) (⟨x22, x18, x19, x20⟩ : dossierref03_Disk)).bind fun r37 => optE r37.2.2.2 (if r37.1 = true then ((dossierplain_Same.f k r37.2.1 r37.2.2.1).bind fun r41 => if r41 = true then (dossierlaw03_VdiskLives.l0 k r37.2.1.room r37.2.1.used r37.2.1.dead r37.2.2.1.Most r37.2.2.1.Burns r37.2.2.1.Off r37.2.1.files r37.2.2.1.L (IntKind.i64.wrap (x23 + 1)) a1) else (some false)) else (some false)) (fun y39 => if r37.1 = true then ((dossierplain_Same_26.f k r37.2.1 r37.2.2.1 y39).bind fun r44 => if r44 = true then (dossierlaw03_VdiskLives.l1 k r37.2.1.room r37.2.1.used r37.2.1.dead r37.2.2.1.Most r37.2.2.1.Burns r37.2.2.1.Off r37.2.1.files y39 r37.2.2.1.L (IntKind.i64.wrap (x23 + 1)) a1) else (some false)) else (some false))) else (dossierlaw03_VdiskLives.l0 k x15 x16 x17 x18 x19 x20 x21 x22 (IntKind.i64.wrap (x23 + 1)) a1)) else ((dossierlaw03_awake.f k).bind fun r46 => some r46)
def dossierlaw03_VdiskLives.l1 : Nat → Int → Int → Bool → Int → Int → Bool → (List (ByteArray × vdisk_file)) → Int → (List dossierref03_File) → Int → (List dossierplain_Step) → Option Bool
 | 0, _, _, _, _, _, _, _, _, _, _, _ => none
 | k + 1, x24, x25, x26, x27, x28, x29, x30, x31, x32, x33, a1 => if (decide (x33 < (a1.length : Int))) = true then ((rd a1 x33).bind fun v48 => if (decide (x33 < 40)) = true then ((dossierplain_Step_Do_16xx.f k v48 (⟨x30, x24, x25, (), x26⟩ : vdisk_Disk) x31 (⟨x32, x27, x28, x29⟩ : dossierref03_Disk)).bind fun r50 => optE r50.2.2.2 (if r50.1 = true then ((dossierplain_Same.f k r50.2.1 r50.2.2.1).bind fun r54 => if r54 = true then (dossierlaw03_VdiskLives.l0 k r50.2.1.room r50.2.1.used r50.2.1.dead r50.2.2.1.Most r50.2.2.1.Burns r50.2.2.1.Off r50.2.1.files r50.2.2.1.L (IntKind.i64.wrap (x33 + 1)) a1) else (some false)) else (some false)) (fun y52 => if r50.1 = true then ((dossierplain_Same_26.f k r50.2.1 r50.2.2.1 y52).bind fun r57 => if r57 = true then (dossierlaw03_VdiskLives.l1 k r50.2.1.room r50.2.1.used r50.2.1.dead r50.2.2.1.Most r50.2.2.1.Burns r50.2.2.1.Off r50.2.1.files y52 r50.2.2.1.L (IntKind.i64.wrap (x33 + 1)) a1) else (some false)) else (some false))) else (dossierlaw03_VdiskLives.l1 k x24 x25 x26 x27 x28 x29 x30 x31 x32 (IntKind.i64.wrap (x33 + 1)) a1)) else ((dossierlaw03_awake.f k).bind fun r59 => some r59)
end
def dossierlaw03_VdiskLives.f (k : Nat) (a0 : Int) (a1 : List dossierplain_Step) : Option Bool := (vdisk_New.f k a0).bind fun r1 => optE r1.1 ((dossierref03_New.f k a0).bind fun r4 => optE r4.1 (if (r1.2 != r4.2) = true then (some false) else ((dossierlaw03_awake.f k).bind fun r8 => some r8)) (fun y6 => if (r1.2 != r4.2) = true then (some false) else (some false))) (fun y3 => (dossierref03_New.f k a0).bind fun r10 => optE r10.1 (if (r1.2 != r10.2) = true then (some false) else (some false)) (fun y12 => if (r1.2 != r10.2) = true then (some false) else (dossierlaw03_VdiskLives.l0 k y3.room y3.used y3.dead y12.Most y12.Burns y12.Off y3.files y12.L 0 a1)))
theorem dossierlaw03_VdiskLives.meets (k : Nat) (a0 : Int) (a1 : List dossierplain_Step) (r : Bool) (h : dossierlaw03_VdiskLives.f k a0 a1 = some r) : Meets Try.prog 6 [(si a0), (D.one (C.p false (.sl a1.length (a1.flatMap e_dossierplain_Step))))] [] (sb r) [] := by
 unfold dossierlaw03_VdiskLives.f at h
 refine Meets.of_body (n := 58) Try.func6 rfl rfl (nl rfl) fun x hx => ?_
 replace hx : x.k = 0 := hx
 show AW _ x _ _ ⟨58, fr0 [(si a0), (D.one (C.p false (.sl a1.length (a1.flatMap e_dossierplain_Step))))], []⟩
 refine AW.seq (AW.region ?_)
 refine s_assign (d := (sb false)) rfl (AWops.nil (AW.seq (AW.region ?_)))
 refine s_move (d := (si a0)) rfl ?_
 obtain ⟨r1, er1, h⟩ := bnd h
 rcases optH h with ⟨c2, h⟩ | ⟨y3, c2, h⟩
 ·refine s_call2 (ρ := []) (br := false) (H2 := []) (d := (D.tup [(sc (.pointer none)), (si r1.2)])) F.ca_8 rfl rfl (ac (.one .sc) an) an (by decide) rfl (Meets.eqs (optE_none c2) (optE_none c2) (vdisk_New.meets _ a0 r1 er1)) (.inl rfl) rfl rfl ?_
  refine s_move (d := (D.tup [(sc (.pointer none)), (si r1.2)])) rfl ?_
  refine s_extract (d := (sc (.pointer none))) rfl rfl ?_
  refine s_extract (d := (si r1.2)) rfl rfl ?_
  refine s_assign (d := (sc (.pointer none))) rfl ?_
  refine s_assign (d := (si r1.2)) rfl (AWops.nil (AW.seq (AW.region ?_)))
  refine s_move (d := (si a0)) rfl ?_
  obtain ⟨r4, er4, h⟩ := bnd h
  rcases optH h with ⟨c5, h⟩ | ⟨y6, c5, h⟩
  ·refine s_call2 (ρ := []) (br := false) (H2 := []) (d := (D.tup [(sc (.pointer none)), (si r4.2)])) F.ca_15 rfl rfl (ac (.one .sc) an) an (by decide) rfl (Meets.eqs (optE_none c5) (optE_none c5) (dossierref03_New.meets _ a0 r4 er4)) (.inl rfl) rfl rfl ?_
   refine s_move (d := (D.tup [(sc (.pointer none)), (si r4.2)])) rfl ?_
   refine s_extract (d := (sc (.pointer none))) rfl rfl ?_
   refine s_extract (d := (si r4.2)) rfl rfl ?_
   refine s_assign (d := (sc (.pointer none))) rfl ?_
   refine s_assign (d := (si r4.2)) rfl (AWops.nil (AW.seq (AW.seq (AW.region ?_))))
   refine s_move (d := (si r1.2)) rfl ?_
   refine s_move (d := (si r4.2)) rfl ?_
   refine s_binI (v := (.bool (r1.2 != r4.2))) rfl rfl rfl ?_
   refine s_move (d := (sb (r1.2 != r4.2))) rfl ?_
   rcases itH h with ⟨c7, h⟩ | ⟨c7, h⟩
   ·iterate 5 refine AWops.guard_no rfl (nl rfl) rfl c7 ?_
    refine s_pick_yes (d := (sb true)) rfl c7 rfl (AWops.nil ?_)
    refine AW.cond_yes rfl rfl (AW.seq (AW.region ?_))
    refine s_assign (d := (sb false)) rfl (AWops.nil (AW.ret ?_))
    obtain rfl := Option.some.inj h
    exact ⟨_, rfl, (wg 0 [] [] rfl (le_upd (le_top _) (.t (.one .sc))) an)⟩
   ·refine AWops.guard_yes rfl (nl rfl) rfl c7 ?_
    refine s_move (d := (sc (.pointer none))) rfl ?_
    refine AWops.guard_yes rfl (nl rfl) rfl c7 ?_
    refine s_ptrNil (b := true) F.u_25 rfl (.inr ⟨⟨_, rfl⟩, rfl⟩) (.inl rfl) ?_
    refine AWops.guard_yes rfl (nl rfl) rfl c7 ?_
    refine s_move (d := (sc (.pointer none))) rfl ?_
    refine AWops.guard_yes rfl (nl rfl) rfl c7 ?_
    refine s_ptrNil (b := true) F.u_39 rfl (.inr ⟨⟨_, rfl⟩, rfl⟩) (.inl rfl) ?_
    refine AWops.guard_yes rfl (nl rfl) rfl c7 ?_
    refine s_binB (b := false) F.u_4 rfl rfl (.inr ⟨rfl, rfl⟩) ?_
    refine s_pick_no (d := (sb false)) rfl c7 rfl (AWops.nil ?_)
    refine AW.cond_no rfl rfl (AW.skip (AW.seq (AW.seq (AW.region ?_))))
    refine s_move (d := (sc (.pointer none))) rfl ?_
    refine s_ptrNil (b := true) F.u_25 rfl (.inr ⟨⟨_, rfl⟩, rfl⟩) (.inl rfl) (AWops.nil ?_)
    refine AW.cond_yes rfl rfl (AW.seq (AW.region ?_))
    obtain ⟨r8, er8, h⟩ := bnd h
    refine s_call2 (ρ := []) (br := false) (H2 := []) (d := (sb r8)) F.ca_14 rfl rfl an an (by decide) rfl (dossierlaw03_awake.meets _  r8 er8) (.inl rfl) rfl rfl ?_
    refine s_assign (d := (sb r8)) rfl (AWops.nil (AW.ret ?_))
    obtain rfl := Option.some.inj h
    exact ⟨_, rfl, (wg 0 [] [] rfl (le_upd (le_top _) (.t (.one .sc))) an)⟩
  ·refine s_call2 (ρ := []) (br := false) (H2 := [(o_dossierref03_Disk_0 true (C.own 1 0 y6.L.length 3) y6), (ow_ e_dossierref03_File y6.L)]) (d := (D.tup [(rf 0 0), (si r4.2)])) F.ca_15 rfl rfl (ac (.one .sc) an) an (by decide) rfl (Meets.eqs (optE_some c5) (optE_some c5) (dossierref03_New.meets _ a0 r4 er4)) (.inl rfl) (by first | rfl | (simp only [mS]; done) | (simp only [mS]; rfl)) rfl ?_
   refine s_move (d := (D.tup [(rf 0 0), (si r4.2)])) rfl ?_
   refine s_extract (d := (rf 0 0)) rfl rfl ?_
   refine s_extract (d := (si r4.2)) rfl rfl ?_
   refine s_assign (d := (rf 0 0)) rfl ?_
   refine s_assign (d := (si r4.2)) rfl (AWops.nil (AW.seq (AW.seq (AW.region ?_))))
   refine s_move (d := (si r1.2)) rfl ?_
   refine s_move (d := (si r4.2)) rfl ?_
   refine s_binI (v := (.bool (r1.2 != r4.2))) rfl rfl rfl ?_
   refine s_move (d := (sb (r1.2 != r4.2))) rfl ?_
   rcases itH h with ⟨c9, h⟩ | ⟨c9, h⟩
   ·iterate 5 refine AWops.guard_no rfl (nl rfl) rfl c9 ?_
    refine s_pick_yes (d := (sb true)) rfl c9 rfl (AWops.nil ?_)
    refine AW.cond_yes rfl rfl (AW.seq (AW.region ?_))
    refine s_assign (d := (sb false)) rfl (AWops.nil (AW.ret ?_))
    obtain rfl := Option.some.inj h
    exact ⟨_, rfl, (wg 0 [] [] rfl (le_upd (le_top _) (.t (.one .sc))) an)⟩
   ·refine AWops.guard_yes rfl (nl rfl) rfl c9 ?_
    refine s_move (d := (sc (.pointer none))) rfl ?_
    refine AWops.guard_yes rfl (nl rfl) rfl c9 ?_
    refine s_ptrNil (b := true) F.u_25 rfl (.inr ⟨⟨_, rfl⟩, rfl⟩) (.inl rfl) ?_
    refine AWops.guard_yes rfl (nl rfl) rfl c9 ?_
    refine s_move (d := (rf 0 0)) rfl ?_
    refine AWops.guard_yes rfl (nl rfl) rfl c9 ?_
    refine s_ptrNil (b := false) F.u_39 rfl (.inl ⟨⟨_, _, rfl⟩, rfl⟩) (.inl rfl) ?_
    refine AWops.guard_yes rfl (nl rfl) rfl c9 ?_
    refine s_binB (b := true) F.u_4 rfl rfl (.inr ⟨rfl, rfl⟩) ?_
    refine s_pick_no (d := (sb true)) rfl c9 rfl (AWops.nil ?_)
    refine AW.cond_yes rfl rfl (AW.seq (AW.region ?_))
    refine s_assign (d := (sb false)) rfl (AWops.nil (AW.ret ?_))
    obtain rfl := Option.some.inj h
    exact ⟨_, rfl, (wg 0 [] [] rfl (le_upd (le_top _) (.t (.one .sc))) an)⟩
 ·refine s_call2 (ρ := []) (br := false) (H2 := [(o_vdisk_Disk_03 true (C.mp 1) (C.p true (.v (.pointer none))) y3), (om_ e_vdisk_file y3.files)]) (d := (D.tup [(rf 0 0), (si r1.2)])) F.ca_8 rfl rfl (ac (.one .sc) an) an (by decide) rfl (Meets.eqs (optE_some c2) (optE_some c2) (vdisk_New.meets _ a0 r1 er1)) (.inl rfl) rfl rfl ?_
  refine s_move (d := (D.tup [(rf 0 0), (si r1.2)])) rfl ?_
  refine s_extract (d := (rf 0 0)) rfl rfl ?_
  refine s_extract (d := (si r1.2)) rfl rfl ?_
  refine s_assign (d := (rf 0 0)) rfl ?_
  refine s_assign (d := (si r1.2)) rfl (AWops.nil (AW.seq (AW.region ?_)))
  refine s_move (d := (si a0)) rfl ?_
  obtain ⟨r10, er10, h⟩ := bnd h
  rcases optH h with ⟨c11, h⟩ | ⟨y12, c11, h⟩
  ·refine s_call2 (ρ := []) (br := false) (H2 := [(o_vdisk_Disk_03 true (C.mp 1) (C.p true (.v (.pointer none))) y3), (om_ e_vdisk_file y3.files)]) (d := (D.tup [(sc (.pointer none)), (si r10.2)])) F.ca_15 rfl rfl (ac (.one .sc) an) an (by decide) rfl (Meets.eqs (optE_none c11) (optE_none c11) (dossierref03_New.meets _ a0 r10 er10)) (.inl rfl) rfl rfl ?_
   refine s_move (d := (D.tup [(sc (.pointer none)), (si r10.2)])) rfl ?_
   refine s_extract (d := (sc (.pointer none))) rfl rfl ?_
   refine s_extract (d := (si r10.2)) rfl rfl ?_
   refine s_assign (d := (sc (.pointer none))) rfl ?_
   refine s_assign (d := (si r10.2)) rfl (AWops.nil (AW.seq (AW.seq (AW.region ?_))))
   refine s_move (d := (si r1.2)) rfl ?_
   refine s_move (d := (si r10.2)) rfl ?_
   refine s_binI (v := (.bool (r1.2 != r10.2))) rfl rfl rfl ?_
   refine s_move (d := (sb (r1.2 != r10.2))) rfl ?_
   rcases itH h with ⟨c13, h⟩ | ⟨c13, h⟩
   ·iterate 5 refine AWops.guard_no rfl (nl rfl) rfl c13 ?_
    refine s_pick_yes (d := (sb true)) rfl c13 rfl (AWops.nil ?_)
    refine AW.cond_yes rfl rfl (AW.seq (AW.region ?_))
    refine s_assign (d := (sb false)) rfl (AWops.nil (AW.ret ?_))
    obtain rfl := Option.some.inj h
    exact ⟨_, rfl, (wg 0 [] [] rfl (le_upd (le_top _) (.t (.one .sc))) an)⟩
   ·refine AWops.guard_yes rfl (nl rfl) rfl c13 ?_
    refine s_move (d := (rf 0 0)) rfl ?_
    refine AWops.guard_yes rfl (nl rfl) rfl c13 ?_
    refine s_ptrNil (b := false) F.u_25 rfl (.inl ⟨⟨_, _, rfl⟩, rfl⟩) (.inl rfl) ?_
    refine AWops.guard_yes rfl (nl rfl) rfl c13 ?_
    refine s_move (d := (sc (.pointer none))) rfl ?_
    refine AWops.guard_yes rfl (nl rfl) rfl c13 ?_
    refine s_ptrNil (b := true) F.u_39 rfl (.inr ⟨⟨_, rfl⟩, rfl⟩) (.inl rfl) ?_
    refine AWops.guard_yes rfl (nl rfl) rfl c13 ?_
    refine s_binB (b := true) F.u_4 rfl rfl (.inr ⟨rfl, rfl⟩) ?_
    refine s_pick_no (d := (sb true)) rfl c13 rfl (AWops.nil ?_)
    refine AW.cond_yes rfl rfl (AW.seq (AW.region ?_))
    refine s_assign (d := (sb false)) rfl (AWops.nil (AW.ret ?_))
    obtain rfl := Option.some.inj h
    exact ⟨_, rfl, (wg 0 [] [] rfl (le_upd (le_top _) (.t (.one .sc))) an)⟩
  ·refine s_call2 (ρ := []) (br := false) (H2 := [(o_vdisk_Disk_03 true (C.mp 1) (C.p true (.v (.pointer none))) y3), (om_ e_vdisk_file y3.files), (o_dossierref03_Disk_0 true (C.own 3 0 y12.L.length 3) y12), (ow_ e_dossierref03_File y12.L)]) (d := (D.tup [(rf 2 0), (si r10.2)])) F.ca_15 rfl rfl (ac (.one .sc) an) an (by decide) rfl (Meets.eqs (optE_some c11) (optE_some c11) (dossierref03_New.meets _ a0 r10 er10)) (.inl rfl) (by first | rfl | (simp only [mS]; done) | (simp only [mS]; rfl)) rfl ?_
   refine s_move (d := (D.tup [(rf 2 0), (si r10.2)])) rfl ?_
   refine s_extract (d := (rf 2 0)) rfl rfl ?_
   refine s_extract (d := (si r10.2)) rfl rfl ?_
   refine s_assign (d := (rf 2 0)) rfl ?_
   refine s_assign (d := (si r10.2)) rfl (AWops.nil (AW.seq (AW.seq (AW.region ?_))))
   refine s_move (d := (si r1.2)) rfl ?_
   refine s_move (d := (si r10.2)) rfl ?_
   refine s_binI (v := (.bool (r1.2 != r10.2))) rfl rfl rfl ?_
   refine s_move (d := (sb (r1.2 != r10.2))) rfl ?_
   rcases itH h with ⟨c14, h⟩ | ⟨c14, h⟩
   ·iterate 5 refine AWops.guard_no rfl (nl rfl) rfl c14 ?_
    refine s_pick_yes (d := (sb true)) rfl c14 rfl (AWops.nil ?_)
    refine AW.cond_yes rfl rfl (AW.seq (AW.region ?_))
    refine s_assign (d := (sb false)) rfl (AWops.nil (AW.ret ?_))
    obtain rfl := Option.some.inj h
    exact ⟨_, rfl, (wg 0 [] [] rfl (le_upd (le_top _) (.t (.one .sc))) an)⟩
   ·refine AWops.guard_yes rfl (nl rfl) rfl c14 ?_
    refine s_move (d := (rf 0 0)) rfl ?_
    refine AWops.guard_yes rfl (nl rfl) rfl c14 ?_
    refine s_ptrNil (b := false) F.u_25 rfl (.inl ⟨⟨_, _, rfl⟩, rfl⟩) (.inl rfl) ?_
    refine AWops.guard_yes rfl (nl rfl) rfl c14 ?_
    refine s_move (d := (rf 2 0)) rfl ?_
    refine AWops.guard_yes rfl (nl rfl) rfl c14 ?_
    refine s_ptrNil (b := false) F.u_39 rfl (.inl ⟨⟨_, _, rfl⟩, rfl⟩) (.inl rfl) ?_
    refine AWops.guard_yes rfl (nl rfl) rfl c14 ?_
    refine s_binB (b := false) F.u_4 rfl rfl (.inr ⟨rfl, rfl⟩) ?_
    refine s_pick_no (d := (sb false)) rfl c14 rfl (AWops.nil ?_)
    refine AW.cond_no rfl rfl (AW.skip (AW.seq (AW.seq (AW.region ?_))))
    refine s_move (d := (rf 0 0)) rfl ?_
    refine s_ptrNil (b := false) F.u_25 rfl (.inl ⟨⟨_, _, rfl⟩, rfl⟩) (.inl rfl) (AWops.nil ?_)
    refine AW.cond_no rfl rfl (AW.skip (AW.seq (AW.seq (AW.region ?_))))
    refine s_move (d := (D.one (C.p false (.sl a1.length (a1.flatMap e_dossierplain_Step))))) rfl ?_
    refine s_len (n := a1.length) F.u_37 rfl (.inr ⟨(fun _ _ h => by cases h), ⟨_, rfl⟩⟩) ?_
    refine s_move (d := (si 0)) rfl (AWops.nil (AW.block ?_))
    refine AW.loopw (st0 := ⟨58, (upd 58 (upd 58 (upd 58 (upd 58 (upd 58 topF 5 (rf 0 0)) 7 (rf 1 0)) 34 (D.one (C.p false (.sl a1.length (a1.flatMap e_dossierplain_Step))))) 35 (si (a1.length : Int))) 36 (si 0)), [(some (AObj.cells true [(C.mp 2), (ci y3.room), (ci y3.used), (C.p true (.v (.pointer none))), (cb y3.dead)])), (some (AObj.cells true [(C.own 3 0 y12.L.length 3), (ci y12.Most), (ci y12.Burns), (cb y12.Off)])), (om_ e_vdisk_file y3.files), (or_ e_dossierref03_File y12.L)]⟩) (fun kv st => kv ≤ k ∧ ((∃ (x15 : Int) (x16 : Int) (x17 : Bool) (x18 : Int) (x19 : Int) (x20 : Bool) (x21 : List (ByteArray × vdisk_file)) (x22 : List dossierref03_File) (x23 : Int), dossierlaw03_VdiskLives.l0 kv x15 x16 x17 x18 x19 x20 x21 x22 x23 a1 = some r ∧ st = ⟨58, (upd 58 (upd 58 (upd 58 (upd 58 (upd 58 topF 5 (rf 0 0)) 7 (rf 1 0)) 34 (D.one (C.p false (.sl a1.length (a1.flatMap e_dossierplain_Step))))) 35 (si (a1.length : Int))) 36 (si x23)), [(some (AObj.cells true [(C.mp 2), (ci x15), (ci x16), (C.p true (.v (.pointer none))), (cb x17)])), (some (AObj.cells true [(C.own 3 0 x22.length 3), (ci x18), (ci x19), (cb x20)])), (om_ e_vdisk_file x21), (or_ e_dossierref03_File x22)]⟩) ∨ (∃ (x24 : Int) (x25 : Int) (x26 : Bool) (x27 : Int) (x28 : Int) (x29 : Bool) (x30 : List (ByteArray × vdisk_file)) (x31 : Int) (x32 : List dossierref03_File) (x33 : Int), dossierlaw03_VdiskLives.l1 kv x24 x25 x26 x27 x28 x29 x30 x31 x32 x33 a1 = some r ∧ st = ⟨58, (upd 58 (upd 58 (upd 58 (upd 58 (upd 58 topF 5 (rf 0 0)) 7 (rf 1 0)) 34 (D.one (C.p false (.sl a1.length (a1.flatMap e_dossierplain_Step))))) 35 (si (a1.length : Int))) 36 (si x33)), [(some (AObj.cells true [(C.mp 2), (ci x24), (ci x25), (C.ref 3 0), (cb x26)])), (some (AObj.cells true [(C.own 4 0 x32.length 3), (ci x27), (ci x28), (cb x29)])), (om_ e_vdisk_file x30), (some (AObj.cells false [(ci x31)])), (or_ e_dossierref03_File x32)]⟩))) (k := k) (wg 0 [0, 2, 1, 3] [] hx (le_upd (le_upd (le_upd (le_upd (le_upd (le_top _) (.t (.one (.ref rfl)))) (.t (.one (.ref rfl)))) (.t (.one .same))) (.t (.one .sc))) (.t (.one .sc))) (ac (.cells (fun _ => rfl) (ac (.mp rfl) (ac .sc (ac .sc (ac .sc (ac .sc an)))))) (ac (.cells (fun _ => rfl) (ac (.own rfl) (ac .sc (ac .sc (ac .sc an))))) (ac .map (ac (.cells (fun _ => rfl) (all2_row _)) an))))) ⟨Nat.le_refl _, .inl ⟨y3.room, y3.used, y3.dead, y12.Most, y12.Burns, y12.Off, y3.files, y12.L, 0, h, rfl⟩⟩ ?_
    rintro ql0 st ⟨hkl0, ⟨x15, x16, x17, x18, x19, x20, x21, x22, x23, h, rfl⟩ | ⟨x24, x25, x26, x27, x28, x29, x30, x31, x32, x33, h, rfl⟩⟩
    ·cases ql0 with
     | zero => exact absurd h (by simp [dossierlaw03_VdiskLives.l0])
     | succ ql0 =>
      replace h := (dossierlaw03_VdiskLives.l0.eq_2 _ _ _ _ _ _ _ _ _ _ _).symm.trans h
      refine AW.seq (AW.region ?_)
      refine s_binI (v := (.bool (decide (x23 < (a1.length : Int))))) rfl rfl rfl (AWops.nil (AW.seq ?_))
      rcases itH h with ⟨c34, h⟩ | ⟨c34, h⟩
      ·refine AW.cond_yes rfl c34 (AW.skip (AW.seq (AW.block (AW.seq (AW.region ?_)))))
       refine s_move (d := (si x23)) rfl ?_
       obtain ⟨v35, ev35, h⟩ := bnd h
       obtain ⟨pv35, qv35, gv35⟩ := rd_some ev35
       refine s_indexImm (ps := (p_dossierplain_Step v35)) F.u_37 F.sz_43 rfl rfl pv35 qv35 (flat_at e_dossierplain_Step_len gv35 (e_dossierplain_Step_eq v35)) ?_
       refine s_loadN (ds := (c_dossierplain_Step v35)) F.ag_43 F.sz_43 rfl rfl rfl ?_
       refine s_alloc (cs := [(ci 0), (ci 0), (ct (⟨#[]⟩ : ByteArray)), (ct (⟨#[]⟩ : ByteArray)), (C.p true (.v (.slice none 0 0))), (C.p true (.v (.slice none 0 0)))]) F.z_43 rfl rfl ?_
       refine s_assign (d := (si x23)) rfl ?_
       refine s_store (cs' := (c_dossierplain_Step v35)) rfl rfl rfl (List.cons_ne_nil _ _) rfl F.sz_43 (nl rfl) rfl (AWops.nil (AW.seq (AW.region ?_)))
       refine s_move (d := (si x23)) rfl ?_
       refine s_binI (v := (.bool (decide (x23 < 40)))) rfl rfl rfl ?_
       refine s_move (d := (sb (decide (x23 < 40)))) rfl ?_
       rcases itH h with ⟨c36, h⟩ | ⟨c36, h⟩
       ·refine AWops.guard_yes rfl (nl rfl) rfl c36 ?_
        refine s_loadN (ds := (c_dossierplain_Step v35)) F.ag_43 F.sz_43 rfl rfl rfl ?_
        refine AWops.guard_yes rfl (nl rfl) rfl c36 ?_
        refine s_move (d := (rf 0 0)) rfl ?_
        refine AWops.guard_yes rfl (nl rfl) rfl c36 ?_
        refine s_move (d := (rf 1 0)) rfl ?_
        refine AWops.guard_yes rfl (nl rfl) rfl c36 ?_
        obtain ⟨r37, er37, h⟩ := bnd h
        rcases optH h with ⟨c38, h⟩ | ⟨y39, c38, h⟩
        ·refine s_call2 (ρ := [0, 1, 2, 3]) (br := false) (H2 := [(o_vdisk_Disk_03 true (C.mp 2) (C.p true (.v (.pointer none))) r37.2.1), (o_dossierref03_Disk_0 true (C.own 5 0 r37.2.2.1.L.length 3) r37.2.2.1), (om_ e_vdisk_file r37.2.1.files), none, (some (AObj.cells true (c_dossierplain_Step v35))), (or_ e_dossierref03_File r37.2.2.1.L)]) (d := (sb r37.1)) F.ca_16 rfl rfl (ac (LendT.aggL (ac .sc (ac .sc (ac .sc (ac .sc (ac .imm (ac .imm an))))))) (ac (.one (.ref rfl)) (ac (.one (.ref rfl)) an))) (ac (.cells (ac (.mp rfl) (ac .sc (ac .sc (ac .sc (ac .sc an)))))) (ac (.cells (ac (.own rfl) (ac .sc (ac .sc (ac .sc an))))) (ac .map (ac (.cells (lend_row _)) an)))) (by decide) rfl (Meets.eqs (optE_none c38) (optE_none c38) (dossierplain_Step_Do_16.meets _ v35 (⟨x21, x15, x16, (), x17⟩ : vdisk_Disk) (⟨x22, x18, x19, x20⟩ : dossierref03_Disk) r37 er37)) (.inl rfl) (by first | rfl | (simp only [mS]; done) | (simp only [mS]; rfl)) rfl ?_
         refine AWops.guard_yes rfl (nl rfl) rfl c36 ?_
         refine s_not rfl ?_
         refine AWops.guard_yes rfl (nl rfl) rfl c36 ?_
         refine s_move (d := (sb (!r37.1))) rfl ?_
         rcases itH h with ⟨c40, h⟩ | ⟨c40, h⟩
         ·refine AWops.guard_yes rfl (nl rfl) rfl (by rw [c40] <;> rfl) ?_
          refine s_move (d := (rf 0 0)) rfl ?_
          refine AWops.guard_yes rfl (nl rfl) rfl (by rw [c40] <;> rfl) ?_
          refine s_move (d := (rf 1 0)) rfl ?_
          refine AWops.guard_yes rfl (nl rfl) rfl (by rw [c40] <;> rfl) ?_
          obtain ⟨r41, er41, h⟩ := bnd h
          refine s_call2 (ρ := [0, 1, 2, 5]) (br := false) (H2 := [(o_vdisk_Disk_03 true (C.mp 2) (C.p true (.v (.pointer none))) r37.2.1), (o_dossierref03_Disk_0 true (C.own 5 0 r37.2.2.1.L.length 3) r37.2.2.1), (om_ e_vdisk_file r37.2.1.files), none, (some (AObj.cells true (c_dossierplain_Step v35))), (or_ e_dossierref03_File r37.2.2.1.L)]) (d := (sb r41)) F.ca_26 rfl rfl (ac (.one (.ref rfl)) (ac (.one (.ref rfl)) an)) (ac (.cells (ac (.mp rfl) (ac .sc (ac .sc (ac .sc (ac .sc an)))))) (ac (.cells (ac (.own rfl) (ac .sc (ac .sc (ac .sc an))))) (ac .map (ac (.cells (lend_row _)) an)))) (by decide) rfl (dossierplain_Same.meets _ r37.2.1 r37.2.2.1 r41 er41) (.inl rfl) (by first | rfl | (simp only [mS]; done) | (simp only [mS]; rfl)) rfl ?_
          refine AWops.guard_yes rfl (nl rfl) rfl (by rw [c40] <;> rfl) ?_
          refine s_not rfl ?_
          refine AWops.guard_yes rfl (nl rfl) rfl c36 ?_
          refine s_pick_no (d := (sb (!r41))) rfl (by rw [c40] <;> rfl) rfl ?_
          refine s_pick_yes (d := (sb (!r41))) rfl c36 rfl (AWops.nil ?_)
          rcases itH h with ⟨c42, h⟩ | ⟨c42, h⟩
          ·refine AW.cond_no rfl (by rw [c42] <;> rfl) (AW.skip (AW.region ?_))
           refine s_binI (v := (.int .i64 (IntKind.i64.wrap (x23 + 1)))) rfl rfl rfl ?_
           refine s_move (d := (si (IntKind.i64.wrap (x23 + 1)))) rfl (AWops.nil ?_)
           exact ⟨_, ⟨58, (upd 58 (upd 58 (upd 58 (upd 58 (upd 58 topF 5 (rf 0 0)) 7 (rf 1 0)) 34 (D.one (C.p false (.sl a1.length (a1.flatMap e_dossierplain_Step))))) 35 (si (a1.length : Int))) 36 (si (IntKind.i64.wrap (x23 + 1)))), [(some (AObj.cells true [(C.mp 2), (ci r37.2.1.room), (ci r37.2.1.used), (C.p true (.v (.pointer none))), (cb r37.2.1.dead)])), (some (AObj.cells true [(C.own 3 0 r37.2.2.1.L.length 3), (ci r37.2.2.1.Most), (ci r37.2.2.1.Burns), (cb r37.2.2.1.Off)])), (om_ e_vdisk_file r37.2.1.files), (or_ e_dossierref03_File r37.2.2.1.L)]⟩, by omega, (wg 0 [0, 1, 2, 5] [] hx (le_upd (le_upd (le_upd (le_upd (le_upd (le_top _) (.t (.one (.ref rfl)))) (.t (.one (.ref rfl)))) (.t (.one .same))) (.t (.one .sc))) (.t (.one .sc))) (ac (.cells (fun _ => rfl) (ac (.mp rfl) (ac .sc (ac .sc (ac .sc (ac .sc an)))))) (ac (.cells (fun _ => rfl) (ac (.own rfl) (ac .sc (ac .sc (ac .sc an))))) (ac .map (ac (.cells id (all2_row _)) an))))), by omega, .inl ⟨r37.2.1.room, r37.2.1.used, r37.2.1.dead, r37.2.2.1.Most, r37.2.2.1.Burns, r37.2.2.1.Off, r37.2.1.files, r37.2.2.1.L, IntKind.i64.wrap (x23 + 1), h, rfl⟩⟩
          ·refine AW.cond_yes rfl (by rw [c42] <;> rfl) (AW.seq (AW.region ?_))
           refine s_assign (d := (sb false)) rfl (AWops.nil (AW.ret ?_))
           obtain rfl := Option.some.inj h
           exact ⟨_, rfl, (wg 0 [] [] rfl (le_upd (le_top _) (.t (.one .sc))) an)⟩
         ·iterate 4 refine AWops.guard_no rfl (nl rfl) rfl (by rw [c40] <;> rfl) ?_
          refine AWops.guard_yes rfl (nl rfl) rfl c36 ?_
          refine s_pick_yes (d := (sb true)) rfl (by rw [c40] <;> rfl) rfl ?_
          refine s_pick_yes (d := (sb true)) rfl c36 rfl (AWops.nil ?_)
          refine AW.cond_yes rfl rfl (AW.seq (AW.region ?_))
          refine s_assign (d := (sb false)) rfl (AWops.nil (AW.ret ?_))
          obtain rfl := Option.some.inj h
          exact ⟨_, rfl, (wg 0 [] [] rfl (le_upd (le_top _) (.t (.one .sc))) an)⟩
        ·refine s_call2 (ρ := [0, 1, 2, 3]) (br := false) (H2 := [(o_vdisk_Disk_03 true (C.mp 2) (C.ref 5 0) r37.2.1), (o_dossierref03_Disk_0 true (C.own 6 0 r37.2.2.1.L.length 3) r37.2.2.1), (om_ e_vdisk_file r37.2.1.files), none, (some (AObj.cells true (c_dossierplain_Step v35))), (some (AObj.cells false [(ci y39)])), (or_ e_dossierref03_File r37.2.2.1.L)]) (d := (sb r37.1)) F.ca_16 rfl rfl (ac (LendT.aggL (ac .sc (ac .sc (ac .sc (ac .sc (ac .imm (ac .imm an))))))) (ac (.one (.ref rfl)) (ac (.one (.ref rfl)) an))) (ac (.cells (ac (.mp rfl) (ac .sc (ac .sc (ac .sc (ac .sc an)))))) (ac (.cells (ac (.own rfl) (ac .sc (ac .sc (ac .sc an))))) (ac .map (ac (.cells (lend_row _)) an)))) (by decide) rfl (Meets.eqs (optE_some c38) (optE_some c38) (dossierplain_Step_Do_16.meets _ v35 (⟨x21, x15, x16, (), x17⟩ : vdisk_Disk) (⟨x22, x18, x19, x20⟩ : dossierref03_Disk) r37 er37)) (.inl rfl) (by first | rfl | (simp only [mS]; done) | (simp only [mS]; rfl)) rfl ?_
         refine AWops.guard_yes rfl (nl rfl) rfl c36 ?_
         refine s_not rfl ?_
         refine AWops.guard_yes rfl (nl rfl) rfl c36 ?_
         refine s_move (d := (sb (!r37.1))) rfl ?_
         rcases itH h with ⟨c43, h⟩ | ⟨c43, h⟩
         ·refine AWops.guard_yes rfl (nl rfl) rfl (by rw [c43] <;> rfl) ?_
          refine s_move (d := (rf 0 0)) rfl ?_
          refine AWops.guard_yes rfl (nl rfl) rfl (by rw [c43] <;> rfl) ?_
          refine s_move (d := (rf 1 0)) rfl ?_
          refine AWops.guard_yes rfl (nl rfl) rfl (by rw [c43] <;> rfl) ?_
          obtain ⟨r44, er44, h⟩ := bnd h
          refine s_call2 (ρ := [0, 1, 2, 5, 6]) (br := false) (H2 := [(o_vdisk_Disk_03 true (C.mp 2) (C.ref 5 0) r37.2.1), (o_dossierref03_Disk_0 true (C.own 6 0 r37.2.2.1.L.length 3) r37.2.2.1), (om_ e_vdisk_file r37.2.1.files), none, (some (AObj.cells true (c_dossierplain_Step v35))), (some (AObj.cells false [(ci y39)])), (or_ e_dossierref03_File r37.2.2.1.L)]) (d := (sb r44)) F.ca_26 rfl rfl (ac (.one (.ref rfl)) (ac (.one (.ref rfl)) an)) (ac (.cells (ac (.mp rfl) (ac .sc (ac .sc (ac (.ref rfl) (ac .sc an)))))) (ac (.cells (ac (.own rfl) (ac .sc (ac .sc (ac .sc an))))) (ac .map (ac (.cells (ac .sc an)) (ac (.cells (lend_row _)) an))))) (by decide) rfl (dossierplain_Same_26.meets _ r37.2.1 r37.2.2.1 y39 r44 er44) (.inl rfl) (by first | rfl | (simp only [mS]; done) | (simp only [mS]; rfl)) rfl ?_
          refine AWops.guard_yes rfl (nl rfl) rfl (by rw [c43] <;> rfl) ?_
          refine s_not rfl ?_
          refine AWops.guard_yes rfl (nl rfl) rfl c36 ?_
          refine s_pick_no (d := (sb (!r44))) rfl (by rw [c43] <;> rfl) rfl ?_
          refine s_pick_yes (d := (sb (!r44))) rfl c36 rfl (AWops.nil ?_)
          rcases itH h with ⟨c45, h⟩ | ⟨c45, h⟩
          ·refine AW.cond_no rfl (by rw [c45] <;> rfl) (AW.skip (AW.region ?_))
           refine s_binI (v := (.int .i64 (IntKind.i64.wrap (x23 + 1)))) rfl rfl rfl ?_
           refine s_move (d := (si (IntKind.i64.wrap (x23 + 1)))) rfl (AWops.nil ?_)
           exact ⟨_, ⟨58, (upd 58 (upd 58 (upd 58 (upd 58 (upd 58 topF 5 (rf 0 0)) 7 (rf 1 0)) 34 (D.one (C.p false (.sl a1.length (a1.flatMap e_dossierplain_Step))))) 35 (si (a1.length : Int))) 36 (si (IntKind.i64.wrap (x23 + 1)))), [(some (AObj.cells true [(C.mp 2), (ci r37.2.1.room), (ci r37.2.1.used), (C.ref 3 0), (cb r37.2.1.dead)])), (some (AObj.cells true [(C.own 4 0 r37.2.2.1.L.length 3), (ci r37.2.2.1.Most), (ci r37.2.2.1.Burns), (cb r37.2.2.1.Off)])), (om_ e_vdisk_file r37.2.1.files), (some (AObj.cells false [(ci y39)])), (or_ e_dossierref03_File r37.2.2.1.L)]⟩, by omega, (wg 0 [0, 1, 2, 5, 6] [] hx (le_upd (le_upd (le_upd (le_upd (le_upd (le_top _) (.t (.one (.ref rfl)))) (.t (.one (.ref rfl)))) (.t (.one .same))) (.t (.one .sc))) (.t (.one .sc))) (ac (.cells (fun _ => rfl) (ac (.mp rfl) (ac .sc (ac .sc (ac (.ref rfl) (ac .sc an)))))) (ac (.cells (fun _ => rfl) (ac (.own rfl) (ac .sc (ac .sc (ac .sc an))))) (ac .map (ac (.cells id (ac .sc an)) (ac (.cells id (all2_row _)) an)))))), by omega, .inr (⟨r37.2.1.room, r37.2.1.used, r37.2.1.dead, r37.2.2.1.Most, r37.2.2.1.Burns, r37.2.2.1.Off, r37.2.1.files, y39, r37.2.2.1.L, IntKind.i64.wrap (x23 + 1), h, rfl⟩)⟩
          ·refine AW.cond_yes rfl (by rw [c45] <;> rfl) (AW.seq (AW.region ?_))
           refine s_assign (d := (sb false)) rfl (AWops.nil (AW.ret ?_))
           obtain rfl := Option.some.inj h
           exact ⟨_, rfl, (wg 0 [] [] rfl (le_upd (le_top _) (.t (.one .sc))) an)⟩
         ·iterate 4 refine AWops.guard_no rfl (nl rfl) rfl (by rw [c43] <;> rfl) ?_
          refine AWops.guard_yes rfl (nl rfl) rfl c36 ?_
          refine s_pick_yes (d := (sb true)) rfl (by rw [c43] <;> rfl) rfl ?_
          refine s_pick_yes (d := (sb true)) rfl c36 rfl (AWops.nil ?_)
          refine AW.cond_yes rfl rfl (AW.seq (AW.region ?_))
          refine s_assign (d := (sb false)) rfl (AWops.nil (AW.ret ?_))
          obtain rfl := Option.some.inj h
          exact ⟨_, rfl, (wg 0 [] [] rfl (le_upd (le_top _) (.t (.one .sc))) an)⟩
       ·iterate 6 refine AWops.guard_no rfl (nl rfl) rfl c36 ?_
        iterate 4 refine AWops.guard_undef rfl rfl ?_
        refine AWops.guard_no rfl (nl rfl) rfl c36 ?_
        refine s_pick_no (d := (sb false)) rfl c36 rfl (AWops.nil ?_)
        refine AW.cond_no rfl rfl (AW.skip (AW.region ?_))
        refine s_binI (v := (.int .i64 (IntKind.i64.wrap (x23 + 1)))) rfl rfl rfl ?_
        refine s_move (d := (si (IntKind.i64.wrap (x23 + 1)))) rfl (AWops.nil ?_)
        exact ⟨_, ⟨58, (upd 58 (upd 58 (upd 58 (upd 58 (upd 58 topF 5 (rf 0 0)) 7 (rf 1 0)) 34 (D.one (C.p false (.sl a1.length (a1.flatMap e_dossierplain_Step))))) 35 (si (a1.length : Int))) 36 (si (IntKind.i64.wrap (x23 + 1)))), [(some (AObj.cells true [(C.mp 2), (ci x15), (ci x16), (C.p true (.v (.pointer none))), (cb x17)])), (some (AObj.cells true [(C.own 3 0 x22.length 3), (ci x18), (ci x19), (cb x20)])), (om_ e_vdisk_file x21), (or_ e_dossierref03_File x22)]⟩, by omega, (wg 0 [0, 1, 2, 3] [] hx (le_upd (le_upd (le_upd (le_upd (le_upd (le_top _) (.t (.one (.ref rfl)))) (.t (.one (.ref rfl)))) (.t (.one .same))) (.t (.one .sc))) (.t (.one .sc))) (ac (.cells (fun _ => rfl) (ac (.mp rfl) (ac .sc (ac .sc (ac .sc (ac .sc an)))))) (ac (.cells (fun _ => rfl) (ac (.own rfl) (ac .sc (ac .sc (ac .sc an))))) (ac .map (ac (.cells id (all2_row _)) an))))), by omega, .inl ⟨x15, x16, x17, x18, x19, x20, x21, x22, IntKind.i64.wrap (x23 + 1), h, rfl⟩⟩
      ·refine AW.cond_no rfl c34 (AW.exit (AW.seq (AW.region ?_)))
       obtain ⟨r46, er46, h⟩ := bnd h
       refine s_call2 (ρ := []) (br := false) (H2 := [(some (AObj.cells true [(C.mp 2), (ci x15), (ci x16), (C.p true (.v (.pointer none))), (cb x17)])), (some (AObj.cells true [(C.own 3 0 x22.length 3), (ci x18), (ci x19), (cb x20)])), (om_ e_vdisk_file x21), (or_ e_dossierref03_File x22)]) (d := (sb r46)) F.ca_14 rfl rfl an an (by decide) rfl (dossierlaw03_awake.meets _  r46 er46) (.inl rfl) rfl rfl ?_
       refine s_assign (d := (sb r46)) rfl (AWops.nil (AW.ret ?_))
       obtain rfl := Option.some.inj h
       exact ⟨_, rfl, (wg 0 [] [] rfl (le_upd (le_top _) (.t (.one .sc))) an)⟩
    ·cases ql0 with
     | zero => exact absurd h (by simp [dossierlaw03_VdiskLives.l1])
     | succ ql0 =>
      replace h := (dossierlaw03_VdiskLives.l1.eq_2 _ _ _ _ _ _ _ _ _ _ _ _).symm.trans h
      refine AW.seq (AW.region ?_)
      refine s_binI (v := (.bool (decide (x33 < (a1.length : Int))))) rfl rfl rfl (AWops.nil (AW.seq ?_))
      rcases itH h with ⟨c47, h⟩ | ⟨c47, h⟩
      ·refine AW.cond_yes rfl c47 (AW.skip (AW.seq (AW.block (AW.seq (AW.region ?_)))))
       refine s_move (d := (si x33)) rfl ?_
       obtain ⟨v48, ev48, h⟩ := bnd h
       obtain ⟨pv48, qv48, gv48⟩ := rd_some ev48
       refine s_indexImm (ps := (p_dossierplain_Step v48)) F.u_37 F.sz_43 rfl rfl pv48 qv48 (flat_at e_dossierplain_Step_len gv48 (e_dossierplain_Step_eq v48)) ?_
       refine s_loadN (ds := (c_dossierplain_Step v48)) F.ag_43 F.sz_43 rfl rfl rfl ?_
       refine s_alloc (cs := [(ci 0), (ci 0), (ct (⟨#[]⟩ : ByteArray)), (ct (⟨#[]⟩ : ByteArray)), (C.p true (.v (.slice none 0 0))), (C.p true (.v (.slice none 0 0)))]) F.z_43 rfl rfl ?_
       refine s_assign (d := (si x33)) rfl ?_
       refine s_store (cs' := (c_dossierplain_Step v48)) rfl rfl rfl (List.cons_ne_nil _ _) rfl F.sz_43 (nl rfl) rfl (AWops.nil (AW.seq (AW.region ?_)))
       refine s_move (d := (si x33)) rfl ?_
       refine s_binI (v := (.bool (decide (x33 < 40)))) rfl rfl rfl ?_
       refine s_move (d := (sb (decide (x33 < 40)))) rfl ?_
       rcases itH h with ⟨c49, h⟩ | ⟨c49, h⟩
       ·refine AWops.guard_yes rfl (nl rfl) rfl c49 ?_
        refine s_loadN (ds := (c_dossierplain_Step v48)) F.ag_43 F.sz_43 rfl rfl rfl ?_
        refine AWops.guard_yes rfl (nl rfl) rfl c49 ?_
        refine s_move (d := (rf 0 0)) rfl ?_
        refine AWops.guard_yes rfl (nl rfl) rfl c49 ?_
        refine s_move (d := (rf 1 0)) rfl ?_
        refine AWops.guard_yes rfl (nl rfl) rfl c49 ?_
        obtain ⟨r50, er50, h⟩ := bnd h
        rcases optH h with ⟨c51, h⟩ | ⟨y52, c51, h⟩
        ·refine s_call2 (ρ := [0, 1, 2, 3, 4]) (br := false) (H2 := [(o_vdisk_Disk_03 true (C.mp 2) (C.p true (.v (.pointer none))) r50.2.1), (o_dossierref03_Disk_0 true (C.own 6 0 r50.2.2.1.L.length 3) r50.2.2.1), (om_ e_vdisk_file r50.2.1.files), none, none, (some (AObj.cells true (c_dossierplain_Step v48))), (or_ e_dossierref03_File r50.2.2.1.L)]) (d := (sb r50.1)) F.ca_16 rfl rfl (ac (LendT.aggL (ac .sc (ac .sc (ac .sc (ac .sc (ac .imm (ac .imm an))))))) (ac (.one (.ref rfl)) (ac (.one (.ref rfl)) an))) (ac (.cells (ac (.mp rfl) (ac .sc (ac .sc (ac (.ref rfl) (ac .sc an)))))) (ac (.cells (ac (.own rfl) (ac .sc (ac .sc (ac .sc an))))) (ac .map (ac (.cells (ac .sc an)) (ac (.cells (lend_row _)) an))))) (by decide) rfl (Meets.eqs (optE_none c51) (optE_none c51) (dossierplain_Step_Do_16xx.meets _ v48 (⟨x30, x24, x25, (), x26⟩ : vdisk_Disk) x31 (⟨x32, x27, x28, x29⟩ : dossierref03_Disk) r50 er50)) (.inl rfl) (by first | rfl | (simp only [mS]; done) | (simp only [mS]; rfl)) rfl ?_
         refine AWops.guard_yes rfl (nl rfl) rfl c49 ?_
         refine s_not rfl ?_
         refine AWops.guard_yes rfl (nl rfl) rfl c49 ?_
         refine s_move (d := (sb (!r50.1))) rfl ?_
         rcases itH h with ⟨c53, h⟩ | ⟨c53, h⟩
         ·refine AWops.guard_yes rfl (nl rfl) rfl (by rw [c53] <;> rfl) ?_
          refine s_move (d := (rf 0 0)) rfl ?_
          refine AWops.guard_yes rfl (nl rfl) rfl (by rw [c53] <;> rfl) ?_
          refine s_move (d := (rf 1 0)) rfl ?_
          refine AWops.guard_yes rfl (nl rfl) rfl (by rw [c53] <;> rfl) ?_
          obtain ⟨r54, er54, h⟩ := bnd h
          refine s_call2 (ρ := [0, 1, 2, 6]) (br := false) (H2 := [(o_vdisk_Disk_03 true (C.mp 2) (C.p true (.v (.pointer none))) r50.2.1), (o_dossierref03_Disk_0 true (C.own 6 0 r50.2.2.1.L.length 3) r50.2.2.1), (om_ e_vdisk_file r50.2.1.files), none, none, (some (AObj.cells true (c_dossierplain_Step v48))), (or_ e_dossierref03_File r50.2.2.1.L)]) (d := (sb r54)) F.ca_26 rfl rfl (ac (.one (.ref rfl)) (ac (.one (.ref rfl)) an)) (ac (.cells (ac (.mp rfl) (ac .sc (ac .sc (ac .sc (ac .sc an)))))) (ac (.cells (ac (.own rfl) (ac .sc (ac .sc (ac .sc an))))) (ac .map (ac (.cells (lend_row _)) an)))) (by decide) rfl (dossierplain_Same.meets _ r50.2.1 r50.2.2.1 r54 er54) (.inl rfl) (by first | rfl | (simp only [mS]; done) | (simp only [mS]; rfl)) rfl ?_
          refine AWops.guard_yes rfl (nl rfl) rfl (by rw [c53] <;> rfl) ?_
          refine s_not rfl ?_
          refine AWops.guard_yes rfl (nl rfl) rfl c49 ?_
          refine s_pick_no (d := (sb (!r54))) rfl (by rw [c53] <;> rfl) rfl ?_
          refine s_pick_yes (d := (sb (!r54))) rfl c49 rfl (AWops.nil ?_)
          rcases itH h with ⟨c55, h⟩ | ⟨c55, h⟩
          ·refine AW.cond_no rfl (by rw [c55] <;> rfl) (AW.skip (AW.region ?_))
           refine s_binI (v := (.int .i64 (IntKind.i64.wrap (x33 + 1)))) rfl rfl rfl ?_
           refine s_move (d := (si (IntKind.i64.wrap (x33 + 1)))) rfl (AWops.nil ?_)
           exact ⟨_, ⟨58, (upd 58 (upd 58 (upd 58 (upd 58 (upd 58 topF 5 (rf 0 0)) 7 (rf 1 0)) 34 (D.one (C.p false (.sl a1.length (a1.flatMap e_dossierplain_Step))))) 35 (si (a1.length : Int))) 36 (si (IntKind.i64.wrap (x33 + 1)))), [(some (AObj.cells true [(C.mp 2), (ci r50.2.1.room), (ci r50.2.1.used), (C.p true (.v (.pointer none))), (cb r50.2.1.dead)])), (some (AObj.cells true [(C.own 3 0 r50.2.2.1.L.length 3), (ci r50.2.2.1.Most), (ci r50.2.2.1.Burns), (cb r50.2.2.1.Off)])), (om_ e_vdisk_file r50.2.1.files), (or_ e_dossierref03_File r50.2.2.1.L)]⟩, by omega, (wg 0 [0, 1, 2, 6] [] hx (le_upd (le_upd (le_upd (le_upd (le_upd (le_top _) (.t (.one (.ref rfl)))) (.t (.one (.ref rfl)))) (.t (.one .same))) (.t (.one .sc))) (.t (.one .sc))) (ac (.cells (fun _ => rfl) (ac (.mp rfl) (ac .sc (ac .sc (ac .sc (ac .sc an)))))) (ac (.cells (fun _ => rfl) (ac (.own rfl) (ac .sc (ac .sc (ac .sc an))))) (ac .map (ac (.cells id (all2_row _)) an))))), by omega, .inl ⟨r50.2.1.room, r50.2.1.used, r50.2.1.dead, r50.2.2.1.Most, r50.2.2.1.Burns, r50.2.2.1.Off, r50.2.1.files, r50.2.2.1.L, IntKind.i64.wrap (x33 + 1), h, rfl⟩⟩
          ·refine AW.cond_yes rfl (by rw [c55] <;> rfl) (AW.seq (AW.region ?_))
           refine s_assign (d := (sb false)) rfl (AWops.nil (AW.ret ?_))
           obtain rfl := Option.some.inj h
           exact ⟨_, rfl, (wg 0 [] [] rfl (le_upd (le_top _) (.t (.one .sc))) an)⟩
         ·iterate 4 refine AWops.guard_no rfl (nl rfl) rfl (by rw [c53] <;> rfl) ?_
          refine AWops.guard_yes rfl (nl rfl) rfl c49 ?_
          refine s_pick_yes (d := (sb true)) rfl (by rw [c53] <;> rfl) rfl ?_
          refine s_pick_yes (d := (sb true)) rfl c49 rfl (AWops.nil ?_)
          refine AW.cond_yes rfl rfl (AW.seq (AW.region ?_))
          refine s_assign (d := (sb false)) rfl (AWops.nil (AW.ret ?_))
          obtain rfl := Option.some.inj h
          exact ⟨_, rfl, (wg 0 [] [] rfl (le_upd (le_top _) (.t (.one .sc))) an)⟩
        ·refine s_call2 (ρ := [0, 1, 2, 3, 4]) (br := false) (H2 := [(o_vdisk_Disk_03 true (C.mp 2) (C.ref 6 0) r50.2.1), (o_dossierref03_Disk_0 true (C.own 7 0 r50.2.2.1.L.length 3) r50.2.2.1), (om_ e_vdisk_file r50.2.1.files), none, none, (some (AObj.cells true (c_dossierplain_Step v48))), (some (AObj.cells false [(ci y52)])), (or_ e_dossierref03_File r50.2.2.1.L)]) (d := (sb r50.1)) F.ca_16 rfl rfl (ac (LendT.aggL (ac .sc (ac .sc (ac .sc (ac .sc (ac .imm (ac .imm an))))))) (ac (.one (.ref rfl)) (ac (.one (.ref rfl)) an))) (ac (.cells (ac (.mp rfl) (ac .sc (ac .sc (ac (.ref rfl) (ac .sc an)))))) (ac (.cells (ac (.own rfl) (ac .sc (ac .sc (ac .sc an))))) (ac .map (ac (.cells (ac .sc an)) (ac (.cells (lend_row _)) an))))) (by decide) rfl (Meets.eqs (optE_some c51) (optE_some c51) (dossierplain_Step_Do_16xx.meets _ v48 (⟨x30, x24, x25, (), x26⟩ : vdisk_Disk) x31 (⟨x32, x27, x28, x29⟩ : dossierref03_Disk) r50 er50)) (.inl rfl) (by first | rfl | (simp only [mS]; done) | (simp only [mS]; rfl)) rfl ?_
         refine AWops.guard_yes rfl (nl rfl) rfl c49 ?_
         refine s_not rfl ?_
         refine AWops.guard_yes rfl (nl rfl) rfl c49 ?_
         refine s_move (d := (sb (!r50.1))) rfl ?_
         rcases itH h with ⟨c56, h⟩ | ⟨c56, h⟩
         ·refine AWops.guard_yes rfl (nl rfl) rfl (by rw [c56] <;> rfl) ?_
          refine s_move (d := (rf 0 0)) rfl ?_
          refine AWops.guard_yes rfl (nl rfl) rfl (by rw [c56] <;> rfl) ?_
          refine s_move (d := (rf 1 0)) rfl ?_
          refine AWops.guard_yes rfl (nl rfl) rfl (by rw [c56] <;> rfl) ?_
          obtain ⟨r57, er57, h⟩ := bnd h
          refine s_call2 (ρ := [0, 1, 2, 6, 7]) (br := false) (H2 := [(o_vdisk_Disk_03 true (C.mp 2) (C.ref 6 0) r50.2.1), (o_dossierref03_Disk_0 true (C.own 7 0 r50.2.2.1.L.length 3) r50.2.2.1), (om_ e_vdisk_file r50.2.1.files), none, none, (some (AObj.cells true (c_dossierplain_Step v48))), (some (AObj.cells false [(ci y52)])), (or_ e_dossierref03_File r50.2.2.1.L)]) (d := (sb r57)) F.ca_26 rfl rfl (ac (.one (.ref rfl)) (ac (.one (.ref rfl)) an)) (ac (.cells (ac (.mp rfl) (ac .sc (ac .sc (ac (.ref rfl) (ac .sc an)))))) (ac (.cells (ac (.own rfl) (ac .sc (ac .sc (ac .sc an))))) (ac .map (ac (.cells (ac .sc an)) (ac (.cells (lend_row _)) an))))) (by decide) rfl (dossierplain_Same_26.meets _ r50.2.1 r50.2.2.1 y52 r57 er57) (.inl rfl) (by first | rfl | (simp only [mS]; done) | (simp only [mS]; rfl)) rfl ?_
          refine AWops.guard_yes rfl (nl rfl) rfl (by rw [c56] <;> rfl) ?_
          refine s_not rfl ?_
          refine AWops.guard_yes rfl (nl rfl) rfl c49 ?_
          refine s_pick_no (d := (sb (!r57))) rfl (by rw [c56] <;> rfl) rfl ?_
          refine s_pick_yes (d := (sb (!r57))) rfl c49 rfl (AWops.nil ?_)
          rcases itH h with ⟨c58, h⟩ | ⟨c58, h⟩
          ·refine AW.cond_no rfl (by rw [c58] <;> rfl) (AW.skip (AW.region ?_))
           refine s_binI (v := (.int .i64 (IntKind.i64.wrap (x33 + 1)))) rfl rfl rfl ?_
           refine s_move (d := (si (IntKind.i64.wrap (x33 + 1)))) rfl (AWops.nil ?_)
           exact ⟨_, ⟨58, (upd 58 (upd 58 (upd 58 (upd 58 (upd 58 topF 5 (rf 0 0)) 7 (rf 1 0)) 34 (D.one (C.p false (.sl a1.length (a1.flatMap e_dossierplain_Step))))) 35 (si (a1.length : Int))) 36 (si (IntKind.i64.wrap (x33 + 1)))), [(some (AObj.cells true [(C.mp 2), (ci r50.2.1.room), (ci r50.2.1.used), (C.ref 3 0), (cb r50.2.1.dead)])), (some (AObj.cells true [(C.own 4 0 r50.2.2.1.L.length 3), (ci r50.2.2.1.Most), (ci r50.2.2.1.Burns), (cb r50.2.2.1.Off)])), (om_ e_vdisk_file r50.2.1.files), (some (AObj.cells false [(ci y52)])), (or_ e_dossierref03_File r50.2.2.1.L)]⟩, by omega, (wg 0 [0, 1, 2, 6, 7] [] hx (le_upd (le_upd (le_upd (le_upd (le_upd (le_top _) (.t (.one (.ref rfl)))) (.t (.one (.ref rfl)))) (.t (.one .same))) (.t (.one .sc))) (.t (.one .sc))) (ac (.cells (fun _ => rfl) (ac (.mp rfl) (ac .sc (ac .sc (ac (.ref rfl) (ac .sc an)))))) (ac (.cells (fun _ => rfl) (ac (.own rfl) (ac .sc (ac .sc (ac .sc an))))) (ac .map (ac (.cells id (ac .sc an)) (ac (.cells id (all2_row _)) an)))))), by omega, .inr (⟨r50.2.1.room, r50.2.1.used, r50.2.1.dead, r50.2.2.1.Most, r50.2.2.1.Burns, r50.2.2.1.Off, r50.2.1.files, y52, r50.2.2.1.L, IntKind.i64.wrap (x33 + 1), h, rfl⟩)⟩
          ·refine AW.cond_yes rfl (by rw [c58] <;> rfl) (AW.seq (AW.region ?_))
           refine s_assign (d := (sb false)) rfl (AWops.nil (AW.ret ?_))
           obtain rfl := Option.some.inj h
           exact ⟨_, rfl, (wg 0 [] [] rfl (le_upd (le_top _) (.t (.one .sc))) an)⟩
         ·iterate 4 refine AWops.guard_no rfl (nl rfl) rfl (by rw [c56] <;> rfl) ?_
          refine AWops.guard_yes rfl (nl rfl) rfl c49 ?_
          refine s_pick_yes (d := (sb true)) rfl (by rw [c56] <;> rfl) rfl ?_
          refine s_pick_yes (d := (sb true)) rfl c49 rfl (AWops.nil ?_)
          refine AW.cond_yes rfl rfl (AW.seq (AW.region ?_))
          refine s_assign (d := (sb false)) rfl (AWops.nil (AW.ret ?_))
          obtain rfl := Option.some.inj h
          exact ⟨_, rfl, (wg 0 [] [] rfl (le_upd (le_top _) (.t (.one .sc))) an)⟩
       ·iterate 6 refine AWops.guard_no rfl (nl rfl) rfl c49 ?_
        iterate 4 refine AWops.guard_undef rfl rfl ?_
        refine AWops.guard_no rfl (nl rfl) rfl c49 ?_
        refine s_pick_no (d := (sb false)) rfl c49 rfl (AWops.nil ?_)
        refine AW.cond_no rfl rfl (AW.skip (AW.region ?_))
        refine s_binI (v := (.int .i64 (IntKind.i64.wrap (x33 + 1)))) rfl rfl rfl ?_
        refine s_move (d := (si (IntKind.i64.wrap (x33 + 1)))) rfl (AWops.nil ?_)
        exact ⟨_, ⟨58, (upd 58 (upd 58 (upd 58 (upd 58 (upd 58 topF 5 (rf 0 0)) 7 (rf 1 0)) 34 (D.one (C.p false (.sl a1.length (a1.flatMap e_dossierplain_Step))))) 35 (si (a1.length : Int))) 36 (si (IntKind.i64.wrap (x33 + 1)))), [(some (AObj.cells true [(C.mp 2), (ci x24), (ci x25), (C.ref 3 0), (cb x26)])), (some (AObj.cells true [(C.own 4 0 x32.length 3), (ci x27), (ci x28), (cb x29)])), (om_ e_vdisk_file x30), (some (AObj.cells false [(ci x31)])), (or_ e_dossierref03_File x32)]⟩, by omega, (wg 0 [0, 1, 2, 3, 4] [] hx (le_upd (le_upd (le_upd (le_upd (le_upd (le_top _) (.t (.one (.ref rfl)))) (.t (.one (.ref rfl)))) (.t (.one .same))) (.t (.one .sc))) (.t (.one .sc))) (ac (.cells (fun _ => rfl) (ac (.mp rfl) (ac .sc (ac .sc (ac (.ref rfl) (ac .sc an)))))) (ac (.cells (fun _ => rfl) (ac (.own rfl) (ac .sc (ac .sc (ac .sc an))))) (ac .map (ac (.cells id (ac .sc an)) (ac (.cells id (all2_row _)) an)))))), by omega, .inr (⟨x24, x25, x26, x27, x28, x29, x30, x31, x32, IntKind.i64.wrap (x33 + 1), h, rfl⟩)⟩
      ·refine AW.cond_no rfl c47 (AW.exit (AW.seq (AW.region ?_)))
       obtain ⟨r59, er59, h⟩ := bnd h
       refine s_call2 (ρ := []) (br := false) (H2 := [(some (AObj.cells true [(C.mp 2), (ci x24), (ci x25), (C.ref 3 0), (cb x26)])), (some (AObj.cells true [(C.own 4 0 x32.length 3), (ci x27), (ci x28), (cb x29)])), (om_ e_vdisk_file x30), (some (AObj.cells false [(ci x31)])), (or_ e_dossierref03_File x32)]) (d := (sb r59)) F.ca_14 rfl rfl an an (by decide) rfl (dossierlaw03_awake.meets _  r59 er59) (.inl rfl) rfl rfl ?_
       refine s_assign (d := (sb r59)) rfl (AWops.nil (AW.ret ?_))
       obtain rfl := Option.some.inj h
       exact ⟨_, rfl, (wg 0 [] [] rfl (le_upd (le_top _) (.t (.one .sc))) an)⟩
end Go.Abs.GenLv
