import Derived.Test.YtgeieafnnlmfdaaGenOb
set_option linter.unusedVariables false
set_option linter.unusedSimpArgs false
set_option maxRecDepth 100000
set_option maxHeartbeats 4000000
namespace Go.Abs.GenO
open Go.Abs Go.Proofs
def vdisk_Disk_Rename.f (k : Nat) (p0 : vdisk_Disk) (a1 : ByteArray) (a2 : ByteArray) : Option (Int × vdisk_Disk) := (vdisk_named.f k a2).bind fun r1 => (vdisk_Disk_change.f k p0 r1 a1 false 0).bind fun r2 => if (r2 == 0) = true then (if (a1.toList == a2.toList) = true then (some (r2, p0)) else ((vdisk_Disk_cut.f k p0 a1).bind fun r5 => (vdisk_Disk_set.f k r5 a2 (lk_vdisk_file a1 p0.files)).bind fun r6 => some (r2, r6))) else (some (r2, p0))
theorem vdisk_Disk_Rename.meets (k : Nat) (p0 : vdisk_Disk) (a1 : ByteArray) (a2 : ByteArray) (r : Int × vdisk_Disk) (h : vdisk_Disk_Rename.f k p0 a1 a2 = some r) : Meets Try.prog 42 [(rf 0 0), (st_ a1), (st_ a2)] [(o_vdisk_Disk_03 false (C.mp 1) np p0), (om_ e_vdisk_file p0.files)] (si r.1) [(o_vdisk_Disk_03 false (C.mp 1) np r.2), (om_ e_vdisk_file r.2.files)] := by
 unfold vdisk_Disk_Rename.f at h
 refine Meets.of_body (n := 35) Try.func42 rfl rfl (nl rfl) fun x hx => ?_
 replace hx : x.k = 2 := hx
 show AW _ x _ _ ⟨35, fr0 [(rf 0 0), (st_ a1), (st_ a2)], [(o_vdisk_Disk_03 false (C.mp 1) np p0), (om_ e_vdisk_file p0.files)]⟩
 refine AW.seq (AW.region ?_)
 refine s_assign (d := (si 0)) rfl (AWops.nil (AW.seq (AW.region ?_)))
 refine s_move (d := (rf 0 0)) rfl (s_move (d := (st_ a2)) rfl ?_)
 obtain ⟨r1, er1, h⟩ := bnd h
 refine cc [] [(o_vdisk_Disk_03 false (C.mp 1) np p0), (om_ e_vdisk_file p0.files)] (sb r1) F.ca_56 rfl rfl (ac (.one .sc) an) an (vdisk_named.meets _ a2 r1 er1) (s_move (d := (st_ a1)) rfl ?_)
 obtain ⟨r2, er2, h⟩ := bnd h
 refine cc [0, 1] [(o_vdisk_Disk_03 false (C.mp 1) np p0), (om_ e_vdisk_file p0.files)] (si r2) F.ca_55 rfl rfl (ac (.one (.ref rfl)) (ac (.one .sc) (ac (.one .sc) (ac (.one .sc) (ac (.one .sc) an))))) (ac (.cells (ac (.mp rfl) (ac .sc (ac .sc (ac .sc (ac .sc an)))))) (ac .map an)) (vdisk_Disk_change.meets _ p0 r1 a1 false 0 r2 er2) (s_assign (d := (si r2)) rfl (AWops.nil (AW.seq (AW.seq (AW.region (s_move (d := (si r2)) rfl (s_binI (v := (.bool (r2 == 0))) rfl rfl rfl (s_move (d := (sb (r2 == 0))) rfl ?_))))))))
 rcases itH h with ⟨c3, h⟩ | ⟨c3, h⟩
 ·refine AWops.guard_yes rfl (nl rfl) rfl c3 ?_
  refine s_move (d := (st_ a1)) rfl ?_
  refine AWops.guard_yes rfl (nl rfl) rfl c3 ?_
  refine s_move (d := (st_ a2)) rfl ?_
  refine AWops.guard_yes rfl (nl rfl) rfl c3 ?_
  refine s_binS (v := (.bool (!(a1.toList == a2.toList)))) rfl rfl rfl (s_pick_yes (d := (sb (!(a1.toList == a2.toList)))) rfl c3 rfl (AWops.nil ?_))
  rcases itH h with ⟨c4, h⟩ | ⟨c4, h⟩
  ·refine AW.cond_no rfl (by rw [c4] <;> rfl) (AW.skip (AW.seq (AW.region ?_)))
   refine s_move (d := (si r2)) rfl (s_assign (d := (si r2)) rfl (AWops.nil (AW.ret ?_)))
   obtain rfl := Option.some.inj h
   exact ⟨_, rfl, (wg 2 [0, 1] [] rfl (le_upd (le_top _) (o1 .sc)) (ac (qs rfl) (ac .map an)))⟩
  ·refine AW.cond_yes rfl (by rw [c4] <;> rfl) (AW.seq (AW.region ?_))
   refine s_move (d := (rf 0 0)) rfl (s_nilCheck (d := (rf 0 0)) rfl (.inl ⟨_, _, rfl⟩) (s_fieldRef F.fo_37_0 (by decide) rfl (s_load1 (c' := (C.mp 1)) F.ag_34 rfl rfl (s_move (d := (st_ a1)) rfl (t_lookup (b := true) F.u_34 F.u_9 F.z_79 (z := ((⟨([] : List Int), 0⟩ : vdisk_file) : vdisk_file)) (zs := [(.slice none 0 0), (.int .i64 0)]) rfl (fun h => by cases h) (ac ZRel.n (ac (ZRel.v _ rfl) an)) rfl rfl rfl rfl ?_)))))
   refine s_alloc (cs := [(C.p true (.v (.slice none 0 0))), (ci 0)]) F.z_79 rfl rfl (s_store (cs' := (c_vdisk_file (lk_vdisk_file a1 p0.files))) rfl rfl rfl (List.cons_ne_nil _ _) rfl F.sz_79 (nl rfl) rfl (AWops.nil (AW.seq (AW.region (s_move (d := (rf 0 0)) rfl (s_move (d := (st_ a1)) rfl ?_))))))
   obtain ⟨r5, er5, h⟩ := bnd h
   refine cc [0, 1] [(o_vdisk_Disk_03 false (C.mp 1) np r5), (om_ e_vdisk_file r5.files), (some (AObj.cells true (c_vdisk_file (lk_vdisk_file a1 p0.files))))] (D.tup []) F.ca_59 rfl rfl (ac (.one (.ref rfl)) (ac (.one .sc) an)) (ac (.cells (ac (.mp rfl) (ac .sc (ac .sc (ac .sc (ac .sc an)))))) (ac .map an)) (vdisk_Disk_cut.meets _ p0 a1 r5 er5) (AWops.nil (AW.region ?_))
   refine s_move (d := (rf 0 0)) rfl (s_move (d := (st_ a2)) rfl (s_loadN (ds := (c_vdisk_file (lk_vdisk_file a1 p0.files))) F.ag_79 F.sz_79 rfl rfl rfl ?_))
   obtain ⟨r6, er6, h⟩ := bnd h
   refine cc [0, 1] [(o_vdisk_Disk_03 false (C.mp 1) np r6), (om_ e_vdisk_file r6.files), (some (AObj.cells true (c_vdisk_file (lk_vdisk_file a1 p0.files))))] (D.tup []) F.ca_36 rfl rfl (ac (.one (.ref rfl)) (ac (.one .sc) (ac (LendT.aggL (ac .imm (ac .sc an))) an))) (ac (.cells (ac (.mp rfl) (ac .sc (ac .sc (ac .sc (ac .sc an)))))) (ac .map an)) (vdisk_Disk_set.meets _ r5 a2 (lk_vdisk_file a1 p0.files) r6 er6) (AWops.nil (AW.seq (AW.region ?_)))
   refine s_move (d := (si r2)) rfl (s_assign (d := (si r2)) rfl (AWops.nil (AW.ret ?_)))
   obtain rfl := Option.some.inj h
   exact ⟨_, rfl, (wg 2 [0, 1] [] rfl (le_upd (le_top _) (o1 .sc)) (ac (qs rfl) (ac .map an)))⟩
 ·iterate 3 refine AWops.guard_no rfl (nl rfl) rfl c3 ?_
  refine s_pick_no (d := (sb false)) rfl c3 rfl (AWops.nil ?_)
  refine AW.cond_no rfl rfl (AW.skip (AW.seq (AW.region ?_)))
  refine s_move (d := (si r2)) rfl (s_assign (d := (si r2)) rfl (AWops.nil (AW.ret ?_)))
  obtain rfl := Option.some.inj h
  exact ⟨_, rfl, (wg 2 [0, 1] [] rfl (le_upd (le_top _) (o1 .sc)) (ac (qs rfl) (ac .map an)))⟩
def journal_replace.f (k : Nat) (p0 : vdisk_Disk) (a1 : List Int) : Option (Int × vdisk_Disk) := (journal_frame.f k a1).bind fun r1 => (vdisk_Disk_Append.f k p0 (⟨#[106, 111, 117, 114, 110, 97, 108, 46, 110, 101, 119]⟩ : ByteArray) r1).bind fun r2 => if (r2.1 == 0) = true then ((vdisk_Disk_Sync.f k r2.2 (⟨#[106, 111, 117, 114, 110, 97, 108, 46, 110, 101, 119]⟩ : ByteArray)).bind fun r4 => if (r4.1 == 0) = true then ((vdisk_Disk_Rename.f k r4.2 (⟨#[106, 111, 117, 114, 110, 97, 108, 46, 110, 101, 119]⟩ : ByteArray) (⟨#[106, 111, 117, 114, 110, 97, 108]⟩ : ByteArray)).bind fun r6 => some (r6.1, r6.2)) else (some (r4.1, r4.2))) else (some (r2.1, r2.2))
theorem journal_replace.meets (k : Nat) (p0 : vdisk_Disk) (a1 : List Int) (r : Int × vdisk_Disk) (h : journal_replace.f k p0 a1 = some r) : Meets Try.prog 29 [(rf 0 0), (ds_ e_u8 a1)] [(o_vdisk_Disk_03 false (C.mp 1) np p0), (om_ e_vdisk_file p0.files)] (si r.1) [(o_vdisk_Disk_03 false (C.mp 1) np r.2), (om_ e_vdisk_file r.2.files)] := by
 unfold journal_replace.f at h
 refine Meets.of_body (n := 19) Try.func29 rfl rfl (nl rfl) fun x hx => ?_
 replace hx : x.k = 2 := hx
 show AW _ x _ _ ⟨19, fr0 [(rf 0 0), (ds_ e_u8 a1)], [(o_vdisk_Disk_03 false (C.mp 1) np p0), (om_ e_vdisk_file p0.files)]⟩
 refine AW.seq (AW.region ?_)
 refine s_assign (d := (si 0)) rfl (AWops.nil (AW.seq (AW.region ?_)))
 refine s_move (d := (rf 0 0)) rfl (s_move (d := (ds_ e_u8 a1)) rfl ?_)
 obtain ⟨r1, er1, h⟩ := bnd h
 refine cc [] [(o_vdisk_Disk_03 false (C.mp 1) np p0), (om_ e_vdisk_file p0.files), (ow_ e_u8 r1)] (D.one (C.own 2 0 r1.length 1)) F.ca_26 rfl rfl (ac (.one .imm) an) an (journal_frame.meets _ a1 r1 er1) ?_
 obtain ⟨r2, er2, h⟩ := bnd h
 refine cc [0, 2, 1] [(o_vdisk_Disk_03 false (C.mp 1) np r2.2), (om_ e_vdisk_file r2.2.files), (ow_ e_u8 r1)] (si r2.1) F.ca_25 rfl rfl (ac (.one (.ref rfl)) (ac (.one .sc) (ac (.one (.own rfl)) an))) (ac (.cells (ac (.mp rfl) (ac .sc (ac .sc (ac .sc (ac .sc an)))))) (ac (.cells (lend_row _)) (ac .map an))) (vdisk_Disk_Append.meets _ p0 (⟨#[106, 111, 117, 114, 110, 97, 108, 46, 110, 101, 119]⟩ : ByteArray) r1 r2 er2) (s_assign (d := (si r2.1)) rfl (AWops.nil (AW.seq (AW.seq (AW.region (s_move (d := (si r2.1)) rfl (s_binI (v := (.bool (r2.1 == 0))) rfl rfl rfl (AWops.nil ?_))))))))
 rcases itH h with ⟨c3, h⟩ | ⟨c3, h⟩
 ·refine AW.cond_yes rfl c3 (AW.region ?_)
  refine s_move (d := (rf 0 0)) rfl ?_
  obtain ⟨r4, er4, h⟩ := bnd h
  refine cc [0, 1] [(o_vdisk_Disk_03 false (C.mp 1) np r4.2), (om_ e_vdisk_file r4.2.files), (ow_ e_u8 r1)] (si r4.1) F.ca_27 rfl rfl (ac (.one (.ref rfl)) (ac (.one .sc) an)) (ac (.cells (ac (.mp rfl) (ac .sc (ac .sc (ac .sc (ac .sc an)))))) (ac .map an)) (vdisk_Disk_Sync.meets _ r2.2 (⟨#[106, 111, 117, 114, 110, 97, 108, 46, 110, 101, 119]⟩ : ByteArray) r4 er4) (s_assign (d := (si r4.1)) rfl (AWops.nil (AW.seq (AW.seq (AW.region (s_move (d := (si r4.1)) rfl (s_binI (v := (.bool (r4.1 == 0))) rfl rfl rfl (AWops.nil ?_))))))))
  rcases itH h with ⟨c5, h⟩ | ⟨c5, h⟩
  ·refine AW.cond_yes rfl c5 (AW.region ?_)
   refine s_move (d := (rf 0 0)) rfl ?_
   obtain ⟨r6, er6, h⟩ := bnd h
   refine cc [0, 1] [(o_vdisk_Disk_03 false (C.mp 1) np r6.2), (om_ e_vdisk_file r6.2.files), (ow_ e_u8 r1)] (si r6.1) F.ca_42 rfl rfl (ac (.one (.ref rfl)) (ac (.one .sc) (ac (.one .sc) an))) (ac (.cells (ac (.mp rfl) (ac .sc (ac .sc (ac .sc (ac .sc an)))))) (ac .map an)) (vdisk_Disk_Rename.meets _ r4.2 (⟨#[106, 111, 117, 114, 110, 97, 108, 46, 110, 101, 119]⟩ : ByteArray) (⟨#[106, 111, 117, 114, 110, 97, 108]⟩ : ByteArray) r6 er6) (s_assign (d := (si r6.1)) rfl (AWops.nil (AW.seq (AW.region (s_move (d := (si r6.1)) rfl (s_assign (d := (si r6.1)) rfl (AWops.nil (AW.ret ?_))))))))
   obtain rfl := Option.some.inj h
   exact ⟨_, rfl, (wg 2 [0, 1] [] rfl (le_upd (le_top _) (o1 .sc)) (ac (qs rfl) (ac .map an)))⟩
  ·refine AW.cond_no rfl c5 (AW.skip (AW.seq (AW.region ?_)))
   refine s_move (d := (si r4.1)) rfl (s_assign (d := (si r4.1)) rfl (AWops.nil (AW.ret ?_)))
   obtain rfl := Option.some.inj h
   exact ⟨_, rfl, (wg 2 [0, 1] [] rfl (le_upd (le_top _) (o1 .sc)) (ac (qs rfl) (ac .map an)))⟩
 ·refine AW.cond_no rfl c3 (AW.skip (AW.seq (AW.seq (AW.region ?_))))
  refine s_move (d := (si r2.1)) rfl (s_binI (v := (.bool (r2.1 == 0))) rfl rfl rfl (AWops.nil ?_))
  refine AW.cond_no rfl c3 (AW.skip (AW.seq (AW.region ?_)))
  refine s_move (d := (si r2.1)) rfl (s_assign (d := (si r2.1)) rfl (AWops.nil (AW.ret ?_)))
  obtain rfl := Option.some.inj h
  exact ⟨_, rfl, (wg 2 [0, 1] [] rfl (le_upd (le_top _) (o1 .sc)) (ac (qs rfl) (ac .map an)))⟩
mutual
def journal_Open.j0 : Nat → Bool → (List Int) → (Int × vdisk_Disk) → Option ((Option journal_Journal) × Int × vdisk_Disk)
 | 0, _, _, _ => none
 | k + 1, x3, a1, r1 => if x3 = true then ((vdisk_Disk_Read.f k r1.2 (⟨#[106, 111, 117, 114, 110, 97, 108]⟩ : ByteArray)).bind fun r5 => if (r5.2 == 0) = true then ((journal_Journal_scan.f k (⟨(), ([] : List Int), ([] : List (List Int)), false⟩ : journal_Journal) r5.1 r1.2).bind fun r7 => optE r7.1 (some ((none : Option journal_Journal), r7.2.1, r7.2.2.2)) (fun y9 => some (some (⟨(), r7.2.2.1.snap, r7.2.2.1.l, r7.2.2.1.stopped⟩ : journal_Journal), r7.2.1, r7.2.2.2))) else (if (r5.2 != 33) = true then (some ((none : Option journal_Journal), r5.2, r1.2)) else (if (decide ((a1.length : Int) > 4194304)) = true then (some ((none : Option journal_Journal), 1, r1.2)) else ((journal_replace.f k r1.2 a1).bind fun r12 => if (r12.1 != 0) = true then (some ((none : Option journal_Journal), r12.1, r12.2)) else ((slices_Clone_byte_byte.f k a1).bind fun r14 => some (some (⟨(), r14, ([] : List (List Int)), false⟩ : journal_Journal), 0, r12.2)))))) else (some ((none : Option journal_Journal), r1.1, r1.2))
end
def journal_Open.f (k : Nat) (p0 : vdisk_Disk) (a1 : List Int) : Option ((Option journal_Journal) × Int × vdisk_Disk) := (vdisk_Disk_Remove.f k p0 (⟨#[106, 111, 117, 114, 110, 97, 108, 46, 110, 101, 119]⟩ : ByteArray)).bind fun r1 => if (r1.1 == 0) = true then (journal_Open.j0 k (r1.1 == 0) a1 r1) else (journal_Open.j0 k (r1.1 == 33) a1 r1)
theorem journal_Open.meets (k : Nat) (p0 : vdisk_Disk) (a1 : List Int) (r : (Option journal_Journal) × Int × vdisk_Disk) (h : journal_Open.f k p0 a1 = some r) : Meets Try.prog 12 [(rf 0 0), (ds_ e_u8 a1)] [(o_vdisk_Disk_03 false (C.mp 1) np p0), (om_ e_vdisk_file p0.files)] (optE r.1 (D.tup [(sc (.pointer none)), (si r.2.1)]) (fun z1 : journal_Journal => (D.tup [(rf 2 0), (si r.2.1)]))) (optE r.1 [(o_vdisk_Disk_03 false (C.mp 1) np r.2.2), (om_ e_vdisk_file r.2.2.files)] (fun z1 : journal_Journal => [(o_vdisk_Disk_03 false (C.mp 1) np r.2.2), (om_ e_vdisk_file r.2.2.files), (o_journal_Journal_0 true (C.ref 0 0) z1)])) := by
 unfold journal_Open.f at h
 refine Meets.of_body (n := 54) Try.func12 rfl rfl (nl rfl) fun x hx => ?_
 replace hx : x.k = 2 := hx
 show AW _ x _ _ ⟨54, fr0 [(rf 0 0), (ds_ e_u8 a1)], [(o_vdisk_Disk_03 false (C.mp 1) np p0), (om_ e_vdisk_file p0.files)]⟩
 refine AW.seq (AW.region ?_)
 refine s_assign (d := (sc (.pointer none))) rfl (s_assign (d := (si 0)) rfl (AWops.nil (AW.seq (AW.seq (AW.region (s_move (d := (rf 0 0)) rfl ?_))))))
 obtain ⟨r1, er1, h⟩ := bnd h
 refine cc [0, 1] [(o_vdisk_Disk_03 false (C.mp 1) np r1.2), (om_ e_vdisk_file r1.2.files)] (si r1.1) F.ca_31 rfl rfl (ac (.one (.ref rfl)) (ac (.one .sc) an)) (ac (.cells (ac (.mp rfl) (ac .sc (ac .sc (ac .sc (ac .sc an)))))) (ac .map an)) (vdisk_Disk_Remove.meets _ p0 (⟨#[106, 111, 117, 114, 110, 97, 108, 46, 110, 101, 119]⟩ : ByteArray) r1 er1) (s_assign (d := (si r1.1)) rfl (AWops.nil (AW.seq (AW.region (s_move (d := (si r1.1)) rfl (AWops.nil (AW.block ?_)))))))
 refine AW.seqJ (fun st => ∃ (x3 : Bool), journal_Open.j0 k x3 a1 r1 = some r ∧ st = ⟨54, (upd 54 (upd 54 (upd 54 (upd 54 topF 0 (rf 0 0)) 1 (ds_ e_u8 a1)) 6 (si r1.1)) 15 (sb x3)), [(o_vdisk_Disk_03 false (C.mp 1) np r1.2), (om_ e_vdisk_file r1.2.files)]⟩) ?_ ?_
 ·refine AW.seq (AW.region ?_)
  refine s_binI (v := (.bool (r1.1 == 0))) rfl rfl rfl (s_assign (d := (sb (r1.1 == 0))) rfl (AWops.nil ?_))
  rcases itH h with ⟨c2, h⟩ | ⟨c2, h⟩
  ·refine AW.cond_yes rfl c2 (AW.skip ?_)
   exact ⟨⟨54, (upd 54 (upd 54 (upd 54 (upd 54 topF 0 (rf 0 0)) 1 (ds_ e_u8 a1)) 6 (si r1.1)) 15 (sb (r1.1 == 0))), [(o_vdisk_Disk_03 false (C.mp 1) np r1.2), (om_ e_vdisk_file r1.2.files)]⟩, (wg 2 [0, 1] [] hx (le_upd (le_upd (le_upd (le_upd (le_top _) (o1 (.ref rfl))) (o1 .same)) (o1 .sc)) (o1 .sc)) (ac (qs rfl) (ac .map an))), (r1.1 == 0), h, rfl⟩
  ·refine AW.cond_no rfl c2 (AW.region ?_)
   refine s_binI (v := (.bool (r1.1 == 33))) rfl rfl rfl (s_assign (d := (sb (r1.1 == 33))) rfl (AWops.nil ?_))
   exact ⟨⟨54, (upd 54 (upd 54 (upd 54 (upd 54 topF 0 (rf 0 0)) 1 (ds_ e_u8 a1)) 6 (si r1.1)) 15 (sb (r1.1 == 33))), [(o_vdisk_Disk_03 false (C.mp 1) np r1.2), (om_ e_vdisk_file r1.2.files)]⟩, (wg 2 [0, 1] [] hx (le_upd (le_upd (le_upd (le_upd (le_top _) (o1 (.ref rfl))) (o1 .same)) (o1 .sc)) (o1 .sc)) (ac (qs rfl) (ac .map an))), (r1.1 == 33), h, rfl⟩
 ·rintro st ⟨x3, h, rfl⟩
  cases k with
  | zero => exact absurd h (by simp [journal_Open.j0])
  | succ qj0 =>
   replace h := (journal_Open.j0.eq_2 _ _ _ _).symm.trans h
   rcases itH h with ⟨c4, h⟩ | ⟨c4, h⟩
   ·refine AW.cond_yes rfl c4 (AW.skip (AW.seq (AW.region ?_)))
    refine s_move (d := (rf 0 0)) rfl (s_build (ps := [(0, (rf 0 0))]) (cs := [(C.ref 0 0), (C.p true (.v (.slice none 0 0))), (C.p true (.v (.slice none 0 0))), (cb false)]) F.z_27 rfl F.so_27 rfl rfl (s_box (cs := [(C.ref 0 0), (C.p true (.v (.slice none 0 0))), (C.p true (.v (.slice none 0 0))), (cb false)]) rfl (List.cons_ne_nil _ _) rfl (s_assign (d := (rf 2 0)) rfl (AWops.nil (AW.seq (AW.region (s_move (d := (rf 0 0)) rfl ?_)))))))
    obtain ⟨r5, er5, h⟩ := bnd h
    refine cc [0, 1] [(o_vdisk_Disk_03 false (C.mp 1) np r1.2), (om_ e_vdisk_file r1.2.files), (some (AObj.cells true [(C.ref 0 0), (C.p true (.v (.slice none 0 0))), (C.p true (.v (.slice none 0 0))), (cb false)]))] (D.tup [(ds_ e_u8 r5.1), (si r5.2)]) F.ca_32 rfl rfl (ac (.one (.ref rfl)) (ac (.one .sc) an)) (ac (.cells (ac (.mp rfl) (ac .sc (ac .sc (ac .sc (ac .sc an)))))) (ac .map an)) (vdisk_Disk_Read.meets _ r1.2 (⟨#[106, 111, 117, 114, 110, 97, 108]⟩ : ByteArray) r5 er5) (s_move (d := (D.tup [(ds_ e_u8 r5.1), (si r5.2)])) rfl (s_extract (d := (ds_ e_u8 r5.1)) rfl rfl (s_extract (d := (si r5.2)) rfl rfl (s_assign (d := (ds_ e_u8 r5.1)) rfl (s_assign (d := (si r5.2)) rfl (AWops.nil (AW.seq (AW.block (AW.seq (AW.region ?_))))))))))
    refine s_move (d := (si r5.2)) rfl (s_binI (v := (.bool (r5.2 == 0))) rfl rfl rfl (s_assign (d := (sb (r5.2 == 0))) rfl (AWops.nil ?_)))
    rcases itH h with ⟨c6, h⟩ | ⟨c6, h⟩
    ·refine AW.cond_yes rfl c6 (AW.seq (AW.region ?_))
     refine s_move (d := (rf 2 0)) rfl (s_move (d := (ds_ e_u8 r5.1)) rfl ?_)
     obtain ⟨r7, er7, h⟩ := bnd h
     rcases optH h with ⟨c8, h⟩ | ⟨y9, c8, h⟩
     ·refine cc [2, 0, 1] [(o_vdisk_Disk_03 false (C.mp 1) np r7.2.2.2), (om_ e_vdisk_file r7.2.2.2.files), (o_journal_Journal_0 true (C.ref 0 0) r7.2.2.1)] (D.tup [(sc (.pointer none)), (si r7.2.1)]) F.ca_33 rfl rfl (ac (.one (.ref rfl)) (ac (.one .imm) an)) (ac (.cells (ac (.ref rfl) (ac .nil (ac .nil (ac .sc an))))) (ac (.cells (ac (.mp rfl) (ac .sc (ac .sc (ac .sc (ac .sc an)))))) (ac .map an))) (Meets.eqs (optE_none c8) (optE_none c8) (journal_Journal_scan.meets _ (⟨(), ([] : List Int), ([] : List (List Int)), false⟩ : journal_Journal) r5.1 r1.2 r7 er7)) (s_extract (d := (sc (.pointer none))) rfl rfl (s_extract (d := (si r7.2.1)) rfl rfl (s_assign (d := (sc (.pointer none))) rfl (s_assign (d := (si r7.2.1)) rfl (AWops.nil (AW.ret ?_))))))
      obtain rfl := Option.some.inj h
      exact ⟨_, rfl, (wg 2 [0, 1] [] rfl (le_upd (le_top _) (DLe.tup (ac (TLe.one .sc) (ac (TLe.one .sc) an)))) (ac (qs rfl) (ac .map an)))⟩
     ·refine cc [2, 0, 1] [(o_vdisk_Disk_03 false (C.mp 1) np r7.2.2.2), (om_ e_vdisk_file r7.2.2.2.files), (o_journal_Journal_0 true (C.ref 0 0) r7.2.2.1)] (D.tup [(rf 2 0), (si r7.2.1)]) F.ca_33 rfl rfl (ac (.one (.ref rfl)) (ac (.one .imm) an)) (ac (.cells (ac (.ref rfl) (ac .nil (ac .nil (ac .sc an))))) (ac (.cells (ac (.mp rfl) (ac .sc (ac .sc (ac .sc (ac .sc an)))))) (ac .map an))) (Meets.eqs (optE_some c8) (optE_some c8) (journal_Journal_scan.meets _ (⟨(), ([] : List Int), ([] : List (List Int)), false⟩ : journal_Journal) r5.1 r1.2 r7 er7)) (s_extract (d := (rf 2 0)) rfl rfl (s_extract (d := (si r7.2.1)) rfl rfl (s_assign (d := (rf 2 0)) rfl (s_assign (d := (si r7.2.1)) rfl (AWops.nil (AW.ret ?_))))))
      obtain rfl := Option.some.inj h
      exact ⟨_, rfl, (wg 2 [0, 1, 2] [] rfl (le_upd (le_top _) (DLe.tup (ac (TLe.one (.ref rfl)) (ac (TLe.one .sc) an)))) (ac (qs rfl) (ac .map (ac (.cells (fun _ => rfl) (ac (.ref rfl) (ac .same (ac .same (ac .sc an))))) an))))⟩
    ·refine AW.cond_no rfl c6 (AW.seq (AW.region ?_))
     refine s_move (d := (si r5.2)) rfl (s_binI (v := (.bool (r5.2 != 33))) rfl rfl rfl (s_assign (d := (sb (r5.2 != 33))) rfl (AWops.nil ?_)))
     rcases itH h with ⟨c10, h⟩ | ⟨c10, h⟩
     ·refine AW.cond_yes rfl c10 (AW.seq (AW.region ?_))
      refine s_move (d := (si r5.2)) rfl (s_assign (d := (sc (.pointer none))) rfl (s_assign (d := (si r5.2)) rfl (AWops.nil (AW.ret ?_))))
      obtain rfl := Option.some.inj h
      exact ⟨_, rfl, (wg 2 [0, 1] [] rfl (le_upd (le_top _) (DLe.tup (ac (TLe.one .sc) (ac (TLe.one .sc) an)))) (ac (qs rfl) (ac .map an)))⟩
     ·refine AW.cond_no rfl c10 (AW.seq (AW.region ?_))
      refine s_move (d := (ds_ e_u8 a1)) rfl (s_len (n := a1.length) F.u_22 rfl (.inr ⟨(fun _ _ h => by cases h), ⟨_, rfl⟩⟩) (s_binI (v := (.bool (decide ((a1.length : Int) > 4194304)))) rfl rfl rfl (s_assign (d := (sb (decide ((a1.length : Int) > 4194304)))) rfl (AWops.nil ?_))))
      rcases itH h with ⟨c11, h⟩ | ⟨c11, h⟩
      ·refine AW.cond_yes rfl c11 (AW.seq (AW.region ?_))
       refine s_assign (d := (sc (.pointer none))) rfl (s_assign (d := (si 1)) rfl (AWops.nil (AW.ret ?_)))
       obtain rfl := Option.some.inj h
       exact ⟨_, rfl, (wg 2 [0, 1] [] rfl (le_upd (le_top _) (DLe.tup (ac (TLe.one .sc) (ac (TLe.one .sc) an)))) (ac (qs rfl) (ac .map an)))⟩
      ·refine AW.cond_no rfl c11 (AW.skip (AW.seq (AW.seq (AW.region ?_))))
       refine s_move (d := (rf 0 0)) rfl (s_move (d := (ds_ e_u8 a1)) rfl ?_)
       obtain ⟨r12, er12, h⟩ := bnd h
       refine cc [0, 1] [(o_vdisk_Disk_03 false (C.mp 1) np r12.2), (om_ e_vdisk_file r12.2.files), (some (AObj.cells true [(C.ref 0 0), (C.p true (.v (.slice none 0 0))), (C.p true (.v (.slice none 0 0))), (cb false)]))] (si r12.1) F.ca_29 rfl rfl (ac (.one (.ref rfl)) (ac (.one .imm) an)) (ac (.cells (ac (.mp rfl) (ac .sc (ac .sc (ac .sc (ac .sc an)))))) (ac .map an)) (journal_replace.meets _ r1.2 a1 r12 er12) (s_assign (d := (si r12.1)) rfl (AWops.nil (AW.seq (AW.region (s_move (d := (si r12.1)) rfl (s_binI (v := (.bool (r12.1 != 0))) rfl rfl rfl (AWops.nil ?_)))))))
       rcases itH h with ⟨c13, h⟩ | ⟨c13, h⟩
       ·refine AW.cond_yes rfl c13 (AW.seq (AW.region ?_))
        refine s_move (d := (si r12.1)) rfl (s_assign (d := (sc (.pointer none))) rfl (s_assign (d := (si r12.1)) rfl (AWops.nil (AW.ret ?_))))
        obtain rfl := Option.some.inj h
        exact ⟨_, rfl, (wg 2 [0, 1] [] rfl (le_upd (le_top _) (DLe.tup (ac (TLe.one .sc) (ac (TLe.one .sc) an)))) (ac (qs rfl) (ac .map an)))⟩
       ·refine AW.cond_no rfl c13 (AW.skip (AW.seq (AW.region ?_)))
        refine s_move (d := (rf 2 0)) rfl (s_move (d := (ds_ e_u8 a1)) rfl ?_)
        obtain ⟨r14, er14, h⟩ := bnd h
        refine cc [] [(o_vdisk_Disk_03 false (C.mp 1) np r12.2), (om_ e_vdisk_file r12.2.files), (some (AObj.cells true [(C.ref 0 0), (C.p true (.v (.slice none 0 0))), (C.p true (.v (.slice none 0 0))), (cb false)])), (ow_ e_u8 r14)] (D.one (C.own 3 0 r14.length 1)) F.ca_28 rfl rfl (ac (.one .imm) an) an (slices_Clone_byte_byte.meets _ a1 r14 er14) (s_nilCheck (d := (rf 2 0)) rfl (.inl ⟨_, _, rfl⟩) (s_fieldRef F.fo_27_1 (by decide) rfl (s_store (cs' := [(C.ref 0 0), (C.own 3 0 r14.length 1), (C.p true (.v (.slice none 0 0))), (cb false)]) rfl rfl rfl (List.cons_ne_nil _ _) rfl F.sz_22 (nl rfl) rfl (AWops.nil (AW.seq (AW.region (s_move (d := (rf 2 0)) rfl (s_assign (d := (rf 2 0)) rfl ?_))))))))
        refine s_assign (d := (si 0)) rfl (AWops.nil (AW.ret ?_))
        obtain rfl := Option.some.inj h
        exact ⟨_, rfl, (wg 2 [0, 1, 2] [3] rfl (le_upd (le_top _) (DLe.tup (ac (TLe.one (.ref rfl)) (ac (TLe.one .sc) an)))) (ac (qs rfl) (ac .map (ac (.cells (fun _ => rfl) (ac (.ref rfl) (ac (CLe.frz e_u8_len rfl rfl rfl) (ac .nil (ac .sc an))))) an))))⟩
   ·refine AW.cond_no rfl c4 (AW.seq (AW.region ?_))
    refine s_move (d := (si r1.1)) rfl (s_assign (d := (sc (.pointer none))) rfl (s_assign (d := (si r1.1)) rfl (AWops.nil (AW.ret ?_))))
    obtain rfl := Option.some.inj h
    exact ⟨_, rfl, (wg 2 [0, 1] [] rfl (le_upd (le_top _) (DLe.tup (ac (TLe.one .sc) (ac (TLe.one .sc) an)))) (ac (qs rfl) (ac .map an)))⟩
def dossierref03_Disk_there.f (k : Nat) (p0 : dossierref03_Disk) (a1 : ByteArray) : Option (dossierref03_File × Int) := if p0.Off = true then (some ((⟨(⟨#[]⟩ : ByteArray), ([] : List Int), 0⟩ : dossierref03_File), 70)) else ((dossierref03_Disk_place.f k p0 a1).bind fun r2 => if r2.2 = true then ((rd p0.L r2.1).bind fun v4 => some (v4, 0)) else (some ((⟨(⟨#[]⟩ : ByteArray), ([] : List Int), 0⟩ : dossierref03_File), 33)))
theorem dossierref03_Disk_there.meets (k : Nat) (p0 : dossierref03_Disk) (a1 : ByteArray) (r : dossierref03_File × Int) (h : dossierref03_Disk_there.f k p0 a1 = some r) : Meets Try.prog 68 [(rf 0 0), (st_ a1)] [(o_dossierref03_Disk_0 false (C.own 1 0 p0.L.length 3) p0), (or_ e_dossierref03_File p0.L)] (D.tup [(D.agg (c_dossierref03_File r.1)), (si r.2)]) [(o_dossierref03_Disk_0 false (C.own 1 0 p0.L.length 3) p0), (or_ e_dossierref03_File p0.L)] := by
 unfold dossierref03_Disk_there.f at h
 refine Meets.of_body (n := 29) Try.func68 rfl rfl (nl rfl) fun x hx => ?_
 replace hx : x.k = 2 := hx
 show AW _ x _ _ ⟨29, fr0 [(rf 0 0), (st_ a1)], [(o_dossierref03_Disk_0 false (C.own 1 0 p0.L.length 3) p0), (or_ e_dossierref03_File p0.L)]⟩
 refine AW.seq (AW.region ?_)
 refine s_alloc (cs := [(ct (⟨#[]⟩ : ByteArray)), (C.p true (.v (.slice none 0 0))), (ci 0)]) F.z_109 rfl rfl (s_assign (d := (si 0)) rfl (AWops.nil (AW.seq (AW.seq (AW.region (s_move (d := (rf 0 0)) rfl (s_nilCheck (d := (rf 0 0)) rfl (.inl ⟨_, _, rfl⟩) (s_fieldRef F.fo_84_3 (by decide) rfl (s_load1 (c' := (cb p0.Off)) F.ag_4 rfl rfl (AWops.nil ?_))))))))))
 rcases itH h with ⟨c1, h⟩ | ⟨c1, h⟩
 ·refine AW.cond_yes rfl c1 (AW.seq (AW.region ?_))
  refine s_build (ps := []) (cs := [(ct (⟨#[]⟩ : ByteArray)), (C.p true (.v (.slice none 0 0))), (ci 0)]) F.z_109 rfl F.so_109 rfl rfl (s_store (cs' := [(ct (⟨#[]⟩ : ByteArray)), (C.p true (.v (.slice none 0 0))), (ci 0)]) rfl rfl rfl (List.cons_ne_nil _ _) rfl F.sz_109 (nl rfl) rfl (s_assign (d := (si 70)) rfl (AWops.nil (AW.ret ?_))))
  obtain rfl := Option.some.inj h
  exact ⟨_, rfl, (wg 2 [0, 1] [] rfl (le_upd (le_top _) (DLe.tup (ac (TLe.agg (ac .sc (ac .nil (ac .sc an)))) (ac (TLe.one .sc) an)))) (ac (qo rfl) (ac (.cells id (all2_row _)) an)))⟩
 ·refine AW.cond_no rfl c1 (AW.skip (AW.seq (AW.region ?_)))
  refine s_move (d := (rf 0 0)) rfl (s_move (d := (st_ a1)) rfl ?_)
  obtain ⟨r2, er2, h⟩ := bnd h
  refine cc [0, 1] [(o_dossierref03_Disk_0 false (C.own 1 0 p0.L.length 3) p0), (or_ e_dossierref03_File p0.L), (some (AObj.cells true [(ct (⟨#[]⟩ : ByteArray)), (C.p true (.v (.slice none 0 0))), (ci 0)]))] (D.tup [(si r2.1), (sb r2.2)]) F.ca_66 rfl rfl (ac (.one (.ref rfl)) (ac (.one .sc) an)) (ac (.cells (ac (.own rfl) (ac .sc (ac .sc (ac .sc an))))) (ac (.cells (lend_row _)) an)) (dossierref03_Disk_place.meets _ p0 a1 r2 er2) (s_move (d := (D.tup [(si r2.1), (sb r2.2)])) rfl (s_extract (d := (si r2.1)) rfl rfl (s_extract (d := (sb r2.2)) rfl rfl (s_assign (d := (si r2.1)) rfl (s_assign (d := (sb r2.2)) rfl (AWops.nil (AW.seq (AW.seq (AW.region ?_)))))))))
  refine s_move (d := (sb r2.2)) rfl (s_not rfl (AWops.nil ?_))
  rcases itH h with ⟨c3, h⟩ | ⟨c3, h⟩
  ·refine AW.cond_no rfl (by rw [c3] <;> rfl) (AW.skip (AW.seq (AW.region ?_)))
   refine s_move (d := (rf 0 0)) rfl (s_nilCheck (d := (rf 0 0)) rfl (.inl ⟨_, _, rfl⟩) (s_fieldRef F.fo_84_0 (by decide) rfl (s_load1 (c' := (C.own 1 0 p0.L.length 3)) F.ag_82 rfl rfl (s_move (d := (si r2.1)) rfl ?_))))
   obtain ⟨v4, ev4, h⟩ := bnd h
   obtain ⟨pv4, qv4, gv4⟩ := rd_some ev4
   refine s_indexOwn (d := (D.one (C.ref 1 (0 + r2.1.toNat * 3)))) F.u_82 F.sz_109 rfl rfl pv4 qv4 rfl ?_
   obtain ⟨R5, hR5⟩ := row_at (f := e_dossierref03_File) (sz := 3) (o := 0) e_dossierref03_File_len gv4 (e_dossierref03_File_eq v4) (by decide)
   refine s_loadN (ds := (c_dossierref03_File v4)) F.ag_109 F.sz_109 (congrArg some hR5) rfl rfl (s_store (cs' := (c_dossierref03_File v4)) rfl rfl rfl (List.cons_ne_nil _ _) rfl F.sz_109 (nl rfl) rfl (s_assign (d := (si 0)) rfl (AWops.nil (AW.ret ?_))))
   obtain rfl := Option.some.inj h
   exact ⟨_, rfl, (wg 2 [0, 1] [] rfl (le_upd (le_top _) (DLe.tup (ac (TLe.agg (ac .sc (ac .same (ac .sc an)))) (ac (TLe.one .sc) an)))) (ac (qo rfl) (ac (.cells id (all2_row _)) an)))⟩
  ·refine AW.cond_yes rfl (by rw [c3] <;> rfl) (AW.seq (AW.region ?_))
   refine s_build (ps := []) (cs := [(ct (⟨#[]⟩ : ByteArray)), (C.p true (.v (.slice none 0 0))), (ci 0)]) F.z_109 rfl F.so_109 rfl rfl (s_store (cs' := [(ct (⟨#[]⟩ : ByteArray)), (C.p true (.v (.slice none 0 0))), (ci 0)]) rfl rfl rfl (List.cons_ne_nil _ _) rfl F.sz_109 (nl rfl) rfl (s_assign (d := (si 33)) rfl (AWops.nil (AW.ret ?_))))
   obtain rfl := Option.some.inj h
   exact ⟨_, rfl, (wg 2 [0, 1] [] rfl (le_upd (le_top _) (DLe.tup (ac (TLe.agg (ac .sc (ac .nil (ac .sc an)))) (ac (TLe.one .sc) an)))) (ac (qo rfl) (ac (.cells id (all2_row _)) an)))⟩
def dossierref03_Disk_Read.f (k : Nat) (p0 : dossierref03_Disk) (a1 : ByteArray) : Option ((List Int) × Int) := (dossierref03_Disk_there.f k p0 a1).bind fun r1 => if (r1.2 != 0) = true then (some (([] : List Int), r1.2)) else (if (decide (([] : List Int).length + r1.1.B.length ≤ 140737488355328)) = true then (some (r1.1.B, 0)) else none)
theorem dossierref03_Disk_Read.meets (k : Nat) (p0 : dossierref03_Disk) (a1 : ByteArray) (r : (List Int) × Int) (h : dossierref03_Disk_Read.f k p0 a1 = some r) : Meets Try.prog 70 [(rf 0 0), (st_ a1)] [(o_dossierref03_Disk_0 false (C.own 1 0 p0.L.length 3) p0), (or_ e_dossierref03_File p0.L)] (D.tup [(ds_ e_u8 r.1), (si r.2)]) [(o_dossierref03_Disk_0 false (C.own 1 0 p0.L.length 3) p0), (or_ e_dossierref03_File p0.L)] := by
 unfold dossierref03_Disk_Read.f at h
 refine Meets.of_body (n := 21) Try.func70 rfl rfl (nl rfl) fun x hx => ?_
 replace hx : x.k = 2 := hx
 show AW _ x _ _ ⟨21, fr0 [(rf 0 0), (st_ a1)], [(o_dossierref03_Disk_0 false (C.own 1 0 p0.L.length 3) p0), (or_ e_dossierref03_File p0.L)]⟩
 refine AW.seq (AW.region ?_)
 refine s_assign (d := (sc (.slice none 0 0))) rfl (s_assign (d := (si 0)) rfl (AWops.nil (AW.seq (AW.region (s_move (d := (rf 0 0)) rfl (s_move (d := (st_ a1)) rfl ?_))))))
 obtain ⟨r1, er1, h⟩ := bnd h
 refine cc [0, 1] [(o_dossierref03_Disk_0 false (C.own 1 0 p0.L.length 3) p0), (or_ e_dossierref03_File p0.L)] (D.tup [(D.agg (c_dossierref03_File r1.1)), (si r1.2)]) F.ca_68 rfl rfl (ac (.one (.ref rfl)) (ac (.one .sc) an)) (ac (.cells (ac (.own rfl) (ac .sc (ac .sc (ac .sc an))))) (ac (.cells (lend_row _)) an)) (dossierref03_Disk_there.meets _ p0 a1 r1 er1) (s_move (d := (D.tup [(D.agg (c_dossierref03_File r1.1)), (si r1.2)])) rfl (s_extract (d := (D.agg (c_dossierref03_File r1.1))) rfl rfl (s_extract (d := (si r1.2)) rfl rfl (s_alloc (cs := [(ct (⟨#[]⟩ : ByteArray)), (C.p true (.v (.slice none 0 0))), (ci 0)]) F.z_109 rfl rfl (s_store (cs' := (c_dossierref03_File r1.1)) rfl rfl rfl (List.cons_ne_nil _ _) rfl F.sz_109 (nl rfl) rfl ?_)))))
 refine s_assign (d := (si r1.2)) rfl (AWops.nil (AW.seq (AW.seq (AW.region ?_))))
 refine s_move (d := (si r1.2)) rfl (s_binI (v := (.bool (r1.2 != 0))) rfl rfl rfl (AWops.nil ?_))
 rcases itH h with ⟨c2, h⟩ | ⟨c2, h⟩
 ·refine AW.cond_yes rfl c2 (AW.seq (AW.region ?_))
  refine s_move (d := (si r1.2)) rfl (s_assign (d := (sc (.slice none 0 0))) rfl (s_assign (d := (si r1.2)) rfl (AWops.nil (AW.ret ?_))))
  obtain rfl := Option.some.inj h
  exact ⟨_, rfl, (wg 2 [0, 1] [] rfl (le_upd (le_top _) (DLe.tup (ac (TLe.one .nil) (ac (TLe.one .sc) an)))) (ac (qo rfl) (ac (.cells id (all2_row _)) an)))⟩
 ·refine AW.cond_no rfl c2 (AW.skip (AW.seq (AW.region ?_)))
  refine s_buildSlice (n := 0) (ps := []) (cs := rowC e_u8 ([] : List Int)) F.u_22 F.sz_5 F.z_5 rfl rfl (by decide) (by decide) rfl rfl (s_fieldRef F.fo_109_1 (by decide) rfl (s_load1 (c' := (cl_ e_u8 r1.1.B)) F.ag_22 rfl rfl ?_))
  obtain ⟨c3, h⟩ := gdH h
  have dc3 := of_decide_eq_true c3
  refine t_append (xs := ([] : List Int)) (ys := r1.1.B) (zs := r1.1.B) (H' := [(o_dossierref03_Disk_0 false (C.own 1 0 p0.L.length 3) p0), (or_ e_dossierref03_File p0.L), (some (AObj.cells true (c_dossierref03_File r1.1))), none, (ow_ e_u8 r1.1.B)]) F.u_22 F.in_5 rfl e_u8_len (.own rfl rfl) .imm F.u_22 (by omega) (by omega) rfl rfl (s_assign (d := (D.one (C.own 4 0 r1.1.B.length 1))) rfl (s_assign (d := (si 0)) rfl (AWops.nil (AW.ret ?_))))
  obtain rfl := Option.some.inj h
  exact ⟨_, rfl, (wg 2 [0, 1] [4] rfl (le_upd (le_top _) (DLe.tup (ac (TLe.one (CLe.frz e_u8_len rfl rfl rfl)) (ac (TLe.one .sc) an)))) (ac (qo rfl) (ac (.cells id (all2_row _)) an)))⟩
def dossierref03_Disk_cut_69.f (k : Nat) (p0 : dossierref03_Disk) (a1 : ByteArray) : Option dossierref03_Disk := (dossierref03_Disk_place.f k p0 a1).bind fun r1 => if (decide (0 ≤ 0 ∧ 0 ≤ r1.1 ∧ r1.1 ≤ (p0.L.length : Int))) = true then (if (decide (([] : List dossierref03_File).length + (sub p0.L 0 r1.1).length ≤ 2932031007402)) = true then (if (decide (0 ≤ (IntKind.i64.wrap (r1.1 + 1)) ∧ (IntKind.i64.wrap (r1.1 + 1)) ≤ (p0.L.length : Int) ∧ (p0.L.length : Int) ≤ (p0.L.length : Int))) = true then (if (decide ((sub p0.L 0 r1.1).length + (sub p0.L (IntKind.i64.wrap (r1.1 + 1)) (p0.L.length : Int)).length ≤ 2932031007402)) = true then (some (⟨(sub p0.L 0 r1.1) ++ (sub p0.L (IntKind.i64.wrap (r1.1 + 1)) (p0.L.length : Int)), p0.Most, p0.Burns, p0.Off⟩ : dossierref03_Disk)) else none) else none) else none) else none
theorem dossierref03_Disk_cut_69.meets (k : Nat) (p0 : dossierref03_Disk) (a1 : ByteArray) (r : dossierref03_Disk) (h : dossierref03_Disk_cut_69.f k p0 a1 = some r) : Meets Try.prog 69 [(rf 0 0), (st_ a1)] [(o_dossierref03_Disk_0 false (C.own 1 0 p0.L.length 3) p0), (or_ e_dossierref03_File p0.L)] (D.tup []) [(o_dossierref03_Disk_0 false (C.own 2 0 r.L.length 3) r), none, (or_ e_dossierref03_File r.L)] := by
 unfold dossierref03_Disk_cut_69.f at h
 refine Meets.of_body (n := 31) Try.func69 rfl rfl (nl rfl) fun x hx => ?_
 replace hx : x.k = 2 := hx
 show AW _ x _ _ ⟨31, fr0 [(rf 0 0), (st_ a1)], [(o_dossierref03_Disk_0 false (C.own 1 0 p0.L.length 3) p0), (or_ e_dossierref03_File p0.L)]⟩
 refine AW.weak (st' := ⟨31, (upd 31 (upd 31 topF 0 (rf 0 0)) 1 (st_ a1)), [(o_dossierref03_Disk_0 false (C.own 2 0 p0.L.length 3) p0), none, (or_ e_dossierref03_File p0.L)]⟩) (Weak.genL (kk := 2) [0, 1, 1] [] hx rfl (by decide) rfl rfl rfl rfl (le_upd (le_upd (le_top _) (o1 (.ref rfl))) (o1 .sc)) (ac (qo rfl) (ac (.none _) (ac (.cells id (all2_row _)) an)))) (AW.seq (AW.region ?_))
 refine s_move (d := (rf 0 0)) rfl (s_move (d := (st_ a1)) rfl ?_)
 obtain ⟨r1, er1, h⟩ := bnd h
 refine cc [0, 2] [(o_dossierref03_Disk_0 false (C.own 2 0 p0.L.length 3) p0), none, (or_ e_dossierref03_File p0.L)] (D.tup [(si r1.1), (sb r1.2)]) F.ca_66 rfl rfl (ac (.one (.ref rfl)) (ac (.one .sc) an)) (ac (.cells (ac (.own rfl) (ac .sc (ac .sc (ac .sc an))))) (ac (.cells (lend_row _)) an)) (dossierref03_Disk_place.meets _ p0 a1 r1 er1) (s_move (d := (D.tup [(si r1.1), (sb r1.2)])) rfl (s_extract (d := (si r1.1)) rfl rfl (s_extract (d := (sb r1.2)) rfl rfl (s_assign (d := (si r1.1)) rfl (s_assign (d := (sb r1.2)) rfl (AWops.nil ?_))))))
 refine AW.weak (st' := ⟨31, (upd 31 (upd 31 (upd 31 (upd 31 (upd 31 (upd 31 (upd 31 (upd 31 (upd 31 (upd 31 topF 0 (rf 0 0)) 1 (st_ a1)) 4 (si r1.1)) 5 (sb r1.2)) 6 (D.tup [(si r1.1), (sb r1.2)])) 7 (rf 0 0)) 8 (st_ a1)) 9 (D.tup [(si r1.1), (sb r1.2)])) 10 (si r1.1)) 11 (sb r1.2)), [(some (AObj.cells false (c_dossierref03_Disk p0))), none]⟩) (wg 2 [0, 1] [2] hx (le_upd (le_upd (le_upd (le_upd (le_upd (le_upd (le_upd (le_upd (le_upd (le_upd (le_top _) (o1 (.ref rfl))) (o1 .sc)) (o1 .sc)) (o1 .sc)) (DLe.tup (ac (TLe.one .sc) (ac (TLe.one .sc) an)))) (o1 (.ref rfl))) (o1 .sc)) (DLe.tup (ac (TLe.one .sc) (ac (TLe.one .sc) an)))) (o1 .sc)) (o1 .sc)) (ac (.cells id (ac (CLe.frz e_dossierref03_File_len rfl rfl rfl) (ac .sc (ac .sc (ac .sc an))))) (ac (.none _) an))) ?_
 refine AW.weak (st' := ⟨31, (upd 31 (upd 31 topF 0 (rf 0 0)) 4 (si r1.1)), [(some (AObj.cells false (c_dossierref03_Disk p0))), none]⟩) (wg 2 [0, 1] [] hx (le_upd (le_upd (le_top _) (o1 (.ref rfl))) (o1 .sc)) (ac (.cells id (ac .same (ac .sc (ac .sc (ac .sc an))))) (ac (.none _) an))) ?_
 obtain ⟨c2, h⟩ := gdH h
 have dc2 := of_decide_eq_true c2
 obtain ⟨c3, h⟩ := gdH h
 have dc3 := of_decide_eq_true c3
 obtain ⟨c4, h⟩ := gdH h
 have dc4 := of_decide_eq_true c4
 obtain ⟨c5, h⟩ := gdH h
 have dc5 := of_decide_eq_true c5
 refine AW.draw (n := 31) (L := 5) [(ft 0 12 (rf 0 0) [(0, (rf 0 0))]), (1, ⟨some 13, (D.one (C.own 2 0 (([] : List dossierref03_File).length) 3)), [], [], [(2, (some (AObj.cells true (rowC e_dossierref03_File ([] : List dossierref03_File)))))], some 2⟩), (ft 2 14 (rf 0 0) [(0, (rf 0 0))]), (ft 3 15 (rf 0 0) [(14, (rf 0 0))]), (ft 4 16 (rf 0 0) [(15, (rf 0 0))]), (5, ⟨some 17, (ds_ e_dossierref03_File p0.L), [(16, (rf 0 0))], [(0, (some (AObj.cells false (c_dossierref03_Disk p0))))], [], none⟩), (ft 6 18 (si r1.1) [(4, (si r1.1))]), (ft 7 19 (D.one (C.p false (.sl (sub p0.L 0 r1.1).length ((sub p0.L 0 r1.1).flatMap e_dossierref03_File)))) [(17, (ds_ e_dossierref03_File p0.L)), (18, (si r1.1))]), (8, ⟨some 20, (D.one (C.own 3 0 ((sub p0.L 0 r1.1).length) 3)), [(13, (D.one (C.own 2 0 (([] : List dossierref03_File).length) 3))), (19, (D.one (C.p false (.sl (sub p0.L 0 r1.1).length ((sub p0.L 0 r1.1).flatMap e_dossierref03_File)))))], [(2, (some (AObj.cells true (rowC e_dossierref03_File ([] : List dossierref03_File)))))], [(2, none), (3, (some (AObj.cells true (rowC e_dossierref03_File (sub p0.L 0 r1.1)))))], some 3⟩), (ft 9 21 (rf 0 0) [(0, (rf 0 0))]), (ft 10 22 (rf 0 0) [(21, (rf 0 0))]), (ft 11 23 (rf 0 0) [(22, (rf 0 0))]), (12, ⟨some 24, (ds_ e_dossierref03_File p0.L), [(23, (rf 0 0))], [(0, (some (AObj.cells false (c_dossierref03_Disk p0))))], [], none⟩), (ft 13 25 (si r1.1) [(4, (si r1.1))]), (ft 14 26 (si (IntKind.i64.wrap (r1.1 + 1))) [(25, (si r1.1))]), (ft 15 27 (D.one (C.p false (.sl (sub p0.L (IntKind.i64.wrap (r1.1 + 1)) (p0.L.length : Int)).length ((sub p0.L (IntKind.i64.wrap (r1.1 + 1)) (p0.L.length : Int)).flatMap e_dossierref03_File)))) [(24, (ds_ e_dossierref03_File p0.L)), (26, (si (IntKind.i64.wrap (r1.1 + 1))))]), (16, ⟨some 28, (D.one (C.own 4 0 (((sub p0.L 0 r1.1) ++ (sub p0.L (IntKind.i64.wrap (r1.1 + 1)) (p0.L.length : Int))).length) 3)), [(20, (D.one (C.own 3 0 ((sub p0.L 0 r1.1).length) 3))), (27, (D.one (C.p false (.sl (sub p0.L (IntKind.i64.wrap (r1.1 + 1)) (p0.L.length : Int)).length ((sub p0.L (IntKind.i64.wrap (r1.1 + 1)) (p0.L.length : Int)).flatMap e_dossierref03_File)))))], [(3, (some (AObj.cells true (rowC e_dossierref03_File (sub p0.L 0 r1.1)))))], [(3, none), (4, (some (AObj.cells true (rowC e_dossierref03_File ((sub p0.L 0 r1.1) ++ (sub p0.L (IntKind.i64.wrap (r1.1 + 1)) (p0.L.length : Int)))))))], some 4⟩), (ft 17 29 (rf 0 0) [(12, (rf 0 0))]), (ft 18 30 (rf 0 0) [(29, (rf 0 0))]), (19, ⟨none, (D.one C.top), [(28, (D.one (C.own 4 0 (((sub p0.L 0 r1.1) ++ (sub p0.L (IntKind.i64.wrap (r1.1 + 1)) (p0.L.length : Int))).length) 3))), (30, (rf 0 0))], [(0, (some (AObj.cells false (c_dossierref03_Disk p0))))], [(0, (o_dossierref03_Disk_0 false (C.own 4 0 (((sub p0.L 0 r1.1) ++ (sub p0.L (IntKind.i64.wrap (r1.1 + 1)) (p0.L.length : Int))).length) 3) p0))], none⟩)] [[], [], [], [2], [2, 3], [2, 3, 4], [], [2, 3, 4, 5, 6], [1, 2, 3, 4, 5, 6, 7], [], [9], [9, 10], [9, 10, 11], [], [13], [9, 10, 11, 12, 13, 14], [1, 2, 3, 4, 5, 6, 7, 8, 9, 10, 11, 12, 13, 14, 15], (.range 17), (.range 18), (.range 19)] (nl rfl) [0, 0, 0, 1, 2, 3, 0, 4, 5, 0, 1, 2, 3, 0, 1, 4, 6, 7, 8, 9] rfl (TK := [(1, 2), (8, 3), (16, 4)]) rfl (AllK.cons' ⟨(tk_upd (tk_upd tk_top rfl) rfl), (tC rfl (tC rfl AllT.nil')), (by repeat (first | refine fC (.inl rfl) ?_ | refine fC (.inr rfl) ?_ | refine fC (.inr (by unfold tkFoot; simp only [List.all_cons, List.all_nil, tkO_row, Bool.and_true, Bool.true_and]; rfl)) ?_ | trivial))⟩ (AllK.cons' ⟨(tk_upd (tk_upd tk_top rfl) rfl), (tC rfl (tC rfl AllT.nil')), (by repeat (first | refine fC (.inl rfl) ?_ | refine fC (.inr rfl) ?_ | refine fC (.inr (by unfold tkFoot; simp only [List.all_cons, List.all_nil, tkO_row, Bool.and_true, Bool.true_and]; rfl)) ?_ | trivial))⟩ (AllK.cons' ⟨(tk_upd (tk_upd tk_top rfl) rfl), (tC rfl (tC rfl AllT.nil')), (by repeat (first | refine fC (.inl rfl) ?_ | refine fC (.inr rfl) ?_ | refine fC (.inr (by unfold tkFoot; simp only [List.all_cons, List.all_nil, tkO_row, Bool.and_true, Bool.true_and]; rfl)) ?_ | trivial))⟩ AllK.nil'))) (by repeat (first | refine fC ⟨?_, ?_⟩ ?_ | refine sC rfl ?_ | refine hC rfl ?_ | trivial)) ?_ ?_
 ·refine y8 ?_ ?_ ?_ ?_ ?_ ?_ ?_ ?_ (y8 ?_ ?_ ?_ ?_ ?_ ?_ ?_ ?_ (y4 ?_ ?_ ?_ ?_ yN))
  ·intro K _ f w u k
   show Wp K ⟨31, (upd 31 f 0 (rf 0 0)), _⟩
   refine s_move (d := (rf 0 0)) rfl k
  ·intro K _ f w u k
   show Wp K ⟨31, f, [_, _, _, _, _]⟩
   refine s_buildSlice (n := 0) (ps := []) (cs := rowC e_dossierref03_File ([] : List dossierref03_File)) F.u_82 F.sz_109 F.z_109 rfl rfl (by decide) (by decide) rfl rfl ?_
   refine AWops.weak (st' := ⟨31, (upd 31 f 13 (D.one (C.own 2 0 (([] : List dossierref03_File).length) 3))), [(w 0), (w 1), (some (AObj.cells true (rowC e_dossierref03_File ([] : List dossierref03_File)))), (w 3), (w 4)]⟩) (wg 2 [0, 1, 5, 3, 4] [] hx (le_upd2 (le_ok (p := 2) (L := 5) rfl (u 2 rfl).1) (o1 (.own rfl))) (ac (oq 2 5 (u 2 rfl) 0) (ac (oq 2 5 (u 2 rfl) 1) (ac (.cells (fun _ => rfl) (all2_row _)) (ac (oq 2 5 (u 2 rfl) 3) (ac (oq 2 5 (u 2 rfl) 4) an)))))) k
  ·intro K _ f w u k
   show Wp K ⟨31, (upd 31 f 0 (rf 0 0)), _⟩
   refine s_move (d := (rf 0 0)) rfl k
  ·intro K _ f w u k
   show Wp K ⟨31, (upd 31 f 14 (rf 0 0)), [_, _, _, _, _]⟩
   refine s_nilCheck (d := (rf 0 0)) rfl (.inl ⟨_, _, rfl⟩) k
  ·intro K _ f w u k
   show Wp K ⟨31, (upd 31 f 15 (rf 0 0)), [_, _, _, _, _]⟩
   refine s_fieldRef F.fo_84_0 (by decide) rfl k
  ·intro K _ f w u k
   show Wp K ⟨31, (upd 31 f 16 (rf 0 0)), [(some (AObj.cells false (c_dossierref03_Disk p0))), _, _, _, _]⟩
   refine s_load1 (c' := (cl_ e_dossierref03_File p0.L)) F.ag_82 rfl rfl k
  ·intro K _ f w u k
   show Wp K ⟨31, (upd 31 f 4 (si r1.1)), _⟩
   refine s_move (d := (si r1.1)) rfl k
  ·intro K _ f w u k
   show Wp K ⟨31, (upd 31 (upd 31 f 18 (si r1.1)) 17 (ds_ e_dossierref03_File p0.L)), [_, _, _, _, _]⟩
   refine t_sliceImm (a := 0) (b := r1.1) F.u_82 F.sz_109 e_dossierref03_File_len rfl (by omega) (by omega) (by omega) .no (.yes rfl (by omega) rfl) k
  ·intro K _ f w u k
   show Wp K ⟨31, (upd 31 (upd 31 f 19 (D.one (C.p false (.sl (sub p0.L 0 r1.1).length ((sub p0.L 0 r1.1).flatMap e_dossierref03_File))))) 13 (D.one (C.own 2 0 (([] : List dossierref03_File).length) 3))), [_, _, (some (AObj.cells true (rowC e_dossierref03_File ([] : List dossierref03_File)))), _, _]⟩
   refine t_append (xs := ([] : List dossierref03_File)) (ys := sub p0.L 0 r1.1) (zs := sub p0.L 0 r1.1) (H' := [(w 0), (w 1), none, (w 3), (w 4), (some (AObj.cells true (rowC e_dossierref03_File (sub p0.L 0 r1.1))))]) F.u_82 F.in_109 rfl e_dossierref03_File_len (.own rfl rfl) .imm F.u_82 (by omega) (by omega) rfl rfl ?_
   refine AWops.weak (st' := ⟨31, (upd 31 (upd 31 (upd 31 f 19 (D.one (C.p false (.sl (sub p0.L 0 r1.1).length ((sub p0.L 0 r1.1).flatMap e_dossierref03_File))))) 13 (D.one (C.own 2 0 (([] : List dossierref03_File).length) 3))) 20 (D.one (C.own 3 0 ((sub p0.L 0 r1.1).length) 3))), [(w 0), (w 1), none, (some (AObj.cells true (rowC e_dossierref03_File (sub p0.L 0 r1.1)))), (w 4)]⟩) (wg 2 [0, 1, 2, 5, 4] [] hx (le_upd2 (le_ok (p := 3) (L := 5) rfl (u 3 rfl).1) (o1 (.own rfl))) (ac (oq 3 5 (u 3 rfl) 0) (ac (oq 3 5 (u 3 rfl) 1) (ac (.none _) (ac (.cells (fun _ => rfl) (all2_row _)) (ac (oq 3 5 (u 3 rfl) 4) an)))))) k
  ·intro K _ f w u k
   show Wp K ⟨31, (upd 31 f 0 (rf 0 0)), _⟩
   refine s_move (d := (rf 0 0)) rfl k
  ·intro K _ f w u k
   show Wp K ⟨31, (upd 31 f 21 (rf 0 0)), [_, _, _, _, _]⟩
   refine s_nilCheck (d := (rf 0 0)) rfl (.inl ⟨_, _, rfl⟩) k
  ·intro K _ f w u k
   show Wp K ⟨31, (upd 31 f 22 (rf 0 0)), [_, _, _, _, _]⟩
   refine s_fieldRef F.fo_84_0 (by decide) rfl k
  ·intro K _ f w u k
   show Wp K ⟨31, (upd 31 f 23 (rf 0 0)), [(some (AObj.cells false (c_dossierref03_Disk p0))), _, _, _, _]⟩
   refine s_load1 (c' := (cl_ e_dossierref03_File p0.L)) F.ag_82 rfl rfl k
  ·intro K _ f w u k
   show Wp K ⟨31, (upd 31 f 4 (si r1.1)), _⟩
   refine s_move (d := (si r1.1)) rfl k
  ·intro K _ f w u k
   show Wp K ⟨31, (upd 31 f 25 (si r1.1)), _⟩
   refine s_binI (v := (.int .i64 (IntKind.i64.wrap (r1.1 + 1)))) rfl rfl rfl k
  ·intro K _ f w u k
   show Wp K ⟨31, (upd 31 (upd 31 f 26 (si (IntKind.i64.wrap (r1.1 + 1)))) 24 (ds_ e_dossierref03_File p0.L)), [_, _, _, _, _]⟩
   refine t_sliceImm (a := IntKind.i64.wrap (r1.1 + 1)) (b := (p0.L.length : Int)) F.u_82 F.sz_109 e_dossierref03_File_len rfl (by omega) (by omega) (by omega) (.yes rfl (by omega) rfl) .no k
  ·intro K _ f w u k
   show Wp K ⟨31, (upd 31 (upd 31 f 27 (D.one (C.p false (.sl (sub p0.L (IntKind.i64.wrap (r1.1 + 1)) (p0.L.length : Int)).length ((sub p0.L (IntKind.i64.wrap (r1.1 + 1)) (p0.L.length : Int)).flatMap e_dossierref03_File))))) 20 (D.one (C.own 3 0 ((sub p0.L 0 r1.1).length) 3))), [_, _, _, (some (AObj.cells true (rowC e_dossierref03_File (sub p0.L 0 r1.1)))), _]⟩
   refine t_append (xs := sub p0.L 0 r1.1) (ys := sub p0.L (IntKind.i64.wrap (r1.1 + 1)) (p0.L.length : Int)) (zs := (sub p0.L 0 r1.1) ++ (sub p0.L (IntKind.i64.wrap (r1.1 + 1)) (p0.L.length : Int))) (H' := [(w 0), (w 1), (w 2), none, (w 4), (some (AObj.cells true (rowC e_dossierref03_File ((sub p0.L 0 r1.1) ++ (sub p0.L (IntKind.i64.wrap (r1.1 + 1)) (p0.L.length : Int))))))]) F.u_82 F.in_109 rfl e_dossierref03_File_len (.own rfl rfl) .imm F.u_82 (by omega) (by omega) rfl rfl ?_
   refine AWops.weak (st' := ⟨31, (upd 31 (upd 31 (upd 31 f 27 (D.one (C.p false (.sl (sub p0.L (IntKind.i64.wrap (r1.1 + 1)) (p0.L.length : Int)).length ((sub p0.L (IntKind.i64.wrap (r1.1 + 1)) (p0.L.length : Int)).flatMap e_dossierref03_File))))) 20 (D.one (C.own 3 0 ((sub p0.L 0 r1.1).length) 3))) 28 (D.one (C.own 4 0 (((sub p0.L 0 r1.1) ++ (sub p0.L (IntKind.i64.wrap (r1.1 + 1)) (p0.L.length : Int))).length) 3))), [(w 0), (w 1), (w 2), none, (some (AObj.cells true (rowC e_dossierref03_File ((sub p0.L 0 r1.1) ++ (sub p0.L (IntKind.i64.wrap (r1.1 + 1)) (p0.L.length : Int))))))]⟩) (wg 2 [0, 1, 2, 3, 5] [] hx (le_upd2 (le_ok (p := 4) (L := 5) rfl (u 4 rfl).1) (o1 (.own rfl))) (ac (oq 4 5 (u 4 rfl) 0) (ac (oq 4 5 (u 4 rfl) 1) (ac (oq 4 5 (u 4 rfl) 2) (ac (.none _) (ac (.cells (fun _ => rfl) (all2_row _)) an)))))) k
  ·intro K _ f w u k
   show Wp K ⟨31, (upd 31 f 12 (rf 0 0)), [_, _, _, _, _]⟩
   refine s_nilCheck (d := (rf 0 0)) rfl (.inl ⟨_, _, rfl⟩) k
  ·intro K _ f w u k
   show Wp K ⟨31, (upd 31 f 29 (rf 0 0)), [_, _, _, _, _]⟩
   refine s_fieldRef F.fo_84_0 (by decide) rfl k
  ·intro K _ f w u k
   show Wp K ⟨31, (upd 31 (upd 31 f 30 (rf 0 0)) 28 (D.one (C.own 4 0 (((sub p0.L 0 r1.1) ++ (sub p0.L (IntKind.i64.wrap (r1.1 + 1)) (p0.L.length : Int))).length) 3))), [(some (AObj.cells false (c_dossierref03_Disk p0))), _, _, _, _]⟩
   refine s_store (cs' := [(C.own 4 0 (((sub p0.L 0 r1.1) ++ (sub p0.L (IntKind.i64.wrap (r1.1 + 1)) (p0.L.length : Int))).length) 3), (ci p0.Most), (ci p0.Burns), (cb p0.Off)]) rfl rfl rfl (List.cons_ne_nil _ _) rfl F.sz_82 (nl rfl) rfl k
 ·refine AWops.weak (st' := ⟨31, topF, [(o_dossierref03_Disk_0 false (C.own 2 0 (((sub p0.L 0 r1.1) ++ (sub p0.L (IntKind.i64.wrap (r1.1 + 1)) (p0.L.length : Int))).length) 3) p0), none, (some (AObj.cells true (rowC e_dossierref03_File ((sub p0.L 0 r1.1) ++ (sub p0.L (IntKind.i64.wrap (r1.1 + 1)) (p0.L.length : Int))))))]⟩) (wg 2 [0, 1, 4] [] hx (le_top _) (ac (qo rfl) (ac (.none _) (ac (.cells (fun _ => rfl) (all2_row _)) an)))) (AWops.nil ?_)
  obtain rfl := Option.some.inj h
  exact ⟨_, rfl, (wg 2 [0, 1, 2] [] rfl (le_upd (le_top _) (DLe.tup an)) (ac (qo rfl) (ac (.none _) (ac (.cells (fun _ => rfl) (all2_row _)) an))))⟩
def dossierref03_Disk_Remove_46.f (k : Nat) (p0 : dossierref03_Disk) (a1 : ByteArray) : Option (Int × dossierref03_Disk) := (dossierref03_Disk_there.f k p0 a1).bind fun r1 => if (r1.2 == 0) = true then ((dossierref03_Disk_burn.f k p0).bind fun r3 => if (r3.1 == 0) = true then ((dossierref03_Disk_cut_69.f k r3.2 a1).bind fun r5 => some (r3.1, r5)) else (some (r3.1, r3.2))) else (some (r1.2, p0))
theorem dossierref03_Disk_Remove_46.meets (k : Nat) (p0 : dossierref03_Disk) (a1 : ByteArray) (r : Int × dossierref03_Disk) (h : dossierref03_Disk_Remove_46.f k p0 a1 = some r) : Meets Try.prog 46 [(rf 0 0), (st_ a1)] [(o_dossierref03_Disk_0 false (C.own 1 0 p0.L.length 3) p0), (or_ e_dossierref03_File p0.L)] (si r.1) [(o_dossierref03_Disk_0 false (C.own 2 0 r.2.L.length 3) r.2), none, (or_ e_dossierref03_File r.2.L)] := by
 unfold dossierref03_Disk_Remove_46.f at h
 refine Meets.of_body (n := 23) Try.func46 rfl rfl (nl rfl) fun x hx => ?_
 replace hx : x.k = 2 := hx
 show AW _ x _ _ ⟨23, fr0 [(rf 0 0), (st_ a1)], [(o_dossierref03_Disk_0 false (C.own 1 0 p0.L.length 3) p0), (or_ e_dossierref03_File p0.L)]⟩
 refine AW.weak (st' := ⟨23, (upd 23 (upd 23 topF 0 (rf 0 0)) 1 (st_ a1)), [(o_dossierref03_Disk_0 false (C.own 2 0 p0.L.length 3) p0), none, (or_ e_dossierref03_File p0.L)]⟩) (Weak.genL (kk := 2) [0, 1, 1] [] hx rfl (by decide) rfl rfl rfl rfl (le_upd (le_upd (le_top _) (o1 (.ref rfl))) (o1 .sc)) (ac (qo rfl) (ac (.none _) (ac (.cells id (all2_row _)) an)))) (AW.seq (AW.region ?_))
 refine s_assign (d := (si 0)) rfl (AWops.nil (AW.seq (AW.region ?_)))
 refine s_move (d := (rf 0 0)) rfl (s_move (d := (st_ a1)) rfl ?_)
 obtain ⟨r1, er1, h⟩ := bnd h
 refine cc [0, 2] [(o_dossierref03_Disk_0 false (C.own 2 0 p0.L.length 3) p0), none, (or_ e_dossierref03_File p0.L)] (D.tup [(D.agg (c_dossierref03_File r1.1)), (si r1.2)]) F.ca_68 rfl rfl (ac (.one (.ref rfl)) (ac (.one .sc) an)) (ac (.cells (ac (.own rfl) (ac .sc (ac .sc (ac .sc an))))) (ac (.cells (lend_row _)) an)) (dossierref03_Disk_there.meets _ p0 a1 r1 er1) (s_move (d := (D.tup [(D.agg (c_dossierref03_File r1.1)), (si r1.2)])) rfl (s_extract (d := (D.agg (c_dossierref03_File r1.1))) rfl rfl (s_extract (d := (si r1.2)) rfl rfl (s_alloc (cs := [(ct (⟨#[]⟩ : ByteArray)), (C.p true (.v (.slice none 0 0))), (ci 0)]) F.z_109 rfl rfl (s_store (cs' := (c_dossierref03_File r1.1)) rfl rfl rfl (List.cons_ne_nil _ _) rfl F.sz_109 (nl rfl) rfl ?_)))))
 refine s_assign (d := (si r1.2)) rfl (AWops.nil (AW.seq (AW.seq (AW.region ?_))))
 refine s_move (d := (si r1.2)) rfl (s_binI (v := (.bool (r1.2 == 0))) rfl rfl rfl (AWops.nil ?_))
 rcases itH h with ⟨c2, h⟩ | ⟨c2, h⟩
 ·refine AW.cond_yes rfl c2 (AW.region ?_)
  refine s_move (d := (rf 0 0)) rfl ?_
  obtain ⟨r3, er3, h⟩ := bnd h
  refine cc [0, 2] [(o_dossierref03_Disk_0 false (C.own 2 0 r3.2.L.length 3) r3.2), none, (or_ e_dossierref03_File r3.2.L), (some (AObj.cells true (c_dossierref03_File r1.1)))] (si r3.1) F.ca_65 rfl rfl (ac (.one (.ref rfl)) an) (ac (.cells (ac (.own rfl) (ac .sc (ac .sc (ac .sc an))))) (ac (.cells (lend_row _)) an)) (dossierref03_Disk_burn.meets _ p0 r3 er3) (s_assign (d := (si r3.1)) rfl (AWops.nil (AW.seq (AW.seq (AW.region (s_move (d := (si r3.1)) rfl (s_binI (v := (.bool (r3.1 == 0))) rfl rfl rfl (AWops.nil ?_))))))))
  rcases itH h with ⟨c4, h⟩ | ⟨c4, h⟩
  ·refine AW.cond_yes rfl c4 (AW.region ?_)
   refine s_move (d := (rf 0 0)) rfl (s_move (d := (st_ a1)) rfl ?_)
   obtain ⟨r5, er5, h⟩ := bnd h
   refine cc [0, 2] [(o_dossierref03_Disk_0 false (C.own 4 0 r5.L.length 3) r5), none, none, (some (AObj.cells true (c_dossierref03_File r1.1))), (or_ e_dossierref03_File r5.L)] (D.tup []) F.ca_69 rfl rfl (ac (.one (.ref rfl)) (ac (.one .sc) an)) (ac (.cells (ac (.own rfl) (ac .sc (ac .sc (ac .sc an))))) (ac (.cells (lend_row _)) an)) (dossierref03_Disk_cut_69.meets _ r3.2 a1 r5 er5) (AWops.nil (AW.seq (AW.region ?_)))
   refine s_move (d := (si r3.1)) rfl (s_assign (d := (si r3.1)) rfl (AWops.nil (AW.ret ?_)))
   obtain rfl := Option.some.inj h
   exact ⟨_, rfl, (wg 2 [0, 1, 4] [] rfl (le_upd (le_top _) (o1 .sc)) (ac (qo rfl) (ac (.none _) (ac (.cells id (all2_row _)) an))))⟩
  ·refine AW.cond_no rfl c4 (AW.skip (AW.seq (AW.region ?_)))
   refine s_move (d := (si r3.1)) rfl (s_assign (d := (si r3.1)) rfl (AWops.nil (AW.ret ?_)))
   obtain rfl := Option.some.inj h
   exact ⟨_, rfl, (wg 2 [0, 1, 2] [] rfl (le_upd (le_top _) (o1 .sc)) (ac (qo rfl) (ac (.none _) (ac (.cells id (all2_row _)) an))))⟩
 ·refine AW.cond_no rfl c2 (AW.skip (AW.seq (AW.seq (AW.region ?_))))
  refine s_move (d := (si r1.2)) rfl (s_binI (v := (.bool (r1.2 == 0))) rfl rfl rfl (AWops.nil ?_))
  refine AW.cond_no rfl c2 (AW.skip (AW.seq (AW.region ?_)))
  refine s_move (d := (si r1.2)) rfl (s_assign (d := (si r1.2)) rfl (AWops.nil (AW.ret ?_)))
  obtain rfl := Option.some.inj h
  exact ⟨_, rfl, (wg 2 [0, 1, 2] [] rfl (le_upd (le_top _) (o1 .sc)) (ac (qo rfl) (ac (.none _) (ac (.cells id (all2_row _)) an))))⟩
def dossierref04_four.f (k : Nat) (a0 : Int) : Option (List Int) := some ([IntKind.u8.wrap (Int.fdiv a0 (2 ^ 24)), IntKind.u8.wrap (Int.fdiv a0 (2 ^ 16)), IntKind.u8.wrap (Int.fdiv a0 (2 ^ 8)), IntKind.u8.wrap a0] : List Int)
theorem dossierref04_four.meets (k : Nat) (a0 : Int) (r : (List Int)) (h : dossierref04_four.f k a0 = some r) : Meets Try.prog 83 [(si a0)] [] (D.one (C.own 0 0 r.length 1)) [(ow_ e_u8 r)] := by
 unfold dossierref04_four.f at h
 refine Meets.of_body (n := 15) Try.func83 rfl rfl (nl rfl) fun x hx => ?_
 replace hx : x.k = 0 := hx
 show AW _ x _ _ ⟨15, fr0 [(si a0)], []⟩
 refine AW.seq (AW.region ?_)
 refine s_assign (d := (sc (.slice none 0 0))) rfl (AWops.nil (AW.seq (AW.region ?_)))
 refine s_move (d := (si a0)) rfl (s_shift (v := (.int .i64 (Int.fdiv a0 (2 ^ 24)))) rfl rfl rfl (s_convI F.u_3 F.u_5 rfl (s_move (d := (si a0)) rfl (s_shift (v := (.int .i64 (Int.fdiv a0 (2 ^ 16)))) rfl rfl rfl (s_convI F.u_3 F.u_5 rfl ?_)))))
 refine s_move (d := (si a0)) rfl (s_shift (v := (.int .i64 (Int.fdiv a0 (2 ^ 8)))) rfl rfl rfl (s_convI F.u_3 F.u_5 rfl (s_move (d := (si a0)) rfl (s_convI F.u_3 F.u_5 rfl (s_buildSlice (n := 4) (ps := [(0, (sc (.int .u8 (IntKind.u8.wrap (Int.fdiv a0 (2 ^ 24)))))), (1, (sc (.int .u8 (IntKind.u8.wrap (Int.fdiv a0 (2 ^ 16)))))), (2, (sc (.int .u8 (IntKind.u8.wrap (Int.fdiv a0 (2 ^ 8)))))), (3, (sc (.int .u8 (IntKind.u8.wrap a0))))]) (cs := rowC e_u8 ([IntKind.u8.wrap (Int.fdiv a0 (2 ^ 24)), IntKind.u8.wrap (Int.fdiv a0 (2 ^ 16)), IntKind.u8.wrap (Int.fdiv a0 (2 ^ 8)), IntKind.u8.wrap a0] : List Int)) F.u_22 F.sz_5 F.z_5 rfl rfl (by decide) (by decide) rfl rfl ?_)))))
 refine s_assign (d := (D.one (C.own 0 0 (([IntKind.u8.wrap (Int.fdiv a0 (2 ^ 24)), IntKind.u8.wrap (Int.fdiv a0 (2 ^ 16)), IntKind.u8.wrap (Int.fdiv a0 (2 ^ 8)), IntKind.u8.wrap a0] : List Int).length) 1))) rfl (AWops.nil (AW.ret ?_))
 obtain rfl := Option.some.inj h
 exact ⟨_, rfl, (wg 0 [0] [] rfl (le_upd (le_top _) (o1 (.own rfl))) (ac (.cells (fun _ => rfl) (all2_row _)) an))⟩
mutual
def dossierref02_Crc.l1 : Nat → Int → Int → (List Int) → Int → Option Int
 | 0, _, _, _, _ => none
 | k + 1, x5, x6, a0, x2 => if (decide (x6 < 8)) = true then (if ((Int.tmod x5 2) == 1) = true then (dossierref02_Crc.l1 k (Go.bits .xor .u32 (Int.fdiv x5 (2 ^ 1)) 3988292384) (IntKind.i64.wrap (x6 + 1)) a0 x2) else (dossierref02_Crc.l1 k (Int.fdiv x5 (2 ^ 1)) (IntKind.i64.wrap (x6 + 1)) a0 x2)) else (dossierref02_Crc.l0 k x5 (IntKind.i64.wrap (x2 + 1)) a0)
def dossierref02_Crc.l0 : Nat → Int → Int → (List Int) → Option Int
 | 0, _, _, _ => none
 | k + 1, x1, x2, a0 => if (decide (x2 < (a0.length : Int))) = true then ((rd a0 x2).bind fun v4 => dossierref02_Crc.l1 k (Go.bits .xor .u32 x1 (IntKind.u32.wrap v4)) 0 a0 x2) else (some (IntKind.i64.wrap (Go.bits .xor .u32 x1 4294967295)))
end
def dossierref02_Crc.f (k : Nat) (a0 : List Int) : Option Int := dossierref02_Crc.l0 k 4294967295 0 a0
theorem dossierref02_Crc.meets (k : Nat) (a0 : List Int) (r : Int) (h : dossierref02_Crc.f k a0 = some r) : Meets Try.prog 84 [(ds_ e_u8 a0)] [] (si r) [] := by
 unfold dossierref02_Crc.f at h
 refine Meets.of_body (n := 31) Try.func84 rfl rfl (nl rfl) fun x hx => ?_
 replace hx : x.k = 0 := hx
 show AW _ x _ _ ⟨31, fr0 [(ds_ e_u8 a0)], []⟩
 refine AW.seq (AW.region ?_)
 refine s_assign (d := (si 0)) rfl (AWops.nil (AW.seq (AW.region ?_)))
 refine s_assign (d := (sc (.int .u32 4294967295))) rfl (AWops.nil (AW.seq (AW.seq (AW.region ?_))))
 refine s_move (d := (ds_ e_u8 a0)) rfl (s_len (n := a0.length) F.u_22 rfl (.inr ⟨(fun _ _ h => by cases h), ⟨_, rfl⟩⟩) (s_move (d := (si 0)) rfl (AWops.nil (AW.block ?_))))
 refine AW.loopw (st0 := ⟨31, (upd 31 (upd 31 (upd 31 (upd 31 topF 3 (sc (.int .u32 4294967295))) 6 (ds_ e_u8 a0)) 7 (si (a0.length : Int))) 8 (si 0)), []⟩) (fun kv st => kv ≤ k ∧ ∃ (x1 : Int) (x2 : Int), dossierref02_Crc.l0 kv x1 x2 a0 = some r ∧ st = ⟨31, (upd 31 (upd 31 (upd 31 (upd 31 topF 3 (sc (.int .u32 x1))) 6 (ds_ e_u8 a0)) 7 (si (a0.length : Int))) 8 (si x2)), []⟩) (k := k) (wg 0 [] [] hx (le_upd (le_upd (le_upd (le_upd (le_top _) (o1 .sc)) (o1 .same)) (o1 .sc)) (o1 .sc)) an) ⟨Nat.le_refl _, 4294967295, 0, h, rfl⟩ ?_
 rintro ql0 st ⟨hkl0, x1, x2, h, rfl⟩
 cases ql0 with
 | zero => exact absurd h (by simp [dossierref02_Crc.l0])
 | succ ql0 =>
  replace h := (dossierref02_Crc.l0.eq_2 _ _ _ _).symm.trans h
  refine AW.seq (AW.region ?_)
  refine s_binI (v := (.bool (decide (x2 < (a0.length : Int))))) rfl rfl rfl (AWops.nil (AW.seq ?_))
  rcases itH h with ⟨c3, h⟩ | ⟨c3, h⟩
  ·refine AW.cond_yes rfl c3 (AW.skip (AW.seq (AW.block (AW.seq (AW.region ?_)))))
   obtain ⟨v4, ev4, h⟩ := bnd h
   obtain ⟨pv4, qv4, gv4⟩ := rd_some ev4
   refine s_indexImm (ps := [P.v (.int .u8 v4)]) F.u_22 F.sz_5 rfl rfl pv4 qv4 (flat_at e_u8_len gv4 (e_u8_eq v4)) (s_load1 (c' := (C.p true (.v (.int .u8 v4)))) F.ag_5 rfl rfl (s_assign (d := (sc (.int .u8 v4))) rfl (AWops.nil (AW.seq (AW.region (s_move (d := (sc (.int .u32 x1))) rfl (s_move (d := (sc (.int .u8 v4))) rfl (s_convI F.u_5 F.u_120 rfl ?_))))))))
   refine s_binI (v := (.int .u32 (Go.bits .xor .u32 x1 (IntKind.u32.wrap v4)))) rfl rfl rfl (s_assign (d := (sc (.int .u32 (Go.bits .xor .u32 x1 (IntKind.u32.wrap v4))))) rfl (AWops.nil (AW.seq (AW.region (s_move (d := (si 0)) rfl (AWops.nil (AW.block ?_)))))))
   refine AW.loopw (st0 := ⟨31, (upd 31 (upd 31 (upd 31 (upd 31 (upd 31 topF 3 (sc (.int .u32 (Go.bits .xor .u32 x1 (IntKind.u32.wrap v4))))) 6 (ds_ e_u8 a0)) 7 (si (a0.length : Int))) 8 (si x2)) 16 (si 0)), []⟩) (fun kv st => kv ≤ ql0 ∧ ∃ (x5 : Int) (x6 : Int), dossierref02_Crc.l1 kv x5 x6 a0 x2 = some r ∧ st = ⟨31, (upd 31 (upd 31 (upd 31 (upd 31 (upd 31 topF 3 (sc (.int .u32 x5))) 6 (ds_ e_u8 a0)) 7 (si (a0.length : Int))) 8 (si x2)) 16 (si x6)), []⟩) (k := ql0) (wg 0 [] [] hx (le_upd (le_upd (le_upd (le_upd (le_upd (le_top _) (o1 .sc)) (o1 .same)) (o1 .sc)) (o1 .sc)) (o1 .sc)) an) ⟨Nat.le_refl _, Go.bits .xor .u32 x1 (IntKind.u32.wrap v4), 0, h, rfl⟩ ?_
   rintro ql1 st ⟨hkl1, x5, x6, h, rfl⟩
   cases ql1 with
   | zero => exact absurd h (by simp [dossierref02_Crc.l1])
   | succ ql1 =>
    replace h := (dossierref02_Crc.l1.eq_2 _ _ _ _ _).symm.trans h
    refine AW.seq (AW.region ?_)
    refine s_binI (v := (.bool (decide (x6 < 8)))) rfl rfl rfl (AWops.nil (AW.seq ?_))
    rcases itH h with ⟨c7, h⟩ | ⟨c7, h⟩
    ·refine AW.cond_yes rfl c7 (AW.skip (AW.seq (AW.block (AW.seq (AW.region ?_)))))
     refine s_move (d := (sc (.int .u32 x5))) rfl (s_binI (v := (.int .u32 (Int.tmod x5 2))) rfl rfl rfl (s_binI (v := (.bool ((Int.tmod x5 2) == 1))) rfl rfl rfl (AWops.nil ?_)))
     rcases itH h with ⟨c8, h⟩ | ⟨c8, h⟩
     ·refine AW.cond_yes rfl c8 (AW.region ?_)
      refine s_move (d := (sc (.int .u32 x5))) rfl (s_shift (v := (.int .u32 (Int.fdiv x5 (2 ^ 1)))) rfl rfl rfl (s_binI (v := (.int .u32 (Go.bits .xor .u32 (Int.fdiv x5 (2 ^ 1)) 3988292384))) rfl rfl rfl (s_assign (d := (sc (.int .u32 (Go.bits .xor .u32 (Int.fdiv x5 (2 ^ 1)) 3988292384)))) rfl (AWops.nil (AW.region (s_binI (v := (.int .i64 (IntKind.i64.wrap (x6 + 1)))) rfl rfl rfl (s_move (d := (si (IntKind.i64.wrap (x6 + 1)))) rfl (AWops.nil ?_))))))))
      exact ⟨_, ⟨31, (upd 31 (upd 31 (upd 31 (upd 31 (upd 31 topF 3 (sc (.int .u32 (Go.bits .xor .u32 (Int.fdiv x5 (2 ^ 1)) 3988292384)))) 6 (ds_ e_u8 a0)) 7 (si (a0.length : Int))) 8 (si x2)) 16 (si (IntKind.i64.wrap (x6 + 1)))), []⟩, by omega, (wg 0 [] [] hx (le_upd (le_upd (le_upd (le_upd (le_upd (le_top _) (o1 .sc)) (o1 .same)) (o1 .sc)) (o1 .sc)) (o1 .sc)) an), by omega, Go.bits .xor .u32 (Int.fdiv x5 (2 ^ 1)) 3988292384, IntKind.i64.wrap (x6 + 1), h, rfl⟩
     ·refine AW.cond_no rfl c8 (AW.region ?_)
      refine s_move (d := (sc (.int .u32 x5))) rfl (s_shift (v := (.int .u32 (Int.fdiv x5 (2 ^ 1)))) rfl rfl rfl (s_assign (d := (sc (.int .u32 (Int.fdiv x5 (2 ^ 1))))) rfl (AWops.nil (AW.region (s_binI (v := (.int .i64 (IntKind.i64.wrap (x6 + 1)))) rfl rfl rfl (s_move (d := (si (IntKind.i64.wrap (x6 + 1)))) rfl (AWops.nil ?_)))))))
      exact ⟨_, ⟨31, (upd 31 (upd 31 (upd 31 (upd 31 (upd 31 topF 3 (sc (.int .u32 (Int.fdiv x5 (2 ^ 1))))) 6 (ds_ e_u8 a0)) 7 (si (a0.length : Int))) 8 (si x2)) 16 (si (IntKind.i64.wrap (x6 + 1)))), []⟩, by omega, (wg 0 [] [] hx (le_upd (le_upd (le_upd (le_upd (le_upd (le_top _) (o1 .sc)) (o1 .same)) (o1 .sc)) (o1 .sc)) (o1 .sc)) an), by omega, Int.fdiv x5 (2 ^ 1), IntKind.i64.wrap (x6 + 1), h, rfl⟩
    ·refine AW.cond_no rfl c7 (AW.exit (AW.region ?_))
     refine s_binI (v := (.int .i64 (IntKind.i64.wrap (x2 + 1)))) rfl rfl rfl (s_move (d := (si (IntKind.i64.wrap (x2 + 1)))) rfl (AWops.nil ?_))
     exact ⟨_, ⟨31, (upd 31 (upd 31 (upd 31 (upd 31 topF 3 (sc (.int .u32 x5))) 6 (ds_ e_u8 a0)) 7 (si (a0.length : Int))) 8 (si (IntKind.i64.wrap (x2 + 1)))), []⟩, by omega, (wg 0 [] [] hx (le_upd (le_upd (le_upd (le_upd (le_top _) (o1 .sc)) (o1 .same)) (o1 .sc)) (o1 .sc)) an), by omega, x5, IntKind.i64.wrap (x2 + 1), h, rfl⟩
  ·refine AW.cond_no rfl c3 (AW.exit (AW.seq (AW.region ?_)))
   refine s_move (d := (sc (.int .u32 x1))) rfl (s_binI (v := (.int .u32 (Go.bits .xor .u32 x1 4294967295))) rfl rfl rfl (s_convI F.u_120 F.u_3 rfl (s_assign (d := (si (IntKind.i64.wrap (Go.bits .xor .u32 x1 4294967295)))) rfl (AWops.nil (AW.ret ?_)))))
   obtain rfl := Option.some.inj h
   exact ⟨_, rfl, (wg 0 [] [] rfl (le_upd (le_top _) (o1 .sc)) an)⟩
def dossierref04_frame.f (k : Nat) (a0 : List Int) : Option (List Int) := (dossierref04_four.f k (a0.length : Int)).bind fun r1 => (dossierref02_Crc.f k a0).bind fun r2 => (dossierref04_four.f k r2).bind fun r3 => if (decide (r1.length + r3.length ≤ 140737488355328)) = true then (if (decide ((r1 ++ r3).length + a0.length ≤ 140737488355328)) = true then (some ((r1 ++ r3) ++ a0)) else none) else none
theorem dossierref04_frame.meets (k : Nat) (a0 : List Int) (r : (List Int)) (h : dossierref04_frame.f k a0 = some r) : Meets Try.prog 77 [(ds_ e_u8 a0)] [] (D.one (C.own 0 0 r.length 1)) [(ow_ e_u8 r)] := by
 unfold dossierref04_frame.f at h
 refine Meets.of_body (n := 12) Try.func77 rfl rfl (nl rfl) fun x hx => ?_
 replace hx : x.k = 0 := hx
 show AW _ x _ _ ⟨12, fr0 [(ds_ e_u8 a0)], []⟩
 refine AW.seq (AW.region ?_)
 refine s_assign (d := (sc (.slice none 0 0))) rfl (AWops.nil (AW.seq (AW.region ?_)))
 refine s_move (d := (ds_ e_u8 a0)) rfl (s_len (n := a0.length) F.u_22 rfl (.inr ⟨(fun _ _ h => by cases h), ⟨_, rfl⟩⟩) ?_)
 obtain ⟨r1, er1, h⟩ := bnd h
 refine cc [] [(ow_ e_u8 r1)] (D.one (C.own 0 0 r1.length 1)) F.ca_83 rfl rfl (ac (.one .sc) an) an (dossierref04_four.meets _ (a0.length : Int) r1 er1) (s_move (d := (ds_ e_u8 a0)) rfl ?_)
 obtain ⟨r2, er2, h⟩ := bnd h
 refine cc [] [(ow_ e_u8 r1)] (si r2) F.ca_84 rfl rfl (ac (.one .imm) an) an (dossierref02_Crc.meets _ a0 r2 er2) ?_
 obtain ⟨r3, er3, h⟩ := bnd h
 refine cc [] [(ow_ e_u8 r1), (ow_ e_u8 r3)] (D.one (C.own 1 0 r3.length 1)) F.ca_83 rfl rfl (ac (.one .sc) an) an (dossierref04_four.meets _ r2 r3 er3) ?_
 obtain ⟨c4, h⟩ := gdH h
 have dc4 := of_decide_eq_true c4
 refine t_append (xs := r1) (ys := r3) (zs := r1 ++ r3) (H' := [none, (ow_ e_u8 r3), (some (AObj.cells true (rowC e_u8 (r1 ++ r3))))]) F.u_22 F.in_5 rfl e_u8_len (.own rfl rfl) (.own rfl rfl) F.u_22 (by omega) (by omega) rfl rfl (s_move (d := (ds_ e_u8 a0)) rfl ?_)
 obtain ⟨c5, h⟩ := gdH h
 have dc5 := of_decide_eq_true c5
 refine t_append (xs := r1 ++ r3) (ys := a0) (zs := (r1 ++ r3) ++ a0) (H' := [none, (ow_ e_u8 r3), none, (some (AObj.cells true (rowC e_u8 ((r1 ++ r3) ++ a0))))]) F.u_22 F.in_5 rfl e_u8_len (.own rfl rfl) .imm F.u_22 (by omega) (by omega) rfl rfl (s_assign (d := (D.one (C.own 3 0 (((r1 ++ r3) ++ a0).length) 1))) rfl (AWops.nil (AW.ret ?_)))
 obtain rfl := Option.some.inj h
 exact ⟨_, rfl, (wg 0 [3] [] rfl (le_upd (le_top _) (o1 (.own rfl))) (ac (.cells (fun _ => rfl) (all2_row _)) an))⟩
mutual
def dossierref03_Disk_Sync_41.j0 : Nat → Int → Int → Bool → (List dossierref03_File) → Int → (dossierref03_File × Int) → Option (Int × dossierref03_Disk)
 | 0, _, _, _, _, _, _ => none
 | k + 1, x4, x5, x6, x7, x8, r1 => if (x8 == 0) = true then ((dossierref03_Disk_set_67.f k (⟨x7, x4, x5, x6⟩ : dossierref03_Disk) (⟨r1.1.Name, r1.1.B, (r1.1.B.length : Int)⟩ : dossierref03_File)).bind fun r10 => some (x8, r10)) else (some (x8, (⟨x7, x4, x5, x6⟩ : dossierref03_Disk)))
end
def dossierref03_Disk_Sync_41.f (k : Nat) (p0 : dossierref03_Disk) (a1 : ByteArray) : Option (Int × dossierref03_Disk) := (dossierref03_Disk_there.f k p0 a1).bind fun r1 => if (r1.2 == 0) = true then ((dossierref03_Disk_burn.f k p0).bind fun r3 => dossierref03_Disk_Sync_41.j0 k r3.2.Most r3.2.Burns r3.2.Off r3.2.L r3.1 r1) else (dossierref03_Disk_Sync_41.j0 k p0.Most p0.Burns p0.Off p0.L r1.2 r1)
theorem dossierref03_Disk_Sync_41.meets (k : Nat) (p0 : dossierref03_Disk) (a1 : ByteArray) (r : Int × dossierref03_Disk) (h : dossierref03_Disk_Sync_41.f k p0 a1 = some r) : Meets Try.prog 41 [(rf 0 0), (st_ a1)] [(o_dossierref03_Disk_0 false (C.own 1 0 p0.L.length 3) p0), (or_ e_dossierref03_File p0.L)] (si r.1) [(o_dossierref03_Disk_0 false (C.own 2 0 r.2.L.length 3) r.2), none, (or_ e_dossierref03_File r.2.L)] := by
 unfold dossierref03_Disk_Sync_41.f at h
 refine Meets.of_body (n := 27) Try.func41 rfl rfl (nl rfl) fun x hx => ?_
 replace hx : x.k = 2 := hx
 show AW _ x _ _ ⟨27, fr0 [(rf 0 0), (st_ a1)], [(o_dossierref03_Disk_0 false (C.own 1 0 p0.L.length 3) p0), (or_ e_dossierref03_File p0.L)]⟩
 refine AW.weak (st' := ⟨27, (upd 27 (upd 27 topF 0 (rf 0 0)) 1 (st_ a1)), [(o_dossierref03_Disk_0 false (C.own 2 0 p0.L.length 3) p0), none, (or_ e_dossierref03_File p0.L)]⟩) (Weak.genL (kk := 2) [0, 1, 1] [] hx rfl (by decide) rfl rfl rfl rfl (le_upd (le_upd (le_top _) (o1 (.ref rfl))) (o1 .sc)) (ac (qo rfl) (ac (.none _) (ac (.cells id (all2_row _)) an)))) (AW.seq (AW.region ?_))
 refine s_assign (d := (si 0)) rfl (AWops.nil (AW.seq (AW.region ?_)))
 refine s_move (d := (rf 0 0)) rfl (s_move (d := (st_ a1)) rfl ?_)
 obtain ⟨r1, er1, h⟩ := bnd h
 refine cc [0, 2] [(o_dossierref03_Disk_0 false (C.own 2 0 p0.L.length 3) p0), none, (or_ e_dossierref03_File p0.L)] (D.tup [(D.agg (c_dossierref03_File r1.1)), (si r1.2)]) F.ca_68 rfl rfl (ac (.one (.ref rfl)) (ac (.one .sc) an)) (ac (.cells (ac (.own rfl) (ac .sc (ac .sc (ac .sc an))))) (ac (.cells (lend_row _)) an)) (dossierref03_Disk_there.meets _ p0 a1 r1 er1) (s_move (d := (D.tup [(D.agg (c_dossierref03_File r1.1)), (si r1.2)])) rfl (s_extract (d := (D.agg (c_dossierref03_File r1.1))) rfl rfl (s_extract (d := (si r1.2)) rfl rfl (s_alloc (cs := [(ct (⟨#[]⟩ : ByteArray)), (C.p true (.v (.slice none 0 0))), (ci 0)]) F.z_109 rfl rfl (s_store (cs' := (c_dossierref03_File r1.1)) rfl rfl rfl (List.cons_ne_nil _ _) rfl F.sz_109 (nl rfl) rfl ?_)))))
 refine s_assign (d := (si r1.2)) rfl (AWops.nil ?_)
 refine AW.seqJ (fun st => ∃ (x4 : Int) (x5 : Int) (x6 : Bool) (x7 : List dossierref03_File) (x8 : Int), dossierref03_Disk_Sync_41.j0 k x4 x5 x6 x7 x8 r1 = some r ∧ st = ⟨27, (upd 27 (upd 27 (upd 27 topF 0 (rf 0 0)) 5 (rf 2 0)) 6 (si x8)), [(some (AObj.cells false [(C.own 3 0 x7.length 3), (ci x4), (ci x5), (cb x6)])), none, (some (AObj.cells true (c_dossierref03_File r1.1))), (or_ e_dossierref03_File x7)]⟩) ?_ ?_
 ·refine AW.seq (AW.region ?_)
  refine s_move (d := (si r1.2)) rfl (s_binI (v := (.bool (r1.2 == 0))) rfl rfl rfl (AWops.nil ?_))
  rcases itH h with ⟨c2, h⟩ | ⟨c2, h⟩
  ·refine AW.cond_yes rfl c2 (AW.region ?_)
   refine s_move (d := (rf 0 0)) rfl ?_
   obtain ⟨r3, er3, h⟩ := bnd h
   refine cc [0, 2] [(o_dossierref03_Disk_0 false (C.own 2 0 r3.2.L.length 3) r3.2), none, (or_ e_dossierref03_File r3.2.L), (some (AObj.cells true (c_dossierref03_File r1.1)))] (si r3.1) F.ca_65 rfl rfl (ac (.one (.ref rfl)) an) (ac (.cells (ac (.own rfl) (ac .sc (ac .sc (ac .sc an))))) (ac (.cells (lend_row _)) an)) (dossierref03_Disk_burn.meets _ p0 r3 er3) (s_assign (d := (si r3.1)) rfl (AWops.nil ?_))
   exact ⟨⟨27, (upd 27 (upd 27 (upd 27 topF 0 (rf 0 0)) 5 (rf 2 0)) 6 (si r3.1)), [(some (AObj.cells false [(C.own 3 0 r3.2.L.length 3), (ci r3.2.Most), (ci r3.2.Burns), (cb r3.2.Off)])), none, (some (AObj.cells true (c_dossierref03_File r1.1))), (or_ e_dossierref03_File r3.2.L)]⟩, (wg 2 [0, 1, 3, 2] [] hx (le_upd (le_upd (le_upd (le_top _) (o1 (.ref rfl))) (o1 (.ref rfl))) (o1 .sc)) (ac (qo rfl) (ac (.none _) (ac (.cells (fun _ => rfl) (ac .sc (ac .same (ac .sc an)))) (ac (.cells id (all2_row _)) an))))), r3.2.Most, r3.2.Burns, r3.2.Off, r3.2.L, r3.1, h, rfl⟩
  ·refine AW.cond_no rfl c2 (AW.skip ?_)
   exact ⟨⟨27, (upd 27 (upd 27 (upd 27 topF 0 (rf 0 0)) 5 (rf 2 0)) 6 (si r1.2)), [(some (AObj.cells false [(C.own 3 0 p0.L.length 3), (ci p0.Most), (ci p0.Burns), (cb p0.Off)])), none, (some (AObj.cells true (c_dossierref03_File r1.1))), (or_ e_dossierref03_File p0.L)]⟩, (wg 2 [0, 1, 3, 2] [] hx (le_upd (le_upd (le_upd (le_top _) (o1 (.ref rfl))) (o1 (.ref rfl))) (o1 .sc)) (ac (qo rfl) (ac (.none _) (ac (.cells (fun _ => rfl) (ac .sc (ac .same (ac .sc an)))) (ac (.cells id (all2_row _)) an))))), p0.Most, p0.Burns, p0.Off, p0.L, r1.2, h, rfl⟩
 ·rintro st ⟨x4, x5, x6, x7, x8, h, rfl⟩
  cases k with
  | zero => exact absurd h (by simp [dossierref03_Disk_Sync_41.j0])
  | succ qj0 =>
   replace h := (dossierref03_Disk_Sync_41.j0.eq_2 _ _ _ _ _ _ _).symm.trans h
   refine AW.seq (AW.seq (AW.region ?_))
   refine s_move (d := (si x8)) rfl (s_binI (v := (.bool (x8 == 0))) rfl rfl rfl (AWops.nil ?_))
   rcases itH h with ⟨c9, h⟩ | ⟨c9, h⟩
   ·refine AW.cond_yes rfl c9 (AW.seq (AW.region ?_))
    refine s_fieldRef F.fo_109_1 (by decide) rfl (s_load1 (c' := (cl_ e_u8 r1.1.B)) F.ag_22 rfl rfl (s_len (n := r1.1.B.length) F.u_22 rfl (.inr ⟨(fun _ _ h => by cases h), ⟨_, rfl⟩⟩) (s_fieldRef F.fo_109_2 (by decide) rfl (s_store (cs' := [(ct r1.1.Name), (cl_ e_u8 r1.1.B), (ci (r1.1.B.length : Int))]) rfl rfl rfl (List.cons_ne_nil _ _) rfl F.sz_3 (nl rfl) rfl (AWops.nil (AW.region (s_move (d := (rf 0 0)) rfl ?_)))))))
    refine s_loadN (ds := [(ct r1.1.Name), (cl_ e_u8 r1.1.B), (ci (r1.1.B.length : Int))]) F.ag_109 F.sz_109 rfl rfl rfl ?_
    obtain ⟨r10, er10, h⟩ := bnd h
    refine cc [0, 3] [(o_dossierref03_Disk_0 false (C.own 4 0 r10.L.length 3) r10), none, (some (AObj.cells true [(ct r1.1.Name), (cl_ e_u8 r1.1.B), (ci (r1.1.B.length : Int))])), none, (or_ e_dossierref03_File r10.L)] (D.tup []) F.ca_67 rfl rfl (ac (.one (.ref rfl)) (ac (LendT.aggL (ac .sc (ac .imm (ac .sc an)))) an)) (ac (.cells (ac (.own rfl) (ac .sc (ac .sc (ac .sc an))))) (ac (.cells (lend_row _)) an)) (dossierref03_Disk_set_67.meets _ (⟨x7, x4, x5, x6⟩ : dossierref03_Disk) (⟨r1.1.Name, r1.1.B, (r1.1.B.length : Int)⟩ : dossierref03_File) r10 er10) (AWops.nil (AW.seq (AW.region ?_)))
    refine s_move (d := (si x8)) rfl (s_assign (d := (si x8)) rfl (AWops.nil (AW.ret ?_)))
    obtain rfl := Option.some.inj h
    exact ⟨_, rfl, (wg 2 [0, 1, 4] [] rfl (le_upd (le_top _) (o1 .sc)) (ac (qo rfl) (ac (.none _) (ac (.cells id (all2_row _)) an))))⟩
   ·refine AW.cond_no rfl c9 (AW.skip (AW.seq (AW.region ?_)))
    refine s_move (d := (si x8)) rfl (s_assign (d := (si x8)) rfl (AWops.nil (AW.ret ?_)))
    obtain rfl := Option.some.inj h
    exact ⟨_, rfl, (wg 2 [0, 1, 3] [] rfl (le_upd (le_top _) (o1 .sc)) (ac (qo rfl) (ac (.none _) (ac (.cells id (all2_row _)) an))))⟩
mutual
def dossierref03_Disk_Rename_43.j0 : Nat → Int → Int → Bool → (List dossierref03_File) → Int → ByteArray → ByteArray → (dossierref03_File × Int) → Option (Int × dossierref03_Disk)
 | 0, _, _, _, _, _, _, _, _ => none
 | k + 1, x6, x7, x8, x9, x10, a1, a2, r3 => if (x10 == 0) = true then ((dossierref03_Disk_cut_69.f k (⟨x9, x6, x7, x8⟩ : dossierref03_Disk) a1).bind fun r12 => (dossierref03_Disk_set_67.f k r12 (⟨a2, r3.1.B, r3.1.Sure⟩ : dossierref03_File)).bind fun r13 => some (x10, r13)) else (some (x10, (⟨x9, x6, x7, x8⟩ : dossierref03_Disk)))
end
def dossierref03_Disk_Rename_43.f (k : Nat) (p0 : dossierref03_Disk) (a1 : ByteArray) (a2 : ByteArray) : Option (Int × dossierref03_Disk) := (dossierref03_named.f k a2).bind fun r1 => if r1 = true then ((dossierref03_Disk_there.f k p0 a1).bind fun r3 => if (r3.2 == 0) = true then ((dossierref03_Disk_burn.f k p0).bind fun r5 => dossierref03_Disk_Rename_43.j0 k r5.2.Most r5.2.Burns r5.2.Off r5.2.L r5.1 a1 a2 r3) else (dossierref03_Disk_Rename_43.j0 k p0.Most p0.Burns p0.Off p0.L r3.2 a1 a2 r3)) else (some (1, p0))
theorem dossierref03_Disk_Rename_43.meets (k : Nat) (p0 : dossierref03_Disk) (a1 : ByteArray) (a2 : ByteArray) (r : Int × dossierref03_Disk) (h : dossierref03_Disk_Rename_43.f k p0 a1 a2 = some r) : Meets Try.prog 43 [(rf 0 0), (st_ a1), (st_ a2)] [(o_dossierref03_Disk_0 false (C.own 1 0 p0.L.length 3) p0), (or_ e_dossierref03_File p0.L)] (si r.1) [(o_dossierref03_Disk_0 false (C.own 2 0 r.2.L.length 3) r.2), none, (or_ e_dossierref03_File r.2.L)] := by
 unfold dossierref03_Disk_Rename_43.f at h
 refine Meets.of_body (n := 33) Try.func43 rfl rfl (nl rfl) fun x hx => ?_
 replace hx : x.k = 2 := hx
 show AW _ x _ _ ⟨33, fr0 [(rf 0 0), (st_ a1), (st_ a2)], [(o_dossierref03_Disk_0 false (C.own 1 0 p0.L.length 3) p0), (or_ e_dossierref03_File p0.L)]⟩
 refine AW.weak (st' := ⟨33, (upd 33 (upd 33 (upd 33 topF 0 (rf 0 0)) 1 (st_ a1)) 2 (st_ a2)), [(o_dossierref03_Disk_0 false (C.own 2 0 p0.L.length 3) p0), none, (or_ e_dossierref03_File p0.L)]⟩) (Weak.genL (kk := 2) [0, 1, 1] [] hx rfl (by decide) rfl rfl rfl rfl (le_upd (le_upd (le_upd (le_top _) (o1 (.ref rfl))) (o1 .sc)) (o1 .sc)) (ac (qo rfl) (ac (.none _) (ac (.cells id (all2_row _)) an)))) (AW.seq (AW.region ?_))
 refine s_assign (d := (si 0)) rfl (AWops.nil (AW.seq (AW.seq (AW.region ?_))))
 refine s_move (d := (st_ a2)) rfl ?_
 obtain ⟨r1, er1, h⟩ := bnd h
 refine cc [] [(o_dossierref03_Disk_0 false (C.own 2 0 p0.L.length 3) p0), none, (or_ e_dossierref03_File p0.L)] (sb r1) F.ca_63 rfl rfl (ac (.one .sc) an) an (dossierref03_named.meets _ a2 r1 er1) (s_not rfl (AWops.nil ?_))
 rcases itH h with ⟨c2, h⟩ | ⟨c2, h⟩
 ·refine AW.cond_no rfl (by rw [c2] <;> rfl) (AW.skip (AW.seq (AW.region ?_)))
  refine s_move (d := (rf 0 0)) rfl (s_move (d := (st_ a1)) rfl ?_)
  obtain ⟨r3, er3, h⟩ := bnd h
  refine cc [0, 2] [(o_dossierref03_Disk_0 false (C.own 2 0 p0.L.length 3) p0), none, (or_ e_dossierref03_File p0.L)] (D.tup [(D.agg (c_dossierref03_File r3.1)), (si r3.2)]) F.ca_68 rfl rfl (ac (.one (.ref rfl)) (ac (.one .sc) an)) (ac (.cells (ac (.own rfl) (ac .sc (ac .sc (ac .sc an))))) (ac (.cells (lend_row _)) an)) (dossierref03_Disk_there.meets _ p0 a1 r3 er3) (s_move (d := (D.tup [(D.agg (c_dossierref03_File r3.1)), (si r3.2)])) rfl (s_extract (d := (D.agg (c_dossierref03_File r3.1))) rfl rfl (s_extract (d := (si r3.2)) rfl rfl (s_alloc (cs := [(ct (⟨#[]⟩ : ByteArray)), (C.p true (.v (.slice none 0 0))), (ci 0)]) F.z_109 rfl rfl (s_store (cs' := (c_dossierref03_File r3.1)) rfl rfl rfl (List.cons_ne_nil _ _) rfl F.sz_109 (nl rfl) rfl ?_)))))
  refine s_assign (d := (si r3.2)) rfl (AWops.nil ?_)
  refine AW.seqJ (fun st => ∃ (x6 : Int) (x7 : Int) (x8 : Bool) (x9 : List dossierref03_File) (x10 : Int), dossierref03_Disk_Rename_43.j0 k x6 x7 x8 x9 x10 a1 a2 r3 = some r ∧ st = ⟨33, (upd 33 (upd 33 (upd 33 (upd 33 (upd 33 topF 0 (rf 0 0)) 1 (st_ a1)) 2 (st_ a2)) 7 (rf 2 0)) 8 (si x10)), [(some (AObj.cells false [(C.own 3 0 x9.length 3), (ci x6), (ci x7), (cb x8)])), none, (some (AObj.cells true (c_dossierref03_File r3.1))), (or_ e_dossierref03_File x9)]⟩) ?_ ?_
  ·refine AW.seq (AW.region ?_)
   refine s_move (d := (si r3.2)) rfl (s_binI (v := (.bool (r3.2 == 0))) rfl rfl rfl (AWops.nil ?_))
   rcases itH h with ⟨c4, h⟩ | ⟨c4, h⟩
   ·refine AW.cond_yes rfl c4 (AW.region ?_)
    refine s_move (d := (rf 0 0)) rfl ?_
    obtain ⟨r5, er5, h⟩ := bnd h
    refine cc [0, 2] [(o_dossierref03_Disk_0 false (C.own 2 0 r5.2.L.length 3) r5.2), none, (or_ e_dossierref03_File r5.2.L), (some (AObj.cells true (c_dossierref03_File r3.1)))] (si r5.1) F.ca_65 rfl rfl (ac (.one (.ref rfl)) an) (ac (.cells (ac (.own rfl) (ac .sc (ac .sc (ac .sc an))))) (ac (.cells (lend_row _)) an)) (dossierref03_Disk_burn.meets _ p0 r5 er5) (s_assign (d := (si r5.1)) rfl (AWops.nil ?_))
    exact ⟨⟨33, (upd 33 (upd 33 (upd 33 (upd 33 (upd 33 topF 0 (rf 0 0)) 1 (st_ a1)) 2 (st_ a2)) 7 (rf 2 0)) 8 (si r5.1)), [(some (AObj.cells false [(C.own 3 0 r5.2.L.length 3), (ci r5.2.Most), (ci r5.2.Burns), (cb r5.2.Off)])), none, (some (AObj.cells true (c_dossierref03_File r3.1))), (or_ e_dossierref03_File r5.2.L)]⟩, (wg 2 [0, 1, 3, 2] [] hx (le_upd (le_upd (le_upd (le_upd (le_upd (le_top _) (o1 (.ref rfl))) (o1 .sc)) (o1 .sc)) (o1 (.ref rfl))) (o1 .sc)) (ac (qo rfl) (ac (.none _) (ac (.cells (fun _ => rfl) (ac .sc (ac .same (ac .sc an)))) (ac (.cells id (all2_row _)) an))))), r5.2.Most, r5.2.Burns, r5.2.Off, r5.2.L, r5.1, h, rfl⟩
   ·refine AW.cond_no rfl c4 (AW.skip ?_)
    exact ⟨⟨33, (upd 33 (upd 33 (upd 33 (upd 33 (upd 33 topF 0 (rf 0 0)) 1 (st_ a1)) 2 (st_ a2)) 7 (rf 2 0)) 8 (si r3.2)), [(some (AObj.cells false [(C.own 3 0 p0.L.length 3), (ci p0.Most), (ci p0.Burns), (cb p0.Off)])), none, (some (AObj.cells true (c_dossierref03_File r3.1))), (or_ e_dossierref03_File p0.L)]⟩, (wg 2 [0, 1, 3, 2] [] hx (le_upd (le_upd (le_upd (le_upd (le_upd (le_top _) (o1 (.ref rfl))) (o1 .sc)) (o1 .sc)) (o1 (.ref rfl))) (o1 .sc)) (ac (qo rfl) (ac (.none _) (ac (.cells (fun _ => rfl) (ac .sc (ac .same (ac .sc an)))) (ac (.cells id (all2_row _)) an))))), p0.Most, p0.Burns, p0.Off, p0.L, r3.2, h, rfl⟩
  ·rintro st ⟨x6, x7, x8, x9, x10, h, rfl⟩
   cases k with
   | zero => exact absurd h (by simp [dossierref03_Disk_Rename_43.j0])
   | succ qj0 =>
    replace h := (dossierref03_Disk_Rename_43.j0.eq_2 _ _ _ _ _ _ _ _ _).symm.trans h
    refine AW.seq (AW.seq (AW.region ?_))
    refine s_move (d := (si x10)) rfl (s_binI (v := (.bool (x10 == 0))) rfl rfl rfl (AWops.nil ?_))
    rcases itH h with ⟨c11, h⟩ | ⟨c11, h⟩
    ·refine AW.cond_yes rfl c11 (AW.seq (AW.region ?_))
     refine s_move (d := (rf 0 0)) rfl (s_move (d := (st_ a1)) rfl ?_)
     obtain ⟨r12, er12, h⟩ := bnd h
     refine cc [0, 3] [(o_dossierref03_Disk_0 false (C.own 4 0 r12.L.length 3) r12), none, (some (AObj.cells true (c_dossierref03_File r3.1))), none, (or_ e_dossierref03_File r12.L)] (D.tup []) F.ca_69 rfl rfl (ac (.one (.ref rfl)) (ac (.one .sc) an)) (ac (.cells (ac (.own rfl) (ac .sc (ac .sc (ac .sc an))))) (ac (.cells (lend_row _)) an)) (dossierref03_Disk_cut_69.meets _ (⟨x9, x6, x7, x8⟩ : dossierref03_Disk) a1 r12 er12) (AWops.nil (AW.seq (AW.region ?_)))
     refine s_move (d := (st_ a2)) rfl (s_fieldRef F.fo_109_0 (by decide) rfl (s_store (cs' := [(ct a2), (cl_ e_u8 r3.1.B), (ci r3.1.Sure)]) rfl rfl rfl (List.cons_ne_nil _ _) rfl F.sz_9 (nl rfl) rfl (AWops.nil (AW.region (s_move (d := (rf 0 0)) rfl (s_loadN (ds := [(ct a2), (cl_ e_u8 r3.1.B), (ci r3.1.Sure)]) F.ag_109 F.sz_109 rfl rfl rfl ?_))))))
     obtain ⟨r13, er13, h⟩ := bnd h
     refine cc [0, 4] [(o_dossierref03_Disk_0 false (C.own 5 0 r13.L.length 3) r13), none, (some (AObj.cells true [(ct a2), (cl_ e_u8 r3.1.B), (ci r3.1.Sure)])), none, none, (or_ e_dossierref03_File r13.L)] (D.tup []) F.ca_67 rfl rfl (ac (.one (.ref rfl)) (ac (LendT.aggL (ac .sc (ac .imm (ac .sc an)))) an)) (ac (.cells (ac (.own rfl) (ac .sc (ac .sc (ac .sc an))))) (ac (.cells (lend_row _)) an)) (dossierref03_Disk_set_67.meets _ r12 (⟨a2, r3.1.B, r3.1.Sure⟩ : dossierref03_File) r13 er13) (AWops.nil (AW.seq (AW.region ?_)))
     refine s_move (d := (si x10)) rfl (s_assign (d := (si x10)) rfl (AWops.nil (AW.ret ?_)))
     obtain rfl := Option.some.inj h
     exact ⟨_, rfl, (wg 2 [0, 1, 5] [] rfl (le_upd (le_top _) (o1 .sc)) (ac (qo rfl) (ac (.none _) (ac (.cells id (all2_row _)) an))))⟩
    ·refine AW.cond_no rfl c11 (AW.skip (AW.seq (AW.region ?_)))
     refine s_move (d := (si x10)) rfl (s_assign (d := (si x10)) rfl (AWops.nil (AW.ret ?_)))
     obtain rfl := Option.some.inj h
     exact ⟨_, rfl, (wg 2 [0, 1, 3] [] rfl (le_upd (le_top _) (o1 .sc)) (ac (qo rfl) (ac (.none _) (ac (.cells id (all2_row _)) an))))⟩
 ·refine AW.cond_yes rfl (by rw [c2] <;> rfl) (AW.seq (AW.region ?_))
  refine s_assign (d := (si 1)) rfl (AWops.nil (AW.ret ?_))
  obtain rfl := Option.some.inj h
  exact ⟨_, rfl, (wg 2 [0, 1, 2] [] rfl (le_upd (le_top _) (o1 .sc)) (ac (qo rfl) (ac (.none _) (ac (.cells id (all2_row _)) an))))⟩
def dossierref04_fresh_71.f (k : Nat) (p0 : dossierref03_Disk) (a1 : List Int) : Option (Int × dossierref03_Disk) := (dossierref04_frame.f k a1).bind fun r1 => (dossierref03_Disk_Append_40.f k p0 (⟨#[106, 111, 117, 114, 110, 97, 108, 46, 110, 101, 119]⟩ : ByteArray) r1).bind fun r2 => if (r2.1 != 0) = true then (some (r2.1, r2.2)) else ((dossierref03_Disk_Sync_41.f k r2.2 (⟨#[106, 111, 117, 114, 110, 97, 108, 46, 110, 101, 119]⟩ : ByteArray)).bind fun r4 => if (r4.1 != 0) = true then (some (r4.1, r4.2)) else ((dossierref03_Disk_Rename_43.f k r4.2 (⟨#[106, 111, 117, 114, 110, 97, 108, 46, 110, 101, 119]⟩ : ByteArray) (⟨#[106, 111, 117, 114, 110, 97, 108]⟩ : ByteArray)).bind fun r6 => some (r6.1, r6.2)))
theorem dossierref04_fresh_71.meets (k : Nat) (p0 : dossierref03_Disk) (a1 : List Int) (r : Int × dossierref03_Disk) (h : dossierref04_fresh_71.f k p0 a1 = some r) : Meets Try.prog 71 [(rf 0 0), (ds_ e_u8 a1)] [(o_dossierref03_Disk_0 false (C.own 1 0 p0.L.length 3) p0), (or_ e_dossierref03_File p0.L)] (si r.1) [(o_dossierref03_Disk_0 false (C.own 2 0 r.2.L.length 3) r.2), none, (or_ e_dossierref03_File r.2.L)] := by
 unfold dossierref04_fresh_71.f at h
 refine Meets.of_body (n := 21) Try.func71 rfl rfl (nl rfl) fun x hx => ?_
 replace hx : x.k = 2 := hx
 show AW _ x _ _ ⟨21, fr0 [(rf 0 0), (ds_ e_u8 a1)], [(o_dossierref03_Disk_0 false (C.own 1 0 p0.L.length 3) p0), (or_ e_dossierref03_File p0.L)]⟩
 refine AW.weak (st' := ⟨21, (upd 21 (upd 21 topF 0 (rf 0 0)) 1 (ds_ e_u8 a1)), [(o_dossierref03_Disk_0 false (C.own 2 0 p0.L.length 3) p0), none, (or_ e_dossierref03_File p0.L)]⟩) (Weak.genL (kk := 2) [0, 1, 1] [] hx rfl (by decide) rfl rfl rfl rfl (le_upd (le_upd (le_top _) (o1 (.ref rfl))) (o1 .same)) (ac (qo rfl) (ac (.none _) (ac (.cells id (all2_row _)) an)))) (AW.seq (AW.region ?_))
 refine s_assign (d := (si 0)) rfl (AWops.nil (AW.seq (AW.seq (AW.region ?_))))
 refine s_move (d := (rf 0 0)) rfl (s_move (d := (ds_ e_u8 a1)) rfl ?_)
 obtain ⟨r1, er1, h⟩ := bnd h
 refine cc [] [(o_dossierref03_Disk_0 false (C.own 2 0 p0.L.length 3) p0), none, (or_ e_dossierref03_File p0.L), (ow_ e_u8 r1)] (D.one (C.own 3 0 r1.length 1)) F.ca_77 rfl rfl (ac (.one .imm) an) an (dossierref04_frame.meets _ a1 r1 er1) ?_
 obtain ⟨r2, er2, h⟩ := bnd h
 refine AWops.weak (st' := ⟨21, (upd 21 (upd 21 (upd 21 (upd 21 (upd 21 (upd 21 topF 0 (rf 0 0)) 1 (ds_ e_u8 a1)) 4 (si 0)) 7 (rf 0 0)) 8 (ds_ e_u8 a1)) 9 (ds_ e_u8 r1)), [(o_dossierref03_Disk_0 false (C.own 2 0 p0.L.length 3) p0), none, (or_ e_dossierref03_File p0.L)]⟩) (wg 2 [0, 1, 2] [3] hx (le_upd (le_upd (le_upd (le_upd (le_upd (le_upd (le_top _) (o1 (.ref rfl))) (o1 .same)) (o1 .sc)) (o1 (.ref rfl))) (o1 .same)) (o1 (CLe.frz e_u8_len rfl rfl rfl))) (ac (qo rfl) (ac (.none _) (ac (.cells id (all2_row _)) an)))) ?_
 refine cc [0, 2] [(o_dossierref03_Disk_0 false (C.own 3 0 r2.2.L.length 3) r2.2), none, none, (or_ e_dossierref03_File r2.2.L)] (si r2.1) F.ca_40 rfl rfl (ac (.one (.ref rfl)) (ac (.one .sc) (ac (.one .imm) an))) (ac (.cells (ac (.own rfl) (ac .sc (ac .sc (ac .sc an))))) (ac (.cells (lend_row _)) an)) (dossierref03_Disk_Append_40.meets _ p0 (⟨#[106, 111, 117, 114, 110, 97, 108, 46, 110, 101, 119]⟩ : ByteArray) r1 r2 er2) (s_assign (d := (si r2.1)) rfl (AWops.nil (AW.seq (AW.region (s_move (d := (si r2.1)) rfl (s_binI (v := (.bool (r2.1 != 0))) rfl rfl rfl (AWops.nil ?_)))))))
 rcases itH h with ⟨c3, h⟩ | ⟨c3, h⟩
 ·refine AW.cond_yes rfl c3 (AW.seq (AW.region ?_))
  refine s_move (d := (si r2.1)) rfl (s_assign (d := (si r2.1)) rfl (AWops.nil (AW.ret ?_)))
  obtain rfl := Option.some.inj h
  exact ⟨_, rfl, (wg 2 [0, 1, 3] [] rfl (le_upd (le_top _) (o1 .sc)) (ac (qo rfl) (ac (.none _) (ac (.cells id (all2_row _)) an))))⟩
 ·refine AW.cond_no rfl c3 (AW.skip (AW.seq (AW.seq (AW.region ?_))))
  refine s_move (d := (rf 0 0)) rfl ?_
  obtain ⟨r4, er4, h⟩ := bnd h
  refine cc [0, 3] [(o_dossierref03_Disk_0 false (C.own 4 0 r4.2.L.length 3) r4.2), none, none, none, (or_ e_dossierref03_File r4.2.L)] (si r4.1) F.ca_41 rfl rfl (ac (.one (.ref rfl)) (ac (.one .sc) an)) (ac (.cells (ac (.own rfl) (ac .sc (ac .sc (ac .sc an))))) (ac (.cells (lend_row _)) an)) (dossierref03_Disk_Sync_41.meets _ r2.2 (⟨#[106, 111, 117, 114, 110, 97, 108, 46, 110, 101, 119]⟩ : ByteArray) r4 er4) (s_assign (d := (si r4.1)) rfl (AWops.nil (AW.seq (AW.region (s_move (d := (si r4.1)) rfl (s_binI (v := (.bool (r4.1 != 0))) rfl rfl rfl (AWops.nil ?_)))))))
  rcases itH h with ⟨c5, h⟩ | ⟨c5, h⟩
  ·refine AW.cond_yes rfl c5 (AW.seq (AW.region ?_))
   refine s_move (d := (si r4.1)) rfl (s_assign (d := (si r4.1)) rfl (AWops.nil (AW.ret ?_)))
   obtain rfl := Option.some.inj h
   exact ⟨_, rfl, (wg 2 [0, 1, 4] [] rfl (le_upd (le_top _) (o1 .sc)) (ac (qo rfl) (ac (.none _) (ac (.cells id (all2_row _)) an))))⟩
  ·refine AW.cond_no rfl c5 (AW.skip (AW.seq (AW.region ?_)))
   refine s_move (d := (rf 0 0)) rfl ?_
   obtain ⟨r6, er6, h⟩ := bnd h
   refine cc [0, 4] [(o_dossierref03_Disk_0 false (C.own 5 0 r6.2.L.length 3) r6.2), none, none, none, none, (or_ e_dossierref03_File r6.2.L)] (si r6.1) F.ca_43 rfl rfl (ac (.one (.ref rfl)) (ac (.one .sc) (ac (.one .sc) an))) (ac (.cells (ac (.own rfl) (ac .sc (ac .sc (ac .sc an))))) (ac (.cells (lend_row _)) an)) (dossierref03_Disk_Rename_43.meets _ r4.2 (⟨#[106, 111, 117, 114, 110, 97, 108, 46, 110, 101, 119]⟩ : ByteArray) (⟨#[106, 111, 117, 114, 110, 97, 108]⟩ : ByteArray) r6 er6) (s_assign (d := (si r6.1)) rfl (AWops.nil (AW.ret ?_)))
   obtain rfl := Option.some.inj h
   exact ⟨_, rfl, (wg 2 [0, 1, 5] [] rfl (le_upd (le_top _) (o1 .sc)) (ac (qo rfl) (ac (.none _) (ac (.cells id (all2_row _)) an))))⟩
mutual
def dossierref04_frames.l0 : Nat → (List (List Int)) → Int → (List Int) → Option ((List (List Int)) × Int)
 | 0, _, _, _ => none
 | k + 1, x1, x2, a0 => if (decide ((IntKind.i64.wrap ((a0.length : Int) - x2)) ≥ 8)) = true then ((rd a0 x2).bind fun v4 => (rd a0 (IntKind.i64.wrap (x2 + 1))).bind fun v5 => (rd a0 (IntKind.i64.wrap (x2 + 2))).bind fun v6 => (rd a0 (IntKind.i64.wrap (x2 + 3))).bind fun v7 => if (decide ((W1 v4 v5 v6 v7) > (IntKind.i64.wrap ((IntKind.i64.wrap ((a0.length : Int) - x2)) - 8)))) = true then (some (x1, x2)) else (if (decide (0 ≤ (IntKind.i64.wrap (x2 + 8)) ∧ (IntKind.i64.wrap (x2 + 8)) ≤ (IntKind.i64.wrap ((IntKind.i64.wrap (x2 + 8)) + (W1 v4 v5 v6 v7))) ∧ (IntKind.i64.wrap ((IntKind.i64.wrap (x2 + 8)) + (W1 v4 v5 v6 v7))) ≤ (a0.length : Int))) = true then ((dossierref04_frame.f k (sub a0 (IntKind.i64.wrap (x2 + 8)) (IntKind.i64.wrap ((IntKind.i64.wrap (x2 + 8)) + (W1 v4 v5 v6 v7))))).bind fun r10 => if (decide (0 ≤ x2 ∧ x2 ≤ (IntKind.i64.wrap ((IntKind.i64.wrap (x2 + 8)) + (W1 v4 v5 v6 v7))) ∧ (IntKind.i64.wrap ((IntKind.i64.wrap (x2 + 8)) + (W1 v4 v5 v6 v7))) ≤ (a0.length : Int))) = true then (if ((ofNums r10).toList == (ofNums (sub a0 x2 (IntKind.i64.wrap ((IntKind.i64.wrap (x2 + 8)) + (W1 v4 v5 v6 v7))))).toList) = true then (if (decide (([] : List Int).length + (sub a0 (IntKind.i64.wrap (x2 + 8)) (IntKind.i64.wrap ((IntKind.i64.wrap (x2 + 8)) + (W1 v4 v5 v6 v7)))).length ≤ 140737488355328)) = true then (if (decide (x1.length + ([sub a0 (IntKind.i64.wrap (x2 + 8)) (IntKind.i64.wrap ((IntKind.i64.wrap (x2 + 8)) + (W1 v4 v5 v6 v7)))] : List (List Int)).length ≤ 5864062014805)) = true then (dossierref04_frames.l0 k (x1 ++ ([sub a0 (IntKind.i64.wrap (x2 + 8)) (IntKind.i64.wrap ((IntKind.i64.wrap (x2 + 8)) + (W1 v4 v5 v6 v7)))] : List (List Int))) (IntKind.i64.wrap (x2 + (IntKind.i64.wrap (8 + (W1 v4 v5 v6 v7))))) a0) else none) else none) else (some (x1, x2))) else none) else none)) else (some (x1, x2))
end
def dossierref04_frames.f (k : Nat) (a0 : List Int) : Option ((List (List Int)) × Int) := dossierref04_frames.l0 k ([] : List (List Int)) 0 a0
theorem dossierref04_frames.meets (k : Nat) (a0 : List Int) (r : (List (List Int)) × Int) (h : dossierref04_frames.f k a0 = some r) : Meets Try.prog 72 [(ds_ e_u8 a0)] [] (D.tup [(D.one (C.own 0 0 r.1.length 1)), (si r.2)]) [(some (AObj.cells true (rowC (e_sl e_u8) r.1)))] := by
 unfold dossierref04_frames.f at h
 refine Meets.of_body (n := 88) Try.func72 rfl rfl (nl rfl) fun x hx => ?_
 replace hx : x.k = 0 := hx
 show AW _ x _ _ ⟨88, fr0 [(ds_ e_u8 a0)], []⟩
 refine AW.seq (AW.region ?_)
 refine s_assign (d := (sc (.slice none 0 0))) rfl (s_assign (d := (si 0)) rfl (AWops.nil (AW.seq (AW.region (s_assign (d := (sc (.slice none 0 0))) rfl (AWops.nil (AW.seq (AW.region (s_assign (d := (si 0)) rfl (AWops.nil (AW.seq (AW.block ?_))))))))))))
 refine AW.loopw (st0 := ⟨88, (upd 88 (upd 88 (upd 88 topF 0 (ds_ e_u8 a0)) 4 (D.one (C.own 0 0 ([] : List (List Int)).length 1))) 5 (si 0)), [(some (AObj.cells true (rowC (e_sl e_u8) ([] : List (List Int)))))]⟩) (fun kv st => kv ≤ k ∧ ∃ (x1 : List (List Int)) (x2 : Int), dossierref04_frames.l0 kv x1 x2 a0 = some r ∧ st = ⟨88, (upd 88 (upd 88 (upd 88 topF 0 (ds_ e_u8 a0)) 4 (D.one (C.own 0 0 x1.length 1))) 5 (si x2)), [(some (AObj.cells true (rowC (e_sl e_u8) x1)))]⟩) (k := k) (Weak.trans (Weak.nil (sz := 1) (i := 4) rfl) (wg 0 [0] [] hx (le_upd (le_upd (le_upd (le_top _) (o1 .same)) (o1 (.own rfl))) (o1 .sc)) (ac (.cells (fun _ => rfl) an) an))) ⟨Nat.le_refl _, ([] : List (List Int)), 0, h, rfl⟩ ?_
 rintro ql0 st ⟨hkl0, x1, x2, h, rfl⟩
 cases ql0 with
 | zero => exact absurd h (by simp [dossierref04_frames.l0])
 | succ ql0 =>
  replace h := (dossierref04_frames.l0.eq_2 _ _ _ _).symm.trans h
  refine AW.seq (AW.seq (AW.region ?_))
  refine s_move (d := (ds_ e_u8 a0)) rfl (s_len (n := a0.length) F.u_22 rfl (.inr ⟨(fun _ _ h => by cases h), ⟨_, rfl⟩⟩) (s_move (d := (si x2)) rfl (s_binI (v := (.int .i64 (IntKind.i64.wrap ((a0.length : Int) - x2)))) rfl rfl rfl (s_binI (v := (.bool (decide ((IntKind.i64.wrap ((a0.length : Int) - x2)) ≥ 8)))) rfl rfl rfl (AWops.nil ?_)))))
  rcases itH h with ⟨c3, h⟩ | ⟨c3, h⟩
  ·refine AW.cond_yes rfl c3 (AW.skip (AW.block (AW.seq ?_)))
   refine AW.weak (st' := ⟨88, (upd 88 (upd 88 (upd 88 topF 0 (ds_ e_u8 a0)) 4 (D.one (C.own 0 0 x1.length 1))) 5 (si x2)), [(some (AObj.cells true (rowC (e_sl e_u8) x1)))]⟩) (wg 0 [0] [] hx (le_upd (le_upd (le_upd (le_top _) (o1 .same)) (o1 (.own rfl))) (o1 .sc)) (ac (.cells (fun _ => rfl) (all2_row _)) an)) ?_
   obtain ⟨v4, ev4, h⟩ := bnd h
   obtain ⟨pv4, qv4, gv4⟩ := rd_some ev4
   obtain ⟨v5, ev5, h⟩ := bnd h
   obtain ⟨pv5, qv5, gv5⟩ := rd_some ev5
   obtain ⟨v6, ev6, h⟩ := bnd h
   obtain ⟨pv6, qv6, gv6⟩ := rd_some ev6
   obtain ⟨v7, ev7, h⟩ := bnd h
   obtain ⟨pv7, qv7, gv7⟩ := rd_some ev7
   refine AW.draw (n := 88) (L := 1) [(ft 0 12 (ds_ e_u8 a0) [(0, (ds_ e_u8 a0))]), (ft 1 13 (si x2) [(5, (si x2))]), (ft 2 14 (D.one (C.peek false [P.v (.int .u8 v4)])) [(12, (ds_ e_u8 a0)), (13, (si x2))]), (ft 3 15 (sc (.int .u8 v4)) [(14, (D.one (C.peek false [P.v (.int .u8 v4)])))]), (ft 4 16 (si (IntKind.i64.wrap v4)) [(15, (sc (.int .u8 v4)))]), (ft 5 17 (si (IntKind.i64.wrap ((IntKind.i64.wrap v4) * 2 ^ 24))) [(16, (si (IntKind.i64.wrap v4)))]), (ft 6 18 (ds_ e_u8 a0) [(0, (ds_ e_u8 a0))]), (ft 7 19 (si x2) [(5, (si x2))]), (ft 8 20 (si (IntKind.i64.wrap (x2 + 1))) [(19, (si x2))]), (ft 9 21 (D.one (C.peek false [P.v (.int .u8 v5)])) [(18, (ds_ e_u8 a0)), (20, (si (IntKind.i64.wrap (x2 + 1))))]), (ft 10 22 (sc (.int .u8 v5)) [(21, (D.one (C.peek false [P.v (.int .u8 v5)])))]), (ft 11 23 (si (IntKind.i64.wrap v5)) [(22, (sc (.int .u8 v5)))]), (ft 12 24 (si (IntKind.i64.wrap ((IntKind.i64.wrap v5) * 2 ^ 16))) [(23, (si (IntKind.i64.wrap v5)))]), (ft 13 25 (si (IntKind.i64.wrap ((IntKind.i64.wrap ((IntKind.i64.wrap v4) * 2 ^ 24)) + (IntKind.i64.wrap ((IntKind.i64.wrap v5) * 2 ^ 16))))) [(17, (si (IntKind.i64.wrap ((IntKind.i64.wrap v4) * 2 ^ 24)))), (24, (si (IntKind.i64.wrap ((IntKind.i64.wrap v5) * 2 ^ 16))))]), (ft 14 26 (ds_ e_u8 a0) [(0, (ds_ e_u8 a0))]), (ft 15 27 (si x2) [(5, (si x2))]), (ft 16 28 (si (IntKind.i64.wrap (x2 + 2))) [(27, (si x2))]), (ft 17 29 (D.one (C.peek false [P.v (.int .u8 v6)])) [(26, (ds_ e_u8 a0)), (28, (si (IntKind.i64.wrap (x2 + 2))))]), (ft 18 30 (sc (.int .u8 v6)) [(29, (D.one (C.peek false [P.v (.int .u8 v6)])))]), (ft 19 31 (si (IntKind.i64.wrap v6)) [(30, (sc (.int .u8 v6)))]), (ft 20 32 (si (IntKind.i64.wrap ((IntKind.i64.wrap v6) * 2 ^ 8))) [(31, (si (IntKind.i64.wrap v6)))]), (ft 21 33 (si (IntKind.i64.wrap ((IntKind.i64.wrap ((IntKind.i64.wrap ((IntKind.i64.wrap v4) * 2 ^ 24)) + (IntKind.i64.wrap ((IntKind.i64.wrap v5) * 2 ^ 16)))) + (IntKind.i64.wrap ((IntKind.i64.wrap v6) * 2 ^ 8))))) [(25, (si (IntKind.i64.wrap ((IntKind.i64.wrap ((IntKind.i64.wrap v4) * 2 ^ 24)) + (IntKind.i64.wrap ((IntKind.i64.wrap v5) * 2 ^ 16)))))), (32, (si (IntKind.i64.wrap ((IntKind.i64.wrap v6) * 2 ^ 8))))]), (ft 22 34 (ds_ e_u8 a0) [(0, (ds_ e_u8 a0))]), (ft 23 35 (si x2) [(5, (si x2))]), (ft 24 36 (si (IntKind.i64.wrap (x2 + 3))) [(35, (si x2))]), (ft 25 37 (D.one (C.peek false [P.v (.int .u8 v7)])) [(34, (ds_ e_u8 a0)), (36, (si (IntKind.i64.wrap (x2 + 3))))]), (ft 26 38 (sc (.int .u8 v7)) [(37, (D.one (C.peek false [P.v (.int .u8 v7)])))]), (ft 27 39 (si (IntKind.i64.wrap v7)) [(38, (sc (.int .u8 v7)))]), (ft 28 40 (si (W1 v4 v5 v6 v7)) [(33, (si (IntKind.i64.wrap ((IntKind.i64.wrap ((IntKind.i64.wrap ((IntKind.i64.wrap v4) * 2 ^ 24)) + (IntKind.i64.wrap ((IntKind.i64.wrap v5) * 2 ^ 16)))) + (IntKind.i64.wrap ((IntKind.i64.wrap v6) * 2 ^ 8)))))), (39, (si (IntKind.i64.wrap v7)))]), (ft 29 6 (si (W1 v4 v5 v6 v7)) [(40, (si (W1 v4 v5 v6 v7)))])] [[], [], [0, 1], [0, 1, 2], [0, 1, 2, 3], (.range 5), [], [], [7], [6, 7, 8], [6, 7, 8, 9], [6, 7, 8, 9, 10], [6, 7, 8, 9, 10, 11], (.range 13), [], [], [15], [14, 15, 16], [14, 15, 16, 17], [14, 15, 16, 17, 18], [14, 15, 16, 17, 18, 19], (.range 21), [], [], [23], [22, 23, 24], [22, 23, 24, 25], [22, 23, 24, 25, 26], (.range 28), (.range 29)] (nl rfl) [0, 0, 1, 2, 3, 4, 0, 0, 1, 2, 3, 4, 5, 6, 0, 0, 1, 2, 3, 4, 5, 7, 0, 0, 1, 2, 3, 4, 8, 9] rfl (TK := []) rfl AllK.nil' (by repeat (first | refine fC ⟨?_, ?_⟩ ?_ | refine sC rfl ?_ | refine hC rfl ?_ | trivial)) ?_ ?_
   ·refine y8 ?_ ?_ ?_ ?_ ?_ ?_ ?_ ?_ (y8 ?_ ?_ ?_ ?_ ?_ ?_ ?_ ?_ (y8 ?_ ?_ ?_ ?_ ?_ ?_ ?_ ?_ (y4 ?_ ?_ ?_ ?_ (y2 ?_ ?_ yN))))
    ·intro K _ f w u k
     show Wp K ⟨88, (upd 88 f 0 (ds_ e_u8 a0)), _⟩
     refine s_move (d := (ds_ e_u8 a0)) rfl k
    ·intro K _ f w u k
     show Wp K ⟨88, (upd 88 f 5 (si x2)), _⟩
     refine s_move (d := (si x2)) rfl k
    ·intro K _ f w u k
     show Wp K ⟨88, (upd 88 (upd 88 f 13 (si x2)) 12 (ds_ e_u8 a0)), [_]⟩
     refine s_indexImm (ps := [P.v (.int .u8 v4)]) F.u_22 F.sz_5 rfl rfl pv4 qv4 (flat_at e_u8_len gv4 (e_u8_eq v4)) k
    ·intro K _ f w u k
     show Wp K ⟨88, (upd 88 f 14 (D.one (C.peek false [P.v (.int .u8 v4)]))), [_]⟩
     refine s_load1 (c' := (C.p true (.v (.int .u8 v4)))) F.ag_5 rfl rfl k
    ·intro K _ f w u k
     show Wp K ⟨88, (upd 88 f 15 (sc (.int .u8 v4))), [_]⟩
     refine s_convI F.u_5 F.u_3 rfl k
    ·intro K _ f w u k
     show Wp K ⟨88, (upd 88 f 16 (si (IntKind.i64.wrap v4))), [_]⟩
     refine s_shift (v := (.int .i64 (IntKind.i64.wrap ((IntKind.i64.wrap v4) * 2 ^ 24)))) rfl rfl rfl k
    ·intro K _ f w u k
     show Wp K ⟨88, (upd 88 f 0 (ds_ e_u8 a0)), _⟩
     refine s_move (d := (ds_ e_u8 a0)) rfl k
    ·intro K _ f w u k
     show Wp K ⟨88, (upd 88 f 5 (si x2)), _⟩
     refine s_move (d := (si x2)) rfl k
    ·intro K _ f w u k
     show Wp K ⟨88, (upd 88 f 19 (si x2)), _⟩
     refine s_binI (v := (.int .i64 (IntKind.i64.wrap (x2 + 1)))) rfl rfl rfl k
    ·intro K _ f w u k
     show Wp K ⟨88, (upd 88 (upd 88 f 20 (si (IntKind.i64.wrap (x2 + 1)))) 18 (ds_ e_u8 a0)), [_]⟩
     refine s_indexImm (ps := [P.v (.int .u8 v5)]) F.u_22 F.sz_5 rfl rfl pv5 qv5 (flat_at e_u8_len gv5 (e_u8_eq v5)) k
    ·intro K _ f w u k
     show Wp K ⟨88, (upd 88 f 21 (D.one (C.peek false [P.v (.int .u8 v5)]))), [_]⟩
     refine s_load1 (c' := (C.p true (.v (.int .u8 v5)))) F.ag_5 rfl rfl k
    ·intro K _ f w u k
     show Wp K ⟨88, (upd 88 f 22 (sc (.int .u8 v5))), [_]⟩
     refine s_convI F.u_5 F.u_3 rfl k
    ·intro K _ f w u k
     show Wp K ⟨88, (upd 88 f 23 (si (IntKind.i64.wrap v5))), [_]⟩
     refine s_shift (v := (.int .i64 (IntKind.i64.wrap ((IntKind.i64.wrap v5) * 2 ^ 16)))) rfl rfl rfl k
    ·intro K _ f w u k
     show Wp K ⟨88, (upd 88 (upd 88 f 24 (si (IntKind.i64.wrap ((IntKind.i64.wrap v5) * 2 ^ 16)))) 17 (si (IntKind.i64.wrap ((IntKind.i64.wrap v4) * 2 ^ 24)))), _⟩
     refine s_binI (v := (.int .i64 (IntKind.i64.wrap ((IntKind.i64.wrap ((IntKind.i64.wrap v4) * 2 ^ 24)) + (IntKind.i64.wrap ((IntKind.i64.wrap v5) * 2 ^ 16)))))) rfl rfl rfl k
    ·intro K _ f w u k
     show Wp K ⟨88, (upd 88 f 0 (ds_ e_u8 a0)), _⟩
     refine s_move (d := (ds_ e_u8 a0)) rfl k
    ·intro K _ f w u k
     show Wp K ⟨88, (upd 88 f 5 (si x2)), _⟩
     refine s_move (d := (si x2)) rfl k
    ·intro K _ f w u k
     show Wp K ⟨88, (upd 88 f 27 (si x2)), _⟩
     refine s_binI (v := (.int .i64 (IntKind.i64.wrap (x2 + 2)))) rfl rfl rfl k
    ·intro K _ f w u k
     show Wp K ⟨88, (upd 88 (upd 88 f 28 (si (IntKind.i64.wrap (x2 + 2)))) 26 (ds_ e_u8 a0)), [_]⟩
     refine s_indexImm (ps := [P.v (.int .u8 v6)]) F.u_22 F.sz_5 rfl rfl pv6 qv6 (flat_at e_u8_len gv6 (e_u8_eq v6)) k
    ·intro K _ f w u k
     show Wp K ⟨88, (upd 88 f 29 (D.one (C.peek false [P.v (.int .u8 v6)]))), [_]⟩
     refine s_load1 (c' := (C.p true (.v (.int .u8 v6)))) F.ag_5 rfl rfl k
    ·intro K _ f w u k
     show Wp K ⟨88, (upd 88 f 30 (sc (.int .u8 v6))), [_]⟩
     refine s_convI F.u_5 F.u_3 rfl k
    ·intro K _ f w u k
     show Wp K ⟨88, (upd 88 f 31 (si (IntKind.i64.wrap v6))), [_]⟩
     refine s_shift (v := (.int .i64 (IntKind.i64.wrap ((IntKind.i64.wrap v6) * 2 ^ 8)))) rfl rfl rfl k
    ·intro K _ f w u k
     show Wp K ⟨88, (upd 88 (upd 88 f 32 (si (IntKind.i64.wrap ((IntKind.i64.wrap v6) * 2 ^ 8)))) 25 (si (IntKind.i64.wrap ((IntKind.i64.wrap ((IntKind.i64.wrap v4) * 2 ^ 24)) + (IntKind.i64.wrap ((IntKind.i64.wrap v5) * 2 ^ 16)))))), _⟩
     refine s_binI (v := (.int .i64 (IntKind.i64.wrap ((IntKind.i64.wrap ((IntKind.i64.wrap ((IntKind.i64.wrap v4) * 2 ^ 24)) + (IntKind.i64.wrap ((IntKind.i64.wrap v5) * 2 ^ 16)))) + (IntKind.i64.wrap ((IntKind.i64.wrap v6) * 2 ^ 8)))))) rfl rfl rfl k
    ·intro K _ f w u k
     show Wp K ⟨88, (upd 88 f 0 (ds_ e_u8 a0)), _⟩
     refine s_move (d := (ds_ e_u8 a0)) rfl k
    ·intro K _ f w u k
     show Wp K ⟨88, (upd 88 f 5 (si x2)), _⟩
     refine s_move (d := (si x2)) rfl k
    ·intro K _ f w u k
     show Wp K ⟨88, (upd 88 f 35 (si x2)), _⟩
     refine s_binI (v := (.int .i64 (IntKind.i64.wrap (x2 + 3)))) rfl rfl rfl k
    ·intro K _ f w u k
     show Wp K ⟨88, (upd 88 (upd 88 f 36 (si (IntKind.i64.wrap (x2 + 3)))) 34 (ds_ e_u8 a0)), [_]⟩
     refine s_indexImm (ps := [P.v (.int .u8 v7)]) F.u_22 F.sz_5 rfl rfl pv7 qv7 (flat_at e_u8_len gv7 (e_u8_eq v7)) k
    ·intro K _ f w u k
     show Wp K ⟨88, (upd 88 f 37 (D.one (C.peek false [P.v (.int .u8 v7)]))), [_]⟩
     refine s_load1 (c' := (C.p true (.v (.int .u8 v7)))) F.ag_5 rfl rfl k
    ·intro K _ f w u k
     show Wp K ⟨88, (upd 88 f 38 (sc (.int .u8 v7))), [_]⟩
     refine s_convI F.u_5 F.u_3 rfl k
    ·intro K _ f w u k
     show Wp K ⟨88, (upd 88 (upd 88 f 39 (si (IntKind.i64.wrap v7))) 33 (si (IntKind.i64.wrap ((IntKind.i64.wrap ((IntKind.i64.wrap ((IntKind.i64.wrap v4) * 2 ^ 24)) + (IntKind.i64.wrap ((IntKind.i64.wrap v5) * 2 ^ 16)))) + (IntKind.i64.wrap ((IntKind.i64.wrap v6) * 2 ^ 8)))))), _⟩
     refine s_binI (v := (.int .i64 (W1 v4 v5 v6 v7))) rfl rfl rfl k
    ·intro K _ f w u k
     show Wp K ⟨88, (upd 88 f 40 (si (W1 v4 v5 v6 v7))), _⟩
     refine s_assign (d := (si (W1 v4 v5 v6 v7))) rfl k
   ·refine AWops.weak (st' := ⟨88, (upd 88 (upd 88 (upd 88 (upd 88 topF 0 (ds_ e_u8 a0)) 4 (D.one (C.own 0 0 x1.length 1))) 5 (si x2)) 6 (si (W1 v4 v5 v6 v7))), [(some (AObj.cells true (rowC (e_sl e_u8) x1)))]⟩) (wg 0 [0] [] hx (le_upd (le_upd (le_upd (le_upd (le_top _) (o1 .same)) (o1 (.own rfl))) (o1 .sc)) (o1 .sc)) (ac (.cells (fun _ => rfl) (all2_row _)) an)) (AWops.nil (AW.seq (AW.seq ?_)))
    refine AW.weak (st' := ⟨88, (upd 88 (upd 88 (upd 88 (upd 88 topF 0 (ds_ e_u8 a0)) 4 (D.one (C.own 0 0 x1.length 1))) 5 (si x2)) 6 (si (W1 v4 v5 v6 v7))), [(some (AObj.cells true (rowC (e_sl e_u8) x1)))]⟩) (wg 0 [0] [] hx (le_upd (le_upd (le_upd (le_upd (le_top _) (o1 .same)) (o1 (.own rfl))) (o1 .sc)) (o1 .sc)) (ac (.cells (fun _ => rfl) (all2_row _)) an)) ?_
    rcases itH h with ⟨c8, h⟩ | ⟨c8, h⟩
    ·refine AW.draw (n := 88) (L := 2) [(ft 0 41 (si (W1 v4 v5 v6 v7)) [(6, (si (W1 v4 v5 v6 v7)))]), (ft 1 42 (ds_ e_u8 a0) [(0, (ds_ e_u8 a0))]), (ft 2 43 (si (a0.length : Int)) [(42, (ds_ e_u8 a0))]), (ft 3 44 (si x2) [(5, (si x2))]), (ft 4 45 (si (IntKind.i64.wrap ((a0.length : Int) - x2))) [(43, (si (a0.length : Int))), (44, (si x2))]), (ft 5 46 (si (IntKind.i64.wrap ((IntKind.i64.wrap ((a0.length : Int) - x2)) - 8))) [(45, (si (IntKind.i64.wrap ((a0.length : Int) - x2))))]), (ft 6 47 (sb (decide ((W1 v4 v5 v6 v7) > (IntKind.i64.wrap ((IntKind.i64.wrap ((a0.length : Int) - x2)) - 8))))) [(41, (si (W1 v4 v5 v6 v7))), (46, (si (IntKind.i64.wrap ((IntKind.i64.wrap ((a0.length : Int) - x2)) - 8))))]), (ft 7 48 (sb (decide ((W1 v4 v5 v6 v7) > (IntKind.i64.wrap ((IntKind.i64.wrap ((a0.length : Int) - x2)) - 8))))) [(47, (sb (decide ((W1 v4 v5 v6 v7) > (IntKind.i64.wrap ((IntKind.i64.wrap ((a0.length : Int) - x2)) - 8))))))]), (ft 8 49 (D.tup []) [(0, (ds_ e_u8 a0)), (48, (sb (decide ((W1 v4 v5 v6 v7) > (IntKind.i64.wrap ((IntKind.i64.wrap ((a0.length : Int) - x2)) - 8))))))]), (ft 9 50 (D.tup []) [(48, (sb (decide ((W1 v4 v5 v6 v7) > (IntKind.i64.wrap ((IntKind.i64.wrap ((a0.length : Int) - x2)) - 8))))))]), (ft 10 51 (D.tup []) [(48, (sb (decide ((W1 v4 v5 v6 v7) > (IntKind.i64.wrap ((IntKind.i64.wrap ((a0.length : Int) - x2)) - 8))))))]), (ft 11 52 (D.tup []) [(48, (sb (decide ((W1 v4 v5 v6 v7) > (IntKind.i64.wrap ((IntKind.i64.wrap ((a0.length : Int) - x2)) - 8))))))]), (ft 12 53 (D.tup []) [(48, (sb (decide ((W1 v4 v5 v6 v7) > (IntKind.i64.wrap ((IntKind.i64.wrap ((a0.length : Int) - x2)) - 8))))))]), (ft 13 54 (D.tup []) [(48, (sb (decide ((W1 v4 v5 v6 v7) > (IntKind.i64.wrap ((IntKind.i64.wrap ((a0.length : Int) - x2)) - 8))))))]), (ft 14 55 (D.tup []) [(48, (sb (decide ((W1 v4 v5 v6 v7) > (IntKind.i64.wrap ((IntKind.i64.wrap ((a0.length : Int) - x2)) - 8))))))]), (ft 15 56 (D.tup []) [(48, (sb (decide ((W1 v4 v5 v6 v7) > (IntKind.i64.wrap ((IntKind.i64.wrap ((a0.length : Int) - x2)) - 8))))))]), (ft 16 57 (D.tup []) [(48, (sb (decide ((W1 v4 v5 v6 v7) > (IntKind.i64.wrap ((IntKind.i64.wrap ((a0.length : Int) - x2)) - 8))))))]), (ft 17 58 (D.tup []) [(48, (sb (decide ((W1 v4 v5 v6 v7) > (IntKind.i64.wrap ((IntKind.i64.wrap ((a0.length : Int) - x2)) - 8))))))]), (ft 18 59 (D.tup []) [(48, (sb (decide ((W1 v4 v5 v6 v7) > (IntKind.i64.wrap ((IntKind.i64.wrap ((a0.length : Int) - x2)) - 8))))))]), (ft 19 60 (D.tup []) [(48, (sb (decide ((W1 v4 v5 v6 v7) > (IntKind.i64.wrap ((IntKind.i64.wrap ((a0.length : Int) - x2)) - 8))))))]), (ft 20 61 (D.tup []) [(48, (sb (decide ((W1 v4 v5 v6 v7) > (IntKind.i64.wrap ((IntKind.i64.wrap ((a0.length : Int) - x2)) - 8))))))]), (ft 21 62 (D.tup []) [(48, (sb (decide ((W1 v4 v5 v6 v7) > (IntKind.i64.wrap ((IntKind.i64.wrap ((a0.length : Int) - x2)) - 8))))))]), (ft 22 63 (D.tup []) [(48, (sb (decide ((W1 v4 v5 v6 v7) > (IntKind.i64.wrap ((IntKind.i64.wrap ((a0.length : Int) - x2)) - 8))))))]), (ft 23 64 (D.tup []) [(48, (sb (decide ((W1 v4 v5 v6 v7) > (IntKind.i64.wrap ((IntKind.i64.wrap ((a0.length : Int) - x2)) - 8))))))]), (ft 24 65 (D.tup []) [(48, (sb (decide ((W1 v4 v5 v6 v7) > (IntKind.i64.wrap ((IntKind.i64.wrap ((a0.length : Int) - x2)) - 8))))))]), (ft 25 66 (D.tup []) [(48, (sb (decide ((W1 v4 v5 v6 v7) > (IntKind.i64.wrap ((IntKind.i64.wrap ((a0.length : Int) - x2)) - 8))))))]), (ft 26 67 (D.tup []) [(48, (sb (decide ((W1 v4 v5 v6 v7) > (IntKind.i64.wrap ((IntKind.i64.wrap ((a0.length : Int) - x2)) - 8))))))]), (ft 27 68 (sb true) [(48, (sb (decide ((W1 v4 v5 v6 v7) > (IntKind.i64.wrap ((IntKind.i64.wrap ((a0.length : Int) - x2)) - 8))))))])] [[], [], [1], [], [1, 2, 3], [1, 2, 3, 4], (.range 6), (.range 7), (.range 8), (.range 8), (.range 8 ++ [9]), (.range 8), (.range 8 ++ [11]), (.range 8), (.range 8 ++ [11, 12, 13]), (.range 15), (.range 16), (.range 17), (.range 8), (.range 8), (.range 8), (.range 8 ++ [20]), (.range 8), (.range 8 ++ [20, 21, 22]), (.range 8 ++ [18, 19, 20, 21, 22, 23]), (.range 8 ++ [18, 19, 20, 21, 22, 23, 24]), (.range 26), (.range 27)] (nl rfl) [0, 0, 1, 0, 2, 3, 4, 5, 6, 6, 7, 6, 7, 6, 8, 9, 10, 11, 6, 6, 6, 7, 6, 8, 9, 10, 12, 13] rfl (TK := []) rfl AllK.nil' (by repeat (first | refine fC ⟨?_, ?_⟩ ?_ | refine sC rfl ?_ | refine hC rfl ?_ | trivial)) ?_ ?_
     ·refine y8 ?_ ?_ ?_ ?_ ?_ ?_ ?_ ?_ (y8 ?_ ?_ ?_ ?_ ?_ ?_ ?_ ?_ (y8 ?_ ?_ ?_ ?_ ?_ ?_ ?_ ?_ (y4 ?_ ?_ ?_ ?_ yN)))
      ·intro K _ f w u k
       show Wp K ⟨88, (upd 88 f 6 (si (W1 v4 v5 v6 v7))), _⟩
       refine s_move (d := (si (W1 v4 v5 v6 v7))) rfl k
      ·intro K _ f w u k
       show Wp K ⟨88, (upd 88 f 0 (ds_ e_u8 a0)), _⟩
       refine s_move (d := (ds_ e_u8 a0)) rfl k
      ·intro K _ f w u k
       show Wp K ⟨88, (upd 88 f 42 (ds_ e_u8 a0)), [_, _]⟩
       refine s_len (n := a0.length) F.u_22 rfl (.inr ⟨(fun _ _ h => by cases h), ⟨_, rfl⟩⟩) k
      ·intro K _ f w u k
       show Wp K ⟨88, (upd 88 f 5 (si x2)), _⟩
       refine s_move (d := (si x2)) rfl k
      ·intro K _ f w u k
       show Wp K ⟨88, (upd 88 (upd 88 f 44 (si x2)) 43 (si (a0.length : Int))), _⟩
       refine s_binI (v := (.int .i64 (IntKind.i64.wrap ((a0.length : Int) - x2)))) rfl rfl rfl k
      ·intro K _ f w u k
       show Wp K ⟨88, (upd 88 f 45 (si (IntKind.i64.wrap ((a0.length : Int) - x2)))), _⟩
       refine s_binI (v := (.int .i64 (IntKind.i64.wrap ((IntKind.i64.wrap ((a0.length : Int) - x2)) - 8)))) rfl rfl rfl k
      ·intro K _ f w u k
       show Wp K ⟨88, (upd 88 (upd 88 f 46 (si (IntKind.i64.wrap ((IntKind.i64.wrap ((a0.length : Int) - x2)) - 8)))) 41 (si (W1 v4 v5 v6 v7))), _⟩
       refine s_binI (v := (.bool (decide ((W1 v4 v5 v6 v7) > (IntKind.i64.wrap ((IntKind.i64.wrap ((a0.length : Int) - x2)) - 8)))))) rfl rfl rfl k
      ·intro K _ f w u k
       show Wp K ⟨88, (upd 88 f 47 (sb (decide ((W1 v4 v5 v6 v7) > (IntKind.i64.wrap ((IntKind.i64.wrap ((a0.length : Int) - x2)) - 8)))))), _⟩
       refine s_move (d := (sb (decide ((W1 v4 v5 v6 v7) > (IntKind.i64.wrap ((IntKind.i64.wrap ((a0.length : Int) - x2)) - 8)))))) rfl k
      ·intro K _ f w u k
       show Wp K ⟨88, (upd 88 (upd 88 f 48 (sb (decide ((W1 v4 v5 v6 v7) > (IntKind.i64.wrap ((IntKind.i64.wrap ((a0.length : Int) - x2)) - 8)))))) 0 (ds_ e_u8 a0)), _⟩
       refine AWops.guard_no rfl (nl rfl) rfl c8 k
      ·intro K _ f w u k
       show Wp K ⟨88, (upd 88 f 48 (sb (decide ((W1 v4 v5 v6 v7) > (IntKind.i64.wrap ((IntKind.i64.wrap ((a0.length : Int) - x2)) - 8)))))), _⟩
       refine AWops.guard_no rfl (nl rfl) rfl c8 k
      ·intro K _ f w u k
       show Wp K ⟨88, (upd 88 f 48 (sb (decide ((W1 v4 v5 v6 v7) > (IntKind.i64.wrap ((IntKind.i64.wrap ((a0.length : Int) - x2)) - 8)))))), _⟩
       refine AWops.guard_no rfl (nl rfl) rfl c8 k
      ·intro K _ f w u k
       show Wp K ⟨88, (upd 88 f 48 (sb (decide ((W1 v4 v5 v6 v7) > (IntKind.i64.wrap ((IntKind.i64.wrap ((a0.length : Int) - x2)) - 8)))))), _⟩
       refine AWops.guard_no rfl (nl rfl) rfl c8 k
      ·intro K _ f w u k
       show Wp K ⟨88, (upd 88 f 48 (sb (decide ((W1 v4 v5 v6 v7) > (IntKind.i64.wrap ((IntKind.i64.wrap ((a0.length : Int) - x2)) - 8)))))), _⟩
       refine AWops.guard_no rfl (nl rfl) rfl c8 k
      ·intro K _ f w u k
       show Wp K ⟨88, (upd 88 f 48 (sb (decide ((W1 v4 v5 v6 v7) > (IntKind.i64.wrap ((IntKind.i64.wrap ((a0.length : Int) - x2)) - 8)))))), _⟩
       refine AWops.guard_no rfl (nl rfl) rfl c8 k
      ·intro K _ f w u k
       show Wp K ⟨88, (upd 88 f 48 (sb (decide ((W1 v4 v5 v6 v7) > (IntKind.i64.wrap ((IntKind.i64.wrap ((a0.length : Int) - x2)) - 8)))))), _⟩
       refine AWops.guard_no rfl (nl rfl) rfl c8 k
      ·intro K _ f w u k
       show Wp K ⟨88, (upd 88 f 48 (sb (decide ((W1 v4 v5 v6 v7) > (IntKind.i64.wrap ((IntKind.i64.wrap ((a0.length : Int) - x2)) - 8)))))), _⟩
       refine AWops.guard_no rfl (nl rfl) rfl c8 k
      ·intro K _ f w u k
       show Wp K ⟨88, (upd 88 f 48 (sb (decide ((W1 v4 v5 v6 v7) > (IntKind.i64.wrap ((IntKind.i64.wrap ((a0.length : Int) - x2)) - 8)))))), _⟩
       refine AWops.guard_no rfl (nl rfl) rfl c8 k
      ·intro K _ f w u k
       show Wp K ⟨88, (upd 88 f 48 (sb (decide ((W1 v4 v5 v6 v7) > (IntKind.i64.wrap ((IntKind.i64.wrap ((a0.length : Int) - x2)) - 8)))))), _⟩
       refine AWops.guard_no rfl (nl rfl) rfl c8 k
      ·intro K _ f w u k
       show Wp K ⟨88, (upd 88 f 48 (sb (decide ((W1 v4 v5 v6 v7) > (IntKind.i64.wrap ((IntKind.i64.wrap ((a0.length : Int) - x2)) - 8)))))), _⟩
       refine AWops.guard_no rfl (nl rfl) rfl c8 k
      ·intro K _ f w u k
       show Wp K ⟨88, (upd 88 f 48 (sb (decide ((W1 v4 v5 v6 v7) > (IntKind.i64.wrap ((IntKind.i64.wrap ((a0.length : Int) - x2)) - 8)))))), _⟩
       refine AWops.guard_no rfl (nl rfl) rfl c8 k
      ·intro K _ f w u k
       show Wp K ⟨88, (upd 88 f 48 (sb (decide ((W1 v4 v5 v6 v7) > (IntKind.i64.wrap ((IntKind.i64.wrap ((a0.length : Int) - x2)) - 8)))))), _⟩
       refine AWops.guard_no rfl (nl rfl) rfl c8 k
      ·intro K _ f w u k
       show Wp K ⟨88, (upd 88 f 48 (sb (decide ((W1 v4 v5 v6 v7) > (IntKind.i64.wrap ((IntKind.i64.wrap ((a0.length : Int) - x2)) - 8)))))), _⟩
       refine AWops.guard_no rfl (nl rfl) rfl c8 k
      ·intro K _ f w u k
       show Wp K ⟨88, (upd 88 f 48 (sb (decide ((W1 v4 v5 v6 v7) > (IntKind.i64.wrap ((IntKind.i64.wrap ((a0.length : Int) - x2)) - 8)))))), _⟩
       refine AWops.guard_no rfl (nl rfl) rfl c8 k
      ·intro K _ f w u k
       show Wp K ⟨88, (upd 88 f 48 (sb (decide ((W1 v4 v5 v6 v7) > (IntKind.i64.wrap ((IntKind.i64.wrap ((a0.length : Int) - x2)) - 8)))))), _⟩
       refine AWops.guard_no rfl (nl rfl) rfl c8 k
      ·intro K _ f w u k
       show Wp K ⟨88, (upd 88 f 48 (sb (decide ((W1 v4 v5 v6 v7) > (IntKind.i64.wrap ((IntKind.i64.wrap ((a0.length : Int) - x2)) - 8)))))), _⟩
       refine AWops.guard_no rfl (nl rfl) rfl c8 k
      ·intro K _ f w u k
       show Wp K ⟨88, (upd 88 f 48 (sb (decide ((W1 v4 v5 v6 v7) > (IntKind.i64.wrap ((IntKind.i64.wrap ((a0.length : Int) - x2)) - 8)))))), _⟩
       refine AWops.guard_no rfl (nl rfl) rfl c8 k
      ·intro K _ f w u k
       show Wp K ⟨88, (upd 88 f 48 (sb (decide ((W1 v4 v5 v6 v7) > (IntKind.i64.wrap ((IntKind.i64.wrap ((a0.length : Int) - x2)) - 8)))))), _⟩
       refine AWops.guard_no rfl (nl rfl) rfl c8 k
      ·intro K _ f w u k
       show Wp K ⟨88, (upd 88 f 48 (sb (decide ((W1 v4 v5 v6 v7) > (IntKind.i64.wrap ((IntKind.i64.wrap ((a0.length : Int) - x2)) - 8)))))), _⟩
       refine s_pick_yes (d := (sb true)) rfl c8 rfl k
     ·refine AWops.weak (st' := ⟨88, (upd 88 (upd 88 (upd 88 (upd 88 (upd 88 (upd 88 (upd 88 (upd 88 (upd 88 (upd 88 (upd 88 (upd 88 (upd 88 (upd 88 (upd 88 (upd 88 (upd 88 (upd 88 (upd 88 (upd 88 (upd 88 (upd 88 (upd 88 (upd 88 topF 0 (ds_ e_u8 a0)) 4 (D.one (C.own 0 0 x1.length 1))) 5 (si x2)) 6 (si (W1 v4 v5 v6 v7))) 49 (D.tup [])) 50 (D.tup [])) 51 (D.tup [])) 52 (D.tup [])) 53 (D.tup [])) 54 (D.tup [])) 55 (D.tup [])) 56 (D.tup [])) 57 (D.tup [])) 58 (D.tup [])) 59 (D.tup [])) 60 (D.tup [])) 61 (D.tup [])) 62 (D.tup [])) 63 (D.tup [])) 64 (D.tup [])) 65 (D.tup [])) 66 (D.tup [])) 67 (D.tup [])) 68 (sb true)), [(some (AObj.cells true (rowC (e_sl e_u8) x1)))]⟩) (wg 0 [0] [] hx (le_upd (le_upd (le_upd (le_upd (le_upd (le_upd (le_upd (le_upd (le_upd (le_upd (le_upd (le_upd (le_upd (le_upd (le_upd (le_upd (le_upd (le_upd (le_upd (le_upd (le_upd (le_upd (le_upd (le_upd (le_top _) (o1 .same)) (o1 (.own rfl))) (o1 .sc)) (o1 .sc)) (DLe.tup an)) (DLe.tup an)) (DLe.tup an)) (DLe.tup an)) (DLe.tup an)) (DLe.tup an)) (DLe.tup an)) (DLe.tup an)) (DLe.tup an)) (DLe.tup an)) (DLe.tup an)) (DLe.tup an)) (DLe.tup an)) (DLe.tup an)) (DLe.tup an)) (DLe.tup an)) (DLe.tup an)) (DLe.tup an)) (DLe.tup an)) (o1 .sc)) (ac (.cells (fun _ => rfl) (all2_row _)) an)) (AWops.nil ?_)
      refine AW.cond_yes rfl rfl (AW.exit (AW.seq (AW.region ?_)))
      refine s_move (d := (D.one (C.own 0 0 x1.length 1))) rfl (s_move (d := (si x2)) rfl (s_assign (d := (D.one (C.own 0 0 x1.length 1))) rfl (s_assign (d := (si x2)) rfl (AWops.nil (AW.ret ?_)))))
      obtain rfl := Option.some.inj h
      exact ⟨_, rfl, (wg 0 [0] [] rfl (le_upd (le_top _) (DLe.tup (ac (TLe.one (.own rfl)) (ac (TLe.one .sc) an)))) (ac (.cells (fun _ => rfl) (all2_row _)) an))⟩
    ·obtain ⟨c9, h⟩ := gdH h
     have dc9 := of_decide_eq_true c9
     obtain ⟨r10, er10, h⟩ := bnd h
     obtain ⟨c11, h⟩ := gdH h
     have dc11 := of_decide_eq_true c11
     refine AW.draw (n := 88) (L := 2) [(ft 0 41 (si (W1 v4 v5 v6 v7)) [(6, (si (W1 v4 v5 v6 v7)))]), (ft 1 42 (ds_ e_u8 a0) [(0, (ds_ e_u8 a0))]), (ft 2 43 (si (a0.length : Int)) [(42, (ds_ e_u8 a0))]), (ft 3 44 (si x2) [(5, (si x2))]), (ft 4 45 (si (IntKind.i64.wrap ((a0.length : Int) - x2))) [(43, (si (a0.length : Int))), (44, (si x2))]), (ft 5 46 (si (IntKind.i64.wrap ((IntKind.i64.wrap ((a0.length : Int) - x2)) - 8))) [(45, (si (IntKind.i64.wrap ((a0.length : Int) - x2))))]), (ft 6 47 (sb (decide ((W1 v4 v5 v6 v7) > (IntKind.i64.wrap ((IntKind.i64.wrap ((a0.length : Int) - x2)) - 8))))) [(41, (si (W1 v4 v5 v6 v7))), (46, (si (IntKind.i64.wrap ((IntKind.i64.wrap ((a0.length : Int) - x2)) - 8))))]), (ft 7 48 (sb (decide ((W1 v4 v5 v6 v7) > (IntKind.i64.wrap ((IntKind.i64.wrap ((a0.length : Int) - x2)) - 8))))) [(47, (sb (decide ((W1 v4 v5 v6 v7) > (IntKind.i64.wrap ((IntKind.i64.wrap ((a0.length : Int) - x2)) - 8))))))]), (ft 8 49 (ds_ e_u8 a0) [(0, (ds_ e_u8 a0)), (48, (sb (decide ((W1 v4 v5 v6 v7) > (IntKind.i64.wrap ((IntKind.i64.wrap ((a0.length : Int) - x2)) - 8))))))]), (ft 9 50 (si x2) [(5, (si x2)), (48, (sb (decide ((W1 v4 v5 v6 v7) > (IntKind.i64.wrap ((IntKind.i64.wrap ((a0.length : Int) - x2)) - 8))))))]), (ft 10 51 (si (IntKind.i64.wrap (x2 + 8))) [(48, (sb (decide ((W1 v4 v5 v6 v7) > (IntKind.i64.wrap ((IntKind.i64.wrap ((a0.length : Int) - x2)) - 8)))))), (50, (si x2))]), (ft 11 52 (si x2) [(5, (si x2)), (48, (sb (decide ((W1 v4 v5 v6 v7) > (IntKind.i64.wrap ((IntKind.i64.wrap ((a0.length : Int) - x2)) - 8))))))]), (ft 12 53 (si (IntKind.i64.wrap (x2 + 8))) [(48, (sb (decide ((W1 v4 v5 v6 v7) > (IntKind.i64.wrap ((IntKind.i64.wrap ((a0.length : Int) - x2)) - 8)))))), (52, (si x2))]), (ft 13 54 (si (W1 v4 v5 v6 v7)) [(6, (si (W1 v4 v5 v6 v7))), (48, (sb (decide ((W1 v4 v5 v6 v7) > (IntKind.i64.wrap ((IntKind.i64.wrap ((a0.length : Int) - x2)) - 8))))))]), (ft 14 55 (si (IntKind.i64.wrap ((IntKind.i64.wrap (x2 + 8)) + (W1 v4 v5 v6 v7)))) [(48, (sb (decide ((W1 v4 v5 v6 v7) > (IntKind.i64.wrap ((IntKind.i64.wrap ((a0.length : Int) - x2)) - 8)))))), (53, (si (IntKind.i64.wrap (x2 + 8)))), (54, (si (W1 v4 v5 v6 v7)))]), (ft 15 56 (D.one (C.p false (.sl (sub a0 (IntKind.i64.wrap (x2 + 8)) (IntKind.i64.wrap ((IntKind.i64.wrap (x2 + 8)) + (W1 v4 v5 v6 v7)))).length ((sub a0 (IntKind.i64.wrap (x2 + 8)) (IntKind.i64.wrap ((IntKind.i64.wrap (x2 + 8)) + (W1 v4 v5 v6 v7)))).flatMap e_u8)))) [(48, (sb (decide ((W1 v4 v5 v6 v7) > (IntKind.i64.wrap ((IntKind.i64.wrap ((a0.length : Int) - x2)) - 8)))))), (49, (ds_ e_u8 a0)), (51, (si (IntKind.i64.wrap (x2 + 8)))), (55, (si (IntKind.i64.wrap ((IntKind.i64.wrap (x2 + 8)) + (W1 v4 v5 v6 v7)))))]), (16, ⟨some 57, (D.one (C.own 1 0 r10.length 1)), [(48, (sb (decide ((W1 v4 v5 v6 v7) > (IntKind.i64.wrap ((IntKind.i64.wrap ((a0.length : Int) - x2)) - 8)))))), (56, (D.one (C.p false (.sl (sub a0 (IntKind.i64.wrap (x2 + 8)) (IntKind.i64.wrap ((IntKind.i64.wrap (x2 + 8)) + (W1 v4 v5 v6 v7)))).length ((sub a0 (IntKind.i64.wrap (x2 + 8)) (IntKind.i64.wrap ((IntKind.i64.wrap (x2 + 8)) + (W1 v4 v5 v6 v7)))).flatMap e_u8)))))], [], [(1, (ow_ e_u8 r10))], some 1⟩), (17, ⟨some 58, (st_ (ofNums r10)), [(48, (sb (decide ((W1 v4 v5 v6 v7) > (IntKind.i64.wrap ((IntKind.i64.wrap ((a0.length : Int) - x2)) - 8)))))), (57, (D.one (C.own 1 0 r10.length 1)))], [(1, (ow_ e_u8 r10))], [], none⟩), (ft 18 59 (ds_ e_u8 a0) [(0, (ds_ e_u8 a0)), (48, (sb (decide ((W1 v4 v5 v6 v7) > (IntKind.i64.wrap ((IntKind.i64.wrap ((a0.length : Int) - x2)) - 8))))))]), (ft 19 60 (si x2) [(5, (si x2)), (48, (sb (decide ((W1 v4 v5 v6 v7) > (IntKind.i64.wrap ((IntKind.i64.wrap ((a0.length : Int) - x2)) - 8))))))]), (ft 20 61 (si x2) [(5, (si x2)), (48, (sb (decide ((W1 v4 v5 v6 v7) > (IntKind.i64.wrap ((IntKind.i64.wrap ((a0.length : Int) - x2)) - 8))))))]), (ft 21 62 (si (IntKind.i64.wrap (x2 + 8))) [(48, (sb (decide ((W1 v4 v5 v6 v7) > (IntKind.i64.wrap ((IntKind.i64.wrap ((a0.length : Int) - x2)) - 8)))))), (61, (si x2))]), (ft 22 63 (si (W1 v4 v5 v6 v7)) [(6, (si (W1 v4 v5 v6 v7))), (48, (sb (decide ((W1 v4 v5 v6 v7) > (IntKind.i64.wrap ((IntKind.i64.wrap ((a0.length : Int) - x2)) - 8))))))]), (ft 23 64 (si (IntKind.i64.wrap ((IntKind.i64.wrap (x2 + 8)) + (W1 v4 v5 v6 v7)))) [(48, (sb (decide ((W1 v4 v5 v6 v7) > (IntKind.i64.wrap ((IntKind.i64.wrap ((a0.length : Int) - x2)) - 8)))))), (62, (si (IntKind.i64.wrap (x2 + 8)))), (63, (si (W1 v4 v5 v6 v7)))]), (ft 24 65 (D.one (C.p false (.sl (sub a0 x2 (IntKind.i64.wrap ((IntKind.i64.wrap (x2 + 8)) + (W1 v4 v5 v6 v7)))).length ((sub a0 x2 (IntKind.i64.wrap ((IntKind.i64.wrap (x2 + 8)) + (W1 v4 v5 v6 v7)))).flatMap e_u8)))) [(48, (sb (decide ((W1 v4 v5 v6 v7) > (IntKind.i64.wrap ((IntKind.i64.wrap ((a0.length : Int) - x2)) - 8)))))), (59, (ds_ e_u8 a0)), (60, (si x2)), (64, (si (IntKind.i64.wrap ((IntKind.i64.wrap (x2 + 8)) + (W1 v4 v5 v6 v7)))))]), (ft 25 66 (st_ (ofNums (sub a0 x2 (IntKind.i64.wrap ((IntKind.i64.wrap (x2 + 8)) + (W1 v4 v5 v6 v7)))))) [(48, (sb (decide ((W1 v4 v5 v6 v7) > (IntKind.i64.wrap ((IntKind.i64.wrap ((a0.length : Int) - x2)) - 8)))))), (65, (D.one (C.p false (.sl (sub a0 x2 (IntKind.i64.wrap ((IntKind.i64.wrap (x2 + 8)) + (W1 v4 v5 v6 v7)))).length ((sub a0 x2 (IntKind.i64.wrap ((IntKind.i64.wrap (x2 + 8)) + (W1 v4 v5 v6 v7)))).flatMap e_u8)))))]), (ft 26 67 (sb (!((ofNums r10).toList == (ofNums (sub a0 x2 (IntKind.i64.wrap ((IntKind.i64.wrap (x2 + 8)) + (W1 v4 v5 v6 v7))))).toList))) [(48, (sb (decide ((W1 v4 v5 v6 v7) > (IntKind.i64.wrap ((IntKind.i64.wrap ((a0.length : Int) - x2)) - 8)))))), (58, (st_ (ofNums r10))), (66, (st_ (ofNums (sub a0 x2 (IntKind.i64.wrap ((IntKind.i64.wrap (x2 + 8)) + (W1 v4 v5 v6 v7)))))))]), (ft 27 68 (sb (!((ofNums r10).toList == (ofNums (sub a0 x2 (IntKind.i64.wrap ((IntKind.i64.wrap (x2 + 8)) + (W1 v4 v5 v6 v7))))).toList))) [(48, (sb (decide ((W1 v4 v5 v6 v7) > (IntKind.i64.wrap ((IntKind.i64.wrap ((a0.length : Int) - x2)) - 8)))))), (67, (sb (!((ofNums r10).toList == (ofNums (sub a0 x2 (IntKind.i64.wrap ((IntKind.i64.wrap (x2 + 8)) + (W1 v4 v5 v6 v7))))).toList))))])] [[], [], [1], [], [1, 2, 3], [1, 2, 3, 4], (.range 6), (.range 7), (.range 8), (.range 8), (.range 8 ++ [9]), (.range 8), (.range 8 ++ [11]), (.range 8), (.range 8 ++ [11, 12, 13]), (.range 15), (.range 16), (.range 17), (.range 8), (.range 8), (.range 8), (.range 8 ++ [20]), (.range 8), (.range 8 ++ [20, 21, 22]), (.range 8 ++ [18, 19, 20, 21, 22, 23]), (.range 8 ++ [18, 19, 20, 21, 22, 23, 24]), (.range 26), (.range 27)] (nl rfl) [0, 0, 1, 0, 2, 3, 4, 5, 6, 6, 7, 6, 7, 6, 8, 9, 10, 11, 6, 6, 6, 7, 6, 8, 9, 10, 12, 13] rfl (TK := [(16, 1)]) rfl (AllK.cons' ⟨(tk_upd (tk_upd (tk_upd (tk_upd tk_top rfl) rfl) rfl) rfl), (tC (tkO_row _) AllT.nil'), (by repeat (first | refine fC (.inl rfl) ?_ | refine fC (.inr rfl) ?_ | refine fC (.inr (by unfold tkFoot; simp only [List.all_cons, List.all_nil, tkO_row, Bool.and_true, Bool.true_and]; rfl)) ?_ | trivial))⟩ AllK.nil') (by repeat (first | refine fC ⟨?_, ?_⟩ ?_ | refine sC rfl ?_ | refine hC rfl ?_ | trivial)) ?_ ?_
     ·refine y8 ?_ ?_ ?_ ?_ ?_ ?_ ?_ ?_ (y8 ?_ ?_ ?_ ?_ ?_ ?_ ?_ ?_ (y8 ?_ ?_ ?_ ?_ ?_ ?_ ?_ ?_ (y4 ?_ ?_ ?_ ?_ yN)))
      ·intro K _ f w u k
       show Wp K ⟨88, (upd 88 f 6 (si (W1 v4 v5 v6 v7))), _⟩
       refine s_move (d := (si (W1 v4 v5 v6 v7))) rfl k
      ·intro K _ f w u k
       show Wp K ⟨88, (upd 88 f 0 (ds_ e_u8 a0)), _⟩
       refine s_move (d := (ds_ e_u8 a0)) rfl k
      ·intro K _ f w u k
       show Wp K ⟨88, (upd 88 f 42 (ds_ e_u8 a0)), [_, _]⟩
       refine s_len (n := a0.length) F.u_22 rfl (.inr ⟨(fun _ _ h => by cases h), ⟨_, rfl⟩⟩) k
      ·intro K _ f w u k
       show Wp K ⟨88, (upd 88 f 5 (si x2)), _⟩
       refine s_move (d := (si x2)) rfl k
      ·intro K _ f w u k
       show Wp K ⟨88, (upd 88 (upd 88 f 44 (si x2)) 43 (si (a0.length : Int))), _⟩
       refine s_binI (v := (.int .i64 (IntKind.i64.wrap ((a0.length : Int) - x2)))) rfl rfl rfl k
      ·intro K _ f w u k
       show Wp K ⟨88, (upd 88 f 45 (si (IntKind.i64.wrap ((a0.length : Int) - x2)))), _⟩
       refine s_binI (v := (.int .i64 (IntKind.i64.wrap ((IntKind.i64.wrap ((a0.length : Int) - x2)) - 8)))) rfl rfl rfl k
      ·intro K _ f w u k
       show Wp K ⟨88, (upd 88 (upd 88 f 46 (si (IntKind.i64.wrap ((IntKind.i64.wrap ((a0.length : Int) - x2)) - 8)))) 41 (si (W1 v4 v5 v6 v7))), _⟩
       refine s_binI (v := (.bool (decide ((W1 v4 v5 v6 v7) > (IntKind.i64.wrap ((IntKind.i64.wrap ((a0.length : Int) - x2)) - 8)))))) rfl rfl rfl k
      ·intro K _ f w u k
       show Wp K ⟨88, (upd 88 f 47 (sb (decide ((W1 v4 v5 v6 v7) > (IntKind.i64.wrap ((IntKind.i64.wrap ((a0.length : Int) - x2)) - 8)))))), _⟩
       refine s_move (d := (sb (decide ((W1 v4 v5 v6 v7) > (IntKind.i64.wrap ((IntKind.i64.wrap ((a0.length : Int) - x2)) - 8)))))) rfl k
      ·intro K _ f w u k
       show Wp K ⟨88, (upd 88 (upd 88 f 48 (sb (decide ((W1 v4 v5 v6 v7) > (IntKind.i64.wrap ((IntKind.i64.wrap ((a0.length : Int) - x2)) - 8)))))) 0 (ds_ e_u8 a0)), _⟩
       refine AWops.guard_yes rfl (nl rfl) rfl c8 ?_
       refine s_move (d := (ds_ e_u8 a0)) rfl k
      ·intro K _ f w u k
       show Wp K ⟨88, (upd 88 (upd 88 f 48 (sb (decide ((W1 v4 v5 v6 v7) > (IntKind.i64.wrap ((IntKind.i64.wrap ((a0.length : Int) - x2)) - 8)))))) 5 (si x2)), _⟩
       refine AWops.guard_yes rfl (nl rfl) rfl c8 ?_
       refine s_move (d := (si x2)) rfl k
      ·intro K _ f w u k
       show Wp K ⟨88, (upd 88 (upd 88 f 50 (si x2)) 48 (sb (decide ((W1 v4 v5 v6 v7) > (IntKind.i64.wrap ((IntKind.i64.wrap ((a0.length : Int) - x2)) - 8)))))), _⟩
       refine AWops.guard_yes rfl (nl rfl) rfl c8 ?_
       refine s_binI (v := (.int .i64 (IntKind.i64.wrap (x2 + 8)))) rfl rfl rfl k
      ·intro K _ f w u k
       show Wp K ⟨88, (upd 88 (upd 88 f 48 (sb (decide ((W1 v4 v5 v6 v7) > (IntKind.i64.wrap ((IntKind.i64.wrap ((a0.length : Int) - x2)) - 8)))))) 5 (si x2)), _⟩
       refine AWops.guard_yes rfl (nl rfl) rfl c8 ?_
       refine s_move (d := (si x2)) rfl k
      ·intro K _ f w u k
       show Wp K ⟨88, (upd 88 (upd 88 f 52 (si x2)) 48 (sb (decide ((W1 v4 v5 v6 v7) > (IntKind.i64.wrap ((IntKind.i64.wrap ((a0.length : Int) - x2)) - 8)))))), _⟩
       refine AWops.guard_yes rfl (nl rfl) rfl c8 ?_
       refine s_binI (v := (.int .i64 (IntKind.i64.wrap (x2 + 8)))) rfl rfl rfl k
      ·intro K _ f w u k
       show Wp K ⟨88, (upd 88 (upd 88 f 48 (sb (decide ((W1 v4 v5 v6 v7) > (IntKind.i64.wrap ((IntKind.i64.wrap ((a0.length : Int) - x2)) - 8)))))) 6 (si (W1 v4 v5 v6 v7))), _⟩
       refine AWops.guard_yes rfl (nl rfl) rfl c8 ?_
       refine s_move (d := (si (W1 v4 v5 v6 v7))) rfl k
      ·intro K _ f w u k
       show Wp K ⟨88, (upd 88 (upd 88 (upd 88 f 54 (si (W1 v4 v5 v6 v7))) 53 (si (IntKind.i64.wrap (x2 + 8)))) 48 (sb (decide ((W1 v4 v5 v6 v7) > (IntKind.i64.wrap ((IntKind.i64.wrap ((a0.length : Int) - x2)) - 8)))))), _⟩
       refine AWops.guard_yes rfl (nl rfl) rfl c8 ?_
       refine s_binI (v := (.int .i64 (IntKind.i64.wrap ((IntKind.i64.wrap (x2 + 8)) + (W1 v4 v5 v6 v7))))) rfl rfl rfl k
      ·intro K _ f w u k
       show Wp K ⟨88, (upd 88 (upd 88 (upd 88 (upd 88 f 55 (si (IntKind.i64.wrap ((IntKind.i64.wrap (x2 + 8)) + (W1 v4 v5 v6 v7))))) 51 (si (IntKind.i64.wrap (x2 + 8)))) 49 (ds_ e_u8 a0)) 48 (sb (decide ((W1 v4 v5 v6 v7) > (IntKind.i64.wrap ((IntKind.i64.wrap ((a0.length : Int) - x2)) - 8)))))), [_, _]⟩
       refine AWops.guard_yes rfl (nl rfl) rfl c8 ?_
       refine t_sliceImm (a := IntKind.i64.wrap (x2 + 8)) (b := IntKind.i64.wrap ((IntKind.i64.wrap (x2 + 8)) + (W1 v4 v5 v6 v7))) F.u_22 F.sz_5 e_u8_len rfl (by omega) (by omega) (by omega) (.yes rfl (by omega) rfl) (.yes rfl (by omega) rfl) k
      ·intro K _ f w u k
       show Wp K ⟨88, (upd 88 (upd 88 f 56 (D.one (C.p false (.sl (sub a0 (IntKind.i64.wrap (x2 + 8)) (IntKind.i64.wrap ((IntKind.i64.wrap (x2 + 8)) + (W1 v4 v5 v6 v7)))).length ((sub a0 (IntKind.i64.wrap (x2 + 8)) (IntKind.i64.wrap ((IntKind.i64.wrap (x2 + 8)) + (W1 v4 v5 v6 v7)))).flatMap e_u8))))) 48 (sb (decide ((W1 v4 v5 v6 v7) > (IntKind.i64.wrap ((IntKind.i64.wrap ((a0.length : Int) - x2)) - 8)))))), [_, _]⟩
       refine AWops.guard_yes rfl (nl rfl) rfl c8 ?_
       refine cc [] [(w 0), (w 1), (ow_ e_u8 r10)] (D.one (C.own 2 0 r10.length 1)) F.ca_77 rfl rfl (ac (.one .imm) an) an (dossierref04_frame.meets _ (sub a0 (IntKind.i64.wrap (x2 + 8)) (IntKind.i64.wrap ((IntKind.i64.wrap (x2 + 8)) + (W1 v4 v5 v6 v7)))) r10 er10) ?_
       refine AWops.weak (st' := ⟨88, (upd 88 (upd 88 (upd 88 f 56 (D.one (C.p false (.sl (sub a0 (IntKind.i64.wrap (x2 + 8)) (IntKind.i64.wrap ((IntKind.i64.wrap (x2 + 8)) + (W1 v4 v5 v6 v7)))).length ((sub a0 (IntKind.i64.wrap (x2 + 8)) (IntKind.i64.wrap ((IntKind.i64.wrap (x2 + 8)) + (W1 v4 v5 v6 v7)))).flatMap e_u8))))) 48 (sb (decide ((W1 v4 v5 v6 v7) > (IntKind.i64.wrap ((IntKind.i64.wrap ((a0.length : Int) - x2)) - 8)))))) 57 (D.one (C.own 1 0 r10.length 1))), [(w 0), (ow_ e_u8 r10)]⟩) (wg 0 [0, 2] [] hx (le_upd2 (le_ok (p := 1) (L := 2) rfl (u 1 rfl).1) (o1 (.own rfl))) (ac (oq 1 2 (u 1 rfl) 0) (ac (.cells (fun _ => rfl) (all2_row _)) an))) k
      ·intro K _ f w u k
       show Wp K ⟨88, (upd 88 (upd 88 f 57 (D.one (C.own 1 0 r10.length 1))) 48 (sb (decide ((W1 v4 v5 v6 v7) > (IntKind.i64.wrap ((IntKind.i64.wrap ((a0.length : Int) - x2)) - 8)))))), [_, (ow_ e_u8 r10)]⟩
       refine AWops.guard_yes rfl (nl rfl) rfl c8 ?_
       refine t_toStr (xs := r10) F.u_22 F.u_5 F.u_9 (.own rfl rfl) k
      ·intro K _ f w u k
       show Wp K ⟨88, (upd 88 (upd 88 f 48 (sb (decide ((W1 v4 v5 v6 v7) > (IntKind.i64.wrap ((IntKind.i64.wrap ((a0.length : Int) - x2)) - 8)))))) 0 (ds_ e_u8 a0)), _⟩
       refine AWops.guard_yes rfl (nl rfl) rfl c8 ?_
       refine s_move (d := (ds_ e_u8 a0)) rfl k
      ·intro K _ f w u k
       show Wp K ⟨88, (upd 88 (upd 88 f 48 (sb (decide ((W1 v4 v5 v6 v7) > (IntKind.i64.wrap ((IntKind.i64.wrap ((a0.length : Int) - x2)) - 8)))))) 5 (si x2)), _⟩
       refine AWops.guard_yes rfl (nl rfl) rfl c8 ?_
       refine s_move (d := (si x2)) rfl k
      ·intro K _ f w u k
       show Wp K ⟨88, (upd 88 (upd 88 f 48 (sb (decide ((W1 v4 v5 v6 v7) > (IntKind.i64.wrap ((IntKind.i64.wrap ((a0.length : Int) - x2)) - 8)))))) 5 (si x2)), _⟩
       refine AWops.guard_yes rfl (nl rfl) rfl c8 ?_
       refine s_move (d := (si x2)) rfl k
      ·intro K _ f w u k
       show Wp K ⟨88, (upd 88 (upd 88 f 61 (si x2)) 48 (sb (decide ((W1 v4 v5 v6 v7) > (IntKind.i64.wrap ((IntKind.i64.wrap ((a0.length : Int) - x2)) - 8)))))), _⟩
       refine AWops.guard_yes rfl (nl rfl) rfl c8 ?_
       refine s_binI (v := (.int .i64 (IntKind.i64.wrap (x2 + 8)))) rfl rfl rfl k
      ·intro K _ f w u k
       show Wp K ⟨88, (upd 88 (upd 88 f 48 (sb (decide ((W1 v4 v5 v6 v7) > (IntKind.i64.wrap ((IntKind.i64.wrap ((a0.length : Int) - x2)) - 8)))))) 6 (si (W1 v4 v5 v6 v7))), _⟩
       refine AWops.guard_yes rfl (nl rfl) rfl c8 ?_
       refine s_move (d := (si (W1 v4 v5 v6 v7))) rfl k
      ·intro K _ f w u k
       show Wp K ⟨88, (upd 88 (upd 88 (upd 88 f 63 (si (W1 v4 v5 v6 v7))) 62 (si (IntKind.i64.wrap (x2 + 8)))) 48 (sb (decide ((W1 v4 v5 v6 v7) > (IntKind.i64.wrap ((IntKind.i64.wrap ((a0.length : Int) - x2)) - 8)))))), _⟩
       refine AWops.guard_yes rfl (nl rfl) rfl c8 ?_
       refine s_binI (v := (.int .i64 (IntKind.i64.wrap ((IntKind.i64.wrap (x2 + 8)) + (W1 v4 v5 v6 v7))))) rfl rfl rfl k
      ·intro K _ f w u k
       show Wp K ⟨88, (upd 88 (upd 88 (upd 88 (upd 88 f 64 (si (IntKind.i64.wrap ((IntKind.i64.wrap (x2 + 8)) + (W1 v4 v5 v6 v7))))) 60 (si x2)) 59 (ds_ e_u8 a0)) 48 (sb (decide ((W1 v4 v5 v6 v7) > (IntKind.i64.wrap ((IntKind.i64.wrap ((a0.length : Int) - x2)) - 8)))))), [_, _]⟩
       refine AWops.guard_yes rfl (nl rfl) rfl c8 ?_
       refine t_sliceImm (a := x2) (b := IntKind.i64.wrap ((IntKind.i64.wrap (x2 + 8)) + (W1 v4 v5 v6 v7))) F.u_22 F.sz_5 e_u8_len rfl (by omega) (by omega) (by omega) (.yes rfl (by omega) rfl) (.yes rfl (by omega) rfl) k
      ·intro K _ f w u k
       show Wp K ⟨88, (upd 88 (upd 88 f 65 (D.one (C.p false (.sl (sub a0 x2 (IntKind.i64.wrap ((IntKind.i64.wrap (x2 + 8)) + (W1 v4 v5 v6 v7)))).length ((sub a0 x2 (IntKind.i64.wrap ((IntKind.i64.wrap (x2 + 8)) + (W1 v4 v5 v6 v7)))).flatMap e_u8))))) 48 (sb (decide ((W1 v4 v5 v6 v7) > (IntKind.i64.wrap ((IntKind.i64.wrap ((a0.length : Int) - x2)) - 8)))))), [_, _]⟩
       refine AWops.guard_yes rfl (nl rfl) rfl c8 ?_
       refine t_toStr (xs := sub a0 x2 (IntKind.i64.wrap ((IntKind.i64.wrap (x2 + 8)) + (W1 v4 v5 v6 v7)))) F.u_22 F.u_5 F.u_9 .imm k
      ·intro K _ f w u k
       show Wp K ⟨88, (upd 88 (upd 88 (upd 88 f 66 (st_ (ofNums (sub a0 x2 (IntKind.i64.wrap ((IntKind.i64.wrap (x2 + 8)) + (W1 v4 v5 v6 v7))))))) 58 (st_ (ofNums r10))) 48 (sb (decide ((W1 v4 v5 v6 v7) > (IntKind.i64.wrap ((IntKind.i64.wrap ((a0.length : Int) - x2)) - 8)))))), [_, _]⟩
       refine AWops.guard_yes rfl (nl rfl) rfl c8 ?_
       refine s_binS (v := (.bool (!((ofNums r10).toList == (ofNums (sub a0 x2 (IntKind.i64.wrap ((IntKind.i64.wrap (x2 + 8)) + (W1 v4 v5 v6 v7))))).toList)))) rfl rfl rfl k
      ·intro K _ f w u k
       show Wp K ⟨88, (upd 88 (upd 88 f 67 (sb (!((ofNums r10).toList == (ofNums (sub a0 x2 (IntKind.i64.wrap ((IntKind.i64.wrap (x2 + 8)) + (W1 v4 v5 v6 v7))))).toList)))) 48 (sb (decide ((W1 v4 v5 v6 v7) > (IntKind.i64.wrap ((IntKind.i64.wrap ((a0.length : Int) - x2)) - 8)))))), _⟩
       refine s_pick_no (d := (sb (!((ofNums r10).toList == (ofNums (sub a0 x2 (IntKind.i64.wrap ((IntKind.i64.wrap (x2 + 8)) + (W1 v4 v5 v6 v7))))).toList)))) rfl c8 rfl k
     ·refine AWops.weak (st' := ⟨88, (upd 88 (upd 88 (upd 88 (upd 88 (upd 88 (upd 88 (upd 88 (upd 88 (upd 88 (upd 88 (upd 88 (upd 88 (upd 88 (upd 88 (upd 88 (upd 88 (upd 88 (upd 88 (upd 88 (upd 88 (upd 88 (upd 88 (upd 88 (upd 88 topF 0 (ds_ e_u8 a0)) 4 (D.one (C.own 0 0 x1.length 1))) 5 (si x2)) 6 (si (W1 v4 v5 v6 v7))) 49 (ds_ e_u8 a0)) 50 (si x2)) 51 (si (IntKind.i64.wrap (x2 + 8)))) 52 (si x2)) 53 (si (IntKind.i64.wrap (x2 + 8)))) 54 (si (W1 v4 v5 v6 v7))) 55 (si (IntKind.i64.wrap ((IntKind.i64.wrap (x2 + 8)) + (W1 v4 v5 v6 v7))))) 56 (D.one (C.p false (.sl (sub a0 (IntKind.i64.wrap (x2 + 8)) (IntKind.i64.wrap ((IntKind.i64.wrap (x2 + 8)) + (W1 v4 v5 v6 v7)))).length ((sub a0 (IntKind.i64.wrap (x2 + 8)) (IntKind.i64.wrap ((IntKind.i64.wrap (x2 + 8)) + (W1 v4 v5 v6 v7)))).flatMap e_u8))))) 57 (D.one (C.own 1 0 r10.length 1))) 58 (st_ (ofNums r10))) 59 (ds_ e_u8 a0)) 60 (si x2)) 61 (si x2)) 62 (si (IntKind.i64.wrap (x2 + 8)))) 63 (si (W1 v4 v5 v6 v7))) 64 (si (IntKind.i64.wrap ((IntKind.i64.wrap (x2 + 8)) + (W1 v4 v5 v6 v7))))) 65 (D.one (C.p false (.sl (sub a0 x2 (IntKind.i64.wrap ((IntKind.i64.wrap (x2 + 8)) + (W1 v4 v5 v6 v7)))).length ((sub a0 x2 (IntKind.i64.wrap ((IntKind.i64.wrap (x2 + 8)) + (W1 v4 v5 v6 v7)))).flatMap e_u8))))) 66 (st_ (ofNums (sub a0 x2 (IntKind.i64.wrap ((IntKind.i64.wrap (x2 + 8)) + (W1 v4 v5 v6 v7))))))) 67 (sb (!((ofNums r10).toList == (ofNums (sub a0 x2 (IntKind.i64.wrap ((IntKind.i64.wrap (x2 + 8)) + (W1 v4 v5 v6 v7))))).toList)))) 68 (sb (!((ofNums r10).toList == (ofNums (sub a0 x2 (IntKind.i64.wrap ((IntKind.i64.wrap (x2 + 8)) + (W1 v4 v5 v6 v7))))).toList)))), [(some (AObj.cells true (rowC (e_sl e_u8) x1))), (ow_ e_u8 r10)]⟩) (wg 0 [0, 1] [] hx (le_upd (le_upd (le_upd (le_upd (le_upd (le_upd (le_upd (le_upd (le_upd (le_upd (le_upd (le_upd (le_upd (le_upd (le_upd (le_upd (le_upd (le_upd (le_upd (le_upd (le_upd (le_upd (le_upd (le_upd (le_top _) (o1 .same)) (o1 (.own rfl))) (o1 .sc)) (o1 .sc)) (o1 .same)) (o1 .sc)) (o1 .sc)) (o1 .sc)) (o1 .sc)) (o1 .sc)) (o1 .sc)) (o1 .same)) (o1 (.own rfl))) (o1 .sc)) (o1 .same)) (o1 .sc)) (o1 .sc)) (o1 .sc)) (o1 .sc)) (o1 .sc)) (o1 .same)) (o1 .sc)) (o1 .sc)) (o1 .sc)) (ac (.cells (fun _ => rfl) (all2_row _)) (ac (.cells (fun _ => rfl) (all2_row _)) an))) (AWops.nil ?_)
      rcases itH h with ⟨c12, h⟩ | ⟨c12, h⟩
      ·refine AW.cond_no rfl (by rw [c12] <;> rfl) (AW.skip (AW.seq (AW.region ?_)))
       refine s_move (d := (D.one (C.own 0 0 x1.length 1))) rfl (s_buildSlice (n := 0) (ps := []) (cs := rowC e_u8 ([] : List Int)) F.u_22 F.sz_5 F.z_5 rfl rfl (by decide) (by decide) rfl rfl (s_move (d := (ds_ e_u8 a0)) rfl (s_move (d := (si x2)) rfl (s_binI (v := (.int .i64 (IntKind.i64.wrap (x2 + 8)))) rfl rfl rfl (s_move (d := (si x2)) rfl ?_)))))
       refine s_binI (v := (.int .i64 (IntKind.i64.wrap (x2 + 8)))) rfl rfl rfl (s_move (d := (si (W1 v4 v5 v6 v7))) rfl (s_binI (v := (.int .i64 (IntKind.i64.wrap ((IntKind.i64.wrap (x2 + 8)) + (W1 v4 v5 v6 v7))))) rfl rfl rfl ?_))
       have dc9 := of_decide_eq_true c9
       refine t_sliceImm (a := IntKind.i64.wrap (x2 + 8)) (b := IntKind.i64.wrap ((IntKind.i64.wrap (x2 + 8)) + (W1 v4 v5 v6 v7))) F.u_22 F.sz_5 e_u8_len rfl (by omega) (by omega) (by omega) (.yes rfl (by omega) rfl) (.yes rfl (by omega) rfl) ?_
       obtain ⟨c13, h⟩ := gdH h
       have dc13 := of_decide_eq_true c13
       refine t_append (xs := ([] : List Int)) (ys := sub a0 (IntKind.i64.wrap (x2 + 8)) (IntKind.i64.wrap ((IntKind.i64.wrap (x2 + 8)) + (W1 v4 v5 v6 v7)))) (zs := sub a0 (IntKind.i64.wrap (x2 + 8)) (IntKind.i64.wrap ((IntKind.i64.wrap (x2 + 8)) + (W1 v4 v5 v6 v7)))) (H' := [(some (AObj.cells true (rowC (e_sl e_u8) x1))), (ow_ e_u8 r10), none, (some (AObj.cells true (rowC e_u8 (sub a0 (IntKind.i64.wrap (x2 + 8)) (IntKind.i64.wrap ((IntKind.i64.wrap (x2 + 8)) + (W1 v4 v5 v6 v7)))))))]) F.u_22 F.in_5 rfl e_u8_len (.own rfl rfl) .imm F.u_22 (by omega) (by omega) rfl rfl ?_
       refine AWops.weak (st' := ⟨88, (upd 88 (upd 88 (upd 88 (upd 88 (upd 88 (upd 88 (upd 88 (upd 88 (upd 88 (upd 88 (upd 88 (upd 88 (upd 88 (upd 88 (upd 88 (upd 88 (upd 88 (upd 88 (upd 88 (upd 88 (upd 88 (upd 88 (upd 88 (upd 88 (upd 88 (upd 88 (upd 88 (upd 88 (upd 88 (upd 88 (upd 88 (upd 88 (upd 88 (upd 88 topF 0 (ds_ e_u8 a0)) 4 (D.one (C.own 0 0 x1.length 1))) 5 (si x2)) 6 (si (W1 v4 v5 v6 v7))) 49 (ds_ e_u8 a0)) 50 (si x2)) 51 (si (IntKind.i64.wrap (x2 + 8)))) 52 (si x2)) 53 (si (IntKind.i64.wrap (x2 + 8)))) 54 (si (W1 v4 v5 v6 v7))) 55 (si (IntKind.i64.wrap ((IntKind.i64.wrap (x2 + 8)) + (W1 v4 v5 v6 v7))))) 56 (D.one (C.p false (.sl (sub a0 (IntKind.i64.wrap (x2 + 8)) (IntKind.i64.wrap ((IntKind.i64.wrap (x2 + 8)) + (W1 v4 v5 v6 v7)))).length ((sub a0 (IntKind.i64.wrap (x2 + 8)) (IntKind.i64.wrap ((IntKind.i64.wrap (x2 + 8)) + (W1 v4 v5 v6 v7)))).flatMap e_u8))))) 57 (D.one (C.own 1 0 r10.length 1))) 58 (st_ (ofNums r10))) 59 (ds_ e_u8 a0)) 60 (si x2)) 61 (si x2)) 62 (si (IntKind.i64.wrap (x2 + 8)))) 63 (si (W1 v4 v5 v6 v7))) 64 (si (IntKind.i64.wrap ((IntKind.i64.wrap (x2 + 8)) + (W1 v4 v5 v6 v7))))) 65 (D.one (C.p false (.sl (sub a0 x2 (IntKind.i64.wrap ((IntKind.i64.wrap (x2 + 8)) + (W1 v4 v5 v6 v7)))).length ((sub a0 x2 (IntKind.i64.wrap ((IntKind.i64.wrap (x2 + 8)) + (W1 v4 v5 v6 v7)))).flatMap e_u8))))) 66 (st_ (ofNums (sub a0 x2 (IntKind.i64.wrap ((IntKind.i64.wrap (x2 + 8)) + (W1 v4 v5 v6 v7))))))) 67 (sb (!((ofNums r10).toList == (ofNums (sub a0 x2 (IntKind.i64.wrap ((IntKind.i64.wrap (x2 + 8)) + (W1 v4 v5 v6 v7))))).toList)))) 68 (sb (!((ofNums r10).toList == (ofNums (sub a0 x2 (IntKind.i64.wrap ((IntKind.i64.wrap (x2 + 8)) + (W1 v4 v5 v6 v7))))).toList)))) 69 (D.one (C.own 0 0 x1.length 1))) 71 (ds_ e_u8 a0)) 72 (si x2)) 73 (si (IntKind.i64.wrap (x2 + 8)))) 74 (si x2)) 75 (si (IntKind.i64.wrap (x2 + 8)))) 76 (si (W1 v4 v5 v6 v7))) 77 (si (IntKind.i64.wrap ((IntKind.i64.wrap (x2 + 8)) + (W1 v4 v5 v6 v7))))) 78 (D.one (C.p false (.sl (sub a0 (IntKind.i64.wrap (x2 + 8)) (IntKind.i64.wrap ((IntKind.i64.wrap (x2 + 8)) + (W1 v4 v5 v6 v7)))).length ((sub a0 (IntKind.i64.wrap (x2 + 8)) (IntKind.i64.wrap ((IntKind.i64.wrap (x2 + 8)) + (W1 v4 v5 v6 v7)))).flatMap e_u8))))) 79 (D.one (C.p false (.sl (sub a0 (IntKind.i64.wrap (x2 + 8)) (IntKind.i64.wrap ((IntKind.i64.wrap (x2 + 8)) + (W1 v4 v5 v6 v7)))).length ((sub a0 (IntKind.i64.wrap (x2 + 8)) (IntKind.i64.wrap ((IntKind.i64.wrap (x2 + 8)) + (W1 v4 v5 v6 v7)))).flatMap e_u8))))), [(some (AObj.cells true (rowC (e_sl e_u8) x1))), (ow_ e_u8 r10)]⟩) (wg 0 [0, 1] [3] hx (le_upd (le_upd (le_upd (le_upd (le_upd (le_upd (le_upd (le_upd (le_upd (le_upd (le_upd (le_upd (le_upd (le_upd (le_upd (le_upd (le_upd (le_upd (le_upd (le_upd (le_upd (le_upd (le_upd (le_upd (le_upd (le_upd (le_upd (le_upd (le_upd (le_upd (le_upd (le_upd (le_upd (le_upd (le_top _) (o1 .same)) (o1 (.own rfl))) (o1 .sc)) (o1 .sc)) (o1 .same)) (o1 .sc)) (o1 .sc)) (o1 .sc)) (o1 .sc)) (o1 .sc)) (o1 .sc)) (o1 .same)) (o1 (.own rfl))) (o1 .sc)) (o1 .same)) (o1 .sc)) (o1 .sc)) (o1 .sc)) (o1 .sc)) (o1 .sc)) (o1 .same)) (o1 .sc)) (o1 .sc)) (o1 .sc)) (o1 (.own rfl))) (o1 .same)) (o1 .sc)) (o1 .sc)) (o1 .sc)) (o1 .sc)) (o1 .sc)) (o1 .sc)) (o1 .same)) (o1 (CLe.frz e_u8_len rfl rfl rfl))) (ac (.cells (fun _ => rfl) (all2_row _)) (ac (.cells (fun _ => rfl) (all2_row _)) an))) ?_
       refine s_buildSlice (n := 1) (ps := [(0, (D.one (C.p false (.sl (sub a0 (IntKind.i64.wrap (x2 + 8)) (IntKind.i64.wrap ((IntKind.i64.wrap (x2 + 8)) + (W1 v4 v5 v6 v7)))).length ((sub a0 (IntKind.i64.wrap (x2 + 8)) (IntKind.i64.wrap ((IntKind.i64.wrap (x2 + 8)) + (W1 v4 v5 v6 v7)))).flatMap e_u8)))))]) (cs := rowC (e_sl e_u8) ([sub a0 (IntKind.i64.wrap (x2 + 8)) (IntKind.i64.wrap ((IntKind.i64.wrap (x2 + 8)) + (W1 v4 v5 v6 v7)))] : List (List Int))) F.u_25 F.sz_22 F.z_22 rfl rfl (by decide) (by decide) rfl rfl ?_
       obtain ⟨c14, h⟩ := gdH h
       have dc14 := of_decide_eq_true c14
       refine t_append (xs := x1) (ys := ([sub a0 (IntKind.i64.wrap (x2 + 8)) (IntKind.i64.wrap ((IntKind.i64.wrap (x2 + 8)) + (W1 v4 v5 v6 v7)))] : List (List Int))) (zs := x1 ++ ([sub a0 (IntKind.i64.wrap (x2 + 8)) (IntKind.i64.wrap ((IntKind.i64.wrap (x2 + 8)) + (W1 v4 v5 v6 v7)))] : List (List Int))) (H' := [none, (ow_ e_u8 r10), (some (AObj.cells true (rowC (e_sl e_u8) ([sub a0 (IntKind.i64.wrap (x2 + 8)) (IntKind.i64.wrap ((IntKind.i64.wrap (x2 + 8)) + (W1 v4 v5 v6 v7)))] : List (List Int))))), (some (AObj.cells true (rowC (e_sl e_u8) (x1 ++ ([sub a0 (IntKind.i64.wrap (x2 + 8)) (IntKind.i64.wrap ((IntKind.i64.wrap (x2 + 8)) + (W1 v4 v5 v6 v7)))] : List (List Int))))))]) F.u_25 F.in_22 rfl (e_sl_len _) (.own rfl rfl) (.own rfl rfl) F.u_25 (by omega) (by omega) rfl rfl (s_assign (d := (D.one (C.own 3 0 ((x1 ++ ([sub a0 (IntKind.i64.wrap (x2 + 8)) (IntKind.i64.wrap ((IntKind.i64.wrap (x2 + 8)) + (W1 v4 v5 v6 v7)))] : List (List Int))).length) 1))) rfl (AWops.nil (AW.region (s_move (d := (si x2)) rfl (s_move (d := (si (W1 v4 v5 v6 v7))) rfl (s_binI (v := (.int .i64 (IntKind.i64.wrap (8 + (W1 v4 v5 v6 v7))))) rfl rfl rfl (s_binI (v := (.int .i64 (IntKind.i64.wrap (x2 + (IntKind.i64.wrap (8 + (W1 v4 v5 v6 v7))))))) rfl rfl rfl ?_)))))))
       refine s_assign (d := (si (IntKind.i64.wrap (x2 + (IntKind.i64.wrap (8 + (W1 v4 v5 v6 v7))))))) rfl (AWops.nil ?_)
       exact ⟨_, ⟨88, (upd 88 (upd 88 (upd 88 topF 0 (ds_ e_u8 a0)) 4 (D.one (C.own 0 0 (x1 ++ ([sub a0 (IntKind.i64.wrap (x2 + 8)) (IntKind.i64.wrap ((IntKind.i64.wrap (x2 + 8)) + (W1 v4 v5 v6 v7)))] : List (List Int))).length 1))) 5 (si (IntKind.i64.wrap (x2 + (IntKind.i64.wrap (8 + (W1 v4 v5 v6 v7))))))), [(some (AObj.cells true (rowC (e_sl e_u8) (x1 ++ ([sub a0 (IntKind.i64.wrap (x2 + 8)) (IntKind.i64.wrap ((IntKind.i64.wrap (x2 + 8)) + (W1 v4 v5 v6 v7)))] : List (List Int))))))]⟩, by omega, (wg 0 [3] [] hx (le_upd (le_upd (le_upd (le_top _) (o1 .same)) (o1 (.own rfl))) (o1 .sc)) (ac (.cells (fun _ => rfl) (all2_row _)) an)), by omega, x1 ++ ([sub a0 (IntKind.i64.wrap (x2 + 8)) (IntKind.i64.wrap ((IntKind.i64.wrap (x2 + 8)) + (W1 v4 v5 v6 v7)))] : List (List Int)), IntKind.i64.wrap (x2 + (IntKind.i64.wrap (8 + (W1 v4 v5 v6 v7)))), h, rfl⟩
      ·refine AW.cond_yes rfl (by rw [c12] <;> rfl) (AW.exit (AW.seq (AW.region ?_)))
       refine s_move (d := (D.one (C.own 0 0 x1.length 1))) rfl (s_move (d := (si x2)) rfl (s_assign (d := (D.one (C.own 0 0 x1.length 1))) rfl (s_assign (d := (si x2)) rfl (AWops.nil (AW.ret ?_)))))
       obtain rfl := Option.some.inj h
       exact ⟨_, rfl, (wg 0 [0] [] rfl (le_upd (le_top _) (DLe.tup (ac (TLe.one (.own rfl)) (ac (TLe.one .sc) an)))) (ac (.cells (fun _ => rfl) (all2_row _)) an))⟩
  ·refine AW.cond_no rfl c3 (AW.exit (AW.seq (AW.region ?_)))
   refine s_move (d := (D.one (C.own 0 0 x1.length 1))) rfl (s_move (d := (si x2)) rfl (s_assign (d := (D.one (C.own 0 0 x1.length 1))) rfl (s_assign (d := (si x2)) rfl (AWops.nil (AW.ret ?_)))))
   obtain rfl := Option.some.inj h
   exact ⟨_, rfl, (wg 0 [0] [] rfl (le_upd (le_top _) (DLe.tup (ac (TLe.one (.own rfl)) (ac (TLe.one .sc) an)))) (ac (.cells (fun _ => rfl) (all2_row _)) an))⟩
end Go.Abs.GenO
