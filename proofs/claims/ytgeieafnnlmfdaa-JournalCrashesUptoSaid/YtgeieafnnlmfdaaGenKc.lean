import Derived.Test.YtgeieafnnlmfdaaGenKb
set_option linter.unusedVariables false
set_option linter.unusedSimpArgs false
set_option maxRecDepth 100000
set_option maxHeartbeats 4000000
namespace Go.Abs.GenK
open Go.Abs Go.Proofs
def vdisk_Disk_cut_59.f (k : Nat) (p0 : vdisk_Disk) (a1 : ByteArray) (p2 : Int) : Option vdisk_Disk := some (⟨mdel a1 p0.files, p0.room, IntKind.i64.wrap (p0.used - (((lk_vdisk_file a1 p0.files).b).length : Int)), (), p0.dead⟩ : vdisk_Disk)
theorem vdisk_Disk_cut_59.meets (k : Nat) (p0 : vdisk_Disk) (a1 : ByteArray) (p2 : Int) (r : vdisk_Disk) (h : vdisk_Disk_cut_59.f k p0 a1 p2 = some r) : Meets Try.prog 59 [(rf 0 0), (st_ a1)] [(o_vdisk_Disk_03 false (C.mp 1) (C.ref 2 0) p0), (om_ e_vdisk_file p0.files), (bx p2)] (D.tup []) [(o_vdisk_Disk_03 false (C.mp 1) (C.ref 2 0) r), (om_ e_vdisk_file r.files), (bx p2)] := by
 unfold vdisk_Disk_cut_59.f at h
 refine Meets.of_body (n := 24) Try.func59 rfl rfl (nl rfl) fun x hx => ?_
 replace hx : x.k = 3 := hx
 show AW _ x _ _ ⟨24, fr0 [(rf 0 0), (st_ a1)], [(o_vdisk_Disk_03 false (C.mp 1) (C.ref 2 0) p0), (om_ e_vdisk_file p0.files), (bx p2)]⟩
 refine AW.seq ?_
 refine AW.weak (st' := ⟨24, (upd 24 (upd 24 topF 0 (rf 0 0)) 1 (st_ a1)), [(o_vdisk_Disk_03 false (C.mp 1) (C.ref 2 0) p0), (om_ e_vdisk_file p0.files), (bx p2)]⟩) (wg 3 [0, 1, 2] [] hx (le_upd (le_upd (le_top _) (o1 (.ref rfl))) (o1 .sc)) (ac (qr rfl rfl) (ac .map (ac qb an)))) ?_
 refine AW.draw (n := 24) (L := 3) [(ft 0 4 (rf 0 0) [(0, (rf 0 0))]), (ft 1 5 (rf 0 0) [(4, (rf 0 0))]), (ft 2 6 (rf 0 2) [(5, (rf 0 0))]), (3, ⟨some 7, (si p0.used), [(6, (rf 0 2))], [(0, (o_vdisk_Disk_03 false (C.mp 1) (C.ref 2 0) p0))], [], none⟩), (ft 4 8 (rf 0 0) [(0, (rf 0 0))]), (ft 5 9 (rf 0 0) [(8, (rf 0 0))]), (ft 6 10 (rf 0 0) [(9, (rf 0 0))]), (7, ⟨some 11, (D.one (C.mp 1)), [(10, (rf 0 0))], [(0, (o_vdisk_Disk_03 false (C.mp 1) (C.ref 2 0) p0))], [], none⟩), (ft 8 12 (st_ a1) [(1, (st_ a1))]), (9, ⟨some 13, (D.agg (c_vdisk_file (lk_vdisk_file a1 p0.files))), [(11, (D.one (C.mp 1))), (12, (st_ a1))], [(1, (om_ e_vdisk_file p0.files))], [], none⟩), (ft 10 14 (D.one (C.p false (.sl ((lk_vdisk_file a1 p0.files).b).length (((lk_vdisk_file a1 p0.files).b).flatMap e_u8)))) [(13, (D.agg (c_vdisk_file (lk_vdisk_file a1 p0.files))))]), (ft 11 15 (si (((lk_vdisk_file a1 p0.files).b).length : Int)) [(14, (D.one (C.p false (.sl ((lk_vdisk_file a1 p0.files).b).length (((lk_vdisk_file a1 p0.files).b).flatMap e_u8)))))]), (ft 12 16 (si (IntKind.i64.wrap (p0.used - (((lk_vdisk_file a1 p0.files).b).length : Int)))) [(7, (si p0.used)), (15, (si (((lk_vdisk_file a1 p0.files).b).length : Int)))]), (ft 13 17 (rf 0 0) [(4, (rf 0 0))]), (ft 14 18 (rf 0 2) [(17, (rf 0 0))]), (15, ⟨none, (D.one C.top), [(16, (si (IntKind.i64.wrap (p0.used - (((lk_vdisk_file a1 p0.files).b).length : Int))))), (18, (rf 0 2))], [(0, (o_vdisk_Disk_03 false (C.mp 1) (C.ref 2 0) p0))], [(0, (some (AObj.cells false [(C.mp 1), (ci p0.room), (ci (IntKind.i64.wrap (p0.used - (((lk_vdisk_file a1 p0.files).b).length : Int)))), (C.ref 2 0), (cb p0.dead)])))], none⟩)] [[], [0], [0, 1], [0, 1, 2], [], [4], [4, 5], [4, 5, 6], [], [4, 5, 6, 7, 8], [4, 5, 6, 7, 8, 9], [4, 5, 6, 7, 8, 9, 10], (.range 12), (.range 13), (.range 14), (.range 15)] (nl rfl) [0, 1, 2, 3, 0, 1, 2, 3, 0, 4, 5, 6, 7, 8, 9, 10] rfl (TK := []) rfl AllK.nil' (by repeat (first | refine fC ⟨?_, ?_⟩ ?_ | refine sC rfl ?_ | refine hC rfl ?_ | trivial)) ?_ ?_
 ·refine y8 ?_ ?_ ?_ ?_ ?_ ?_ ?_ ?_ (y8 ?_ ?_ ?_ ?_ ?_ ?_ ?_ ?_ yN)
  ·intro K _ f w u k
   show Wp K ⟨24, (upd 24 f 0 (rf 0 0)), _⟩
   refine s_move (d := (rf 0 0)) rfl k
  ·intro K _ f w u k
   show Wp K ⟨24, (upd 24 f 4 (rf 0 0)), [_, _, _]⟩
   refine s_nilCheck (d := (rf 0 0)) rfl (.inl ⟨_, _, rfl⟩) k
  ·intro K _ f w u k
   show Wp K ⟨24, (upd 24 f 5 (rf 0 0)), [_, _, _]⟩
   refine s_fieldRef F.fo_37_2 (by decide) rfl k
  ·intro K _ f w u k
   show Wp K ⟨24, (upd 24 f 6 (rf 0 2)), [(o_vdisk_Disk_03 false (C.mp 1) (C.ref 2 0) p0), _, _]⟩
   refine s_load1 (c' := (ci p0.used)) F.ag_3 rfl rfl k
  ·intro K _ f w u k
   show Wp K ⟨24, (upd 24 f 0 (rf 0 0)), _⟩
   refine s_move (d := (rf 0 0)) rfl k
  ·intro K _ f w u k
   show Wp K ⟨24, (upd 24 f 8 (rf 0 0)), [_, _, _]⟩
   refine s_nilCheck (d := (rf 0 0)) rfl (.inl ⟨_, _, rfl⟩) k
  ·intro K _ f w u k
   show Wp K ⟨24, (upd 24 f 9 (rf 0 0)), [_, _, _]⟩
   refine s_fieldRef F.fo_37_0 (by decide) rfl k
  ·intro K _ f w u k
   show Wp K ⟨24, (upd 24 f 10 (rf 0 0)), [(o_vdisk_Disk_03 false (C.mp 1) (C.ref 2 0) p0), _, _]⟩
   refine s_load1 (c' := (C.mp 1)) F.ag_34 rfl rfl k
  ·intro K _ f w u k
   show Wp K ⟨24, (upd 24 f 1 (st_ a1)), _⟩
   refine s_move (d := (st_ a1)) rfl k
  ·intro K _ f w u k
   show Wp K ⟨24, (upd 24 (upd 24 f 12 (st_ a1)) 11 (D.one (C.mp 1))), [_, (om_ e_vdisk_file p0.files), _]⟩
   refine t_lookup (b := true) F.u_34 F.u_9 F.z_79 (z := ((⟨([] : List Int), 0⟩ : vdisk_file) : vdisk_file)) (zs := [(.slice none 0 0), (.int .i64 0)]) rfl (fun h => by cases h) (ac ZRel.n (ac (ZRel.v _ rfl) an)) rfl rfl rfl rfl k
  ·intro K _ f w u k
   show Wp K ⟨24, (upd 24 f 13 (D.agg (c_vdisk_file (lk_vdisk_file a1 p0.files)))), [_, _, _]⟩
   refine s_field1 (c := (C.p false (.sl ((lk_vdisk_file a1 p0.files).b).length (((lk_vdisk_file a1 p0.files).b).flatMap e_u8)))) F.fo_79_0 rfl rfl k
  ·intro K _ f w u k
   show Wp K ⟨24, (upd 24 f 14 (D.one (C.p false (.sl ((lk_vdisk_file a1 p0.files).b).length (((lk_vdisk_file a1 p0.files).b).flatMap e_u8))))), [_, _, _]⟩
   refine s_len (n := ((lk_vdisk_file a1 p0.files).b).length) F.u_22 rfl (.inr ⟨(fun _ _ h => by cases h), ⟨_, rfl⟩⟩) k
  ·intro K _ f w u k
   show Wp K ⟨24, (upd 24 (upd 24 f 15 (si (((lk_vdisk_file a1 p0.files).b).length : Int))) 7 (si p0.used)), _⟩
   refine s_binI (v := (.int .i64 (IntKind.i64.wrap (p0.used - (((lk_vdisk_file a1 p0.files).b).length : Int))))) rfl rfl rfl k
  ·intro K _ f w u k
   show Wp K ⟨24, (upd 24 f 4 (rf 0 0)), [_, _, _]⟩
   refine s_nilCheck (d := (rf 0 0)) rfl (.inl ⟨_, _, rfl⟩) k
  ·intro K _ f w u k
   show Wp K ⟨24, (upd 24 f 17 (rf 0 0)), [_, _, _]⟩
   refine s_fieldRef F.fo_37_2 (by decide) rfl k
  ·intro K _ f w u k
   show Wp K ⟨24, (upd 24 (upd 24 f 18 (rf 0 2)) 16 (si (IntKind.i64.wrap (p0.used - (((lk_vdisk_file a1 p0.files).b).length : Int))))), [(o_vdisk_Disk_03 false (C.mp 1) (C.ref 2 0) p0), _, _]⟩
   refine s_store (cs' := [(C.mp 1), (ci p0.room), (ci (IntKind.i64.wrap (p0.used - (((lk_vdisk_file a1 p0.files).b).length : Int)))), (C.ref 2 0), (cb p0.dead)]) rfl rfl rfl (List.cons_ne_nil _ _) rfl F.sz_3 (nl rfl) rfl k
 ·refine AWops.weak (st' := ⟨24, (upd 24 (upd 24 topF 0 (rf 0 0)) 1 (st_ a1)), [(some (AObj.cells false [(C.mp 1), (ci p0.room), (ci (IntKind.i64.wrap (p0.used - (((lk_vdisk_file a1 p0.files).b).length : Int)))), (C.ref 2 0), (cb p0.dead)])), (om_ e_vdisk_file p0.files), (bx p2)]⟩) (wg 3 [0, 1, 2] [] hx (le_upd (le_upd (le_top _) (o1 (.ref rfl))) (o1 .sc)) (ac (qr rfl rfl) (ac .map (ac qb an)))) (AWops.nil (AW.region ?_))
  refine s_move (d := (rf 0 0)) rfl (s_nilCheck (d := (rf 0 0)) rfl (.inl ⟨_, _, rfl⟩) (s_fieldRef F.fo_37_0 (by decide) rfl (s_load1 (c' := (C.mp 1)) F.ag_34 rfl rfl (s_move (d := (st_ a1)) rfl (t_mapDel F.u_34 F.u_9 rfl rfl rfl rfl rfl (AWops.nil ?_))))))
  obtain rfl := Option.some.inj h
  exact ⟨_, rfl, (wg 3 [0, 1, 2] [] rfl (le_upd (le_top _) (DLe.tup an)) (ac (qr rfl rfl) (ac .map (ac qb an))))⟩
def vdisk_Disk_Rename_42.f (k : Nat) (p0 : vdisk_Disk) (a1 : ByteArray) (a2 : ByteArray) (p2 : Int) : Option (Int × vdisk_Disk × Int) := (vdisk_named.f k a2).bind fun r1 => (vdisk_Disk_change_55.f k p0 r1 a1 false 0 p2).bind fun r2 => if (r2.1 == 0) = true then (if (a1.toList == a2.toList) = true then (some (r2.1, r2.2.1, r2.2.2)) else ((vdisk_Disk_cut_59.f k r2.2.1 a1 r2.2.2).bind fun r5 => (vdisk_Disk_set_36.f k r5 a2 (lk_vdisk_file a1 r2.2.1.files) r2.2.2).bind fun r6 => some (r2.1, r6, r2.2.2))) else (some (r2.1, r2.2.1, r2.2.2))
theorem vdisk_Disk_Rename_42.meets (k : Nat) (p0 : vdisk_Disk) (a1 : ByteArray) (a2 : ByteArray) (p2 : Int) (r : Int × vdisk_Disk × Int) (h : vdisk_Disk_Rename_42.f k p0 a1 a2 p2 = some r) : Meets Try.prog 42 [(rf 0 0), (st_ a1), (st_ a2)] [(o_vdisk_Disk_03 false (C.mp 1) (C.ref 2 0) p0), (om_ e_vdisk_file p0.files), (bx p2)] (si r.1) [(o_vdisk_Disk_03 false (C.mp 1) (C.ref 2 0) r.2.1), (om_ e_vdisk_file r.2.1.files), (bx r.2.2)] := by
 unfold vdisk_Disk_Rename_42.f at h
 refine Meets.of_body (n := 35) Try.func42 rfl rfl (nl rfl) fun x hx => ?_
 replace hx : x.k = 3 := hx
 show AW _ x _ _ ⟨35, fr0 [(rf 0 0), (st_ a1), (st_ a2)], [(o_vdisk_Disk_03 false (C.mp 1) (C.ref 2 0) p0), (om_ e_vdisk_file p0.files), (bx p2)]⟩
 refine AW.seq (AW.region ?_)
 refine s_assign (d := (si 0)) rfl (AWops.nil (AW.seq (AW.region ?_)))
 refine s_move (d := (rf 0 0)) rfl (s_move (d := (st_ a2)) rfl ?_)
 obtain ⟨r1, er1, h⟩ := bnd h
 refine cc [] [(o_vdisk_Disk_03 false (C.mp 1) (C.ref 2 0) p0), (om_ e_vdisk_file p0.files), (bx p2)] (sb r1) F.ca_56 rfl rfl (ac (.one .sc) an) an (vdisk_named.meets _ a2 r1 er1) (s_move (d := (st_ a1)) rfl ?_)
 obtain ⟨r2, er2, h⟩ := bnd h
 refine cc [0, 1, 2] [(o_vdisk_Disk_03 false (C.mp 1) (C.ref 2 0) r2.2.1), (om_ e_vdisk_file r2.2.1.files), (bx r2.2.2)] (si r2.1) F.ca_55 rfl rfl (ac (.one (.ref rfl)) (ac (.one .sc) (ac (.one .sc) (ac (.one .sc) (ac (.one .sc) an))))) (ac (.cells (ac (.mp rfl) (ac .sc (ac .sc (ac (.ref rfl) (ac .sc an)))))) (ac .map (ac (.cells (ac .sc an)) an))) (vdisk_Disk_change_55.meets _ p0 r1 a1 false 0 p2 r2 er2) (s_assign (d := (si r2.1)) rfl (AWops.nil (AW.seq (AW.seq (AW.region (s_move (d := (si r2.1)) rfl (s_binI (v := (.bool (r2.1 == 0))) rfl rfl rfl (s_move (d := (sb (r2.1 == 0))) rfl ?_))))))))
 rcases itH h with ⟨c3, h⟩ | ⟨c3, h⟩
 ·refine AWops.guard_yes rfl (nl rfl) rfl c3 ?_
  refine s_move (d := (st_ a1)) rfl ?_
  refine AWops.guard_yes rfl (nl rfl) rfl c3 ?_
  refine s_move (d := (st_ a2)) rfl ?_
  refine AWops.guard_yes rfl (nl rfl) rfl c3 ?_
  refine s_binS (v := (.bool (!(a1.toList == a2.toList)))) rfl rfl rfl (s_pick_yes (d := (sb (!(a1.toList == a2.toList)))) rfl c3 rfl (AWops.nil ?_))
  rcases itH h with ⟨c4, h⟩ | ⟨c4, h⟩
  ·refine AW.cond_no rfl (by rw [c4] <;> rfl) (AW.skip (AW.seq (AW.region ?_)))
   refine s_move (d := (si r2.1)) rfl (s_assign (d := (si r2.1)) rfl (AWops.nil (AW.ret ?_)))
   obtain rfl := Option.some.inj h
   exact ⟨_, rfl, (wg 3 [0, 1, 2] [] rfl (le_upd (le_top _) (o1 .sc)) (ac (qr rfl rfl) (ac .map (ac qb an))))⟩
  ·refine AW.cond_yes rfl (by rw [c4] <;> rfl) (AW.seq (AW.region ?_))
   refine s_move (d := (rf 0 0)) rfl (s_nilCheck (d := (rf 0 0)) rfl (.inl ⟨_, _, rfl⟩) (s_fieldRef F.fo_37_0 (by decide) rfl (s_load1 (c' := (C.mp 1)) F.ag_34 rfl rfl (s_move (d := (st_ a1)) rfl (t_lookup (b := true) F.u_34 F.u_9 F.z_79 (z := ((⟨([] : List Int), 0⟩ : vdisk_file) : vdisk_file)) (zs := [(.slice none 0 0), (.int .i64 0)]) rfl (fun h => by cases h) (ac ZRel.n (ac (ZRel.v _ rfl) an)) rfl rfl rfl rfl ?_)))))
   refine s_alloc (cs := [(C.p true (.v (.slice none 0 0))), (ci 0)]) F.z_79 rfl rfl (s_store (cs' := (c_vdisk_file (lk_vdisk_file a1 r2.2.1.files))) rfl rfl rfl (List.cons_ne_nil _ _) rfl F.sz_79 (nl rfl) rfl (AWops.nil (AW.seq (AW.region (s_move (d := (rf 0 0)) rfl (s_move (d := (st_ a1)) rfl ?_))))))
   obtain ⟨r5, er5, h⟩ := bnd h
   refine cc [0, 1, 2] [(o_vdisk_Disk_03 false (C.mp 1) (C.ref 2 0) r5), (om_ e_vdisk_file r5.files), (bx r2.2.2), (some (AObj.cells true (c_vdisk_file (lk_vdisk_file a1 r2.2.1.files))))] (D.tup []) F.ca_59 rfl rfl (ac (.one (.ref rfl)) (ac (.one .sc) an)) (ac (.cells (ac (.mp rfl) (ac .sc (ac .sc (ac (.ref rfl) (ac .sc an)))))) (ac .map (ac (.cells (ac .sc an)) an))) (vdisk_Disk_cut_59.meets _ r2.2.1 a1 r2.2.2 r5 er5) (AWops.nil (AW.region ?_))
   refine s_move (d := (rf 0 0)) rfl (s_move (d := (st_ a2)) rfl (s_loadN (ds := (c_vdisk_file (lk_vdisk_file a1 r2.2.1.files))) F.ag_79 F.sz_79 rfl rfl rfl ?_))
   obtain ⟨r6, er6, h⟩ := bnd h
   refine cc [0, 1, 2] [(o_vdisk_Disk_03 false (C.mp 1) (C.ref 2 0) r6), (om_ e_vdisk_file r6.files), (bx r2.2.2), (some (AObj.cells true (c_vdisk_file (lk_vdisk_file a1 r2.2.1.files))))] (D.tup []) F.ca_36 rfl rfl (ac (.one (.ref rfl)) (ac (.one .sc) (ac (LendT.aggL (ac .imm (ac .sc an))) an))) (ac (.cells (ac (.mp rfl) (ac .sc (ac .sc (ac (.ref rfl) (ac .sc an)))))) (ac .map (ac (.cells (ac .sc an)) an))) (vdisk_Disk_set_36.meets _ r5 a2 (lk_vdisk_file a1 r2.2.1.files) r2.2.2 r6 er6) (AWops.nil (AW.seq (AW.region ?_)))
   refine s_move (d := (si r2.1)) rfl (s_assign (d := (si r2.1)) rfl (AWops.nil (AW.ret ?_)))
   obtain rfl := Option.some.inj h
   exact ⟨_, rfl, (wg 3 [0, 1, 2] [] rfl (le_upd (le_top _) (o1 .sc)) (ac (qr rfl rfl) (ac .map (ac qb an))))⟩
 ·iterate 3 refine AWops.guard_no rfl (nl rfl) rfl c3 ?_
  refine s_pick_no (d := (sb false)) rfl c3 rfl (AWops.nil ?_)
  refine AW.cond_no rfl rfl (AW.skip (AW.seq (AW.region ?_)))
  refine s_move (d := (si r2.1)) rfl (s_assign (d := (si r2.1)) rfl (AWops.nil (AW.ret ?_)))
  obtain rfl := Option.some.inj h
  exact ⟨_, rfl, (wg 3 [0, 1, 2] [] rfl (le_upd (le_top _) (o1 .sc)) (ac (qr rfl rfl) (ac .map (ac qb an))))⟩
def journal_replace_29.f (k : Nat) (p0 : vdisk_Disk) (a1 : List Int) (p2 : Int) : Option (Int × vdisk_Disk × Int) := (journal_frame.f k a1).bind fun r1 => (vdisk_Disk_Append_25.f k p0 (⟨#[106, 111, 117, 114, 110, 97, 108, 46, 110, 101, 119]⟩ : ByteArray) r1 p2).bind fun r2 => if (r2.1 == 0) = true then ((vdisk_Disk_Sync_27.f k r2.2.1 (⟨#[106, 111, 117, 114, 110, 97, 108, 46, 110, 101, 119]⟩ : ByteArray) r2.2.2).bind fun r4 => if (r4.1 == 0) = true then ((vdisk_Disk_Rename_42.f k r4.2.1 (⟨#[106, 111, 117, 114, 110, 97, 108, 46, 110, 101, 119]⟩ : ByteArray) (⟨#[106, 111, 117, 114, 110, 97, 108]⟩ : ByteArray) r4.2.2).bind fun r6 => some (r6.1, r6.2.1, r6.2.2)) else (some (r4.1, r4.2.1, r4.2.2))) else (some (r2.1, r2.2.1, r2.2.2))
theorem journal_replace_29.meets (k : Nat) (p0 : vdisk_Disk) (a1 : List Int) (p2 : Int) (r : Int × vdisk_Disk × Int) (h : journal_replace_29.f k p0 a1 p2 = some r) : Meets Try.prog 29 [(rf 0 0), (ds_ e_u8 a1)] [(o_vdisk_Disk_03 false (C.mp 1) (C.ref 2 0) p0), (om_ e_vdisk_file p0.files), (bx p2)] (si r.1) [(o_vdisk_Disk_03 false (C.mp 1) (C.ref 2 0) r.2.1), (om_ e_vdisk_file r.2.1.files), (bx r.2.2)] := by
 unfold journal_replace_29.f at h
 refine Meets.of_body (n := 19) Try.func29 rfl rfl (nl rfl) fun x hx => ?_
 replace hx : x.k = 3 := hx
 show AW _ x _ _ ⟨19, fr0 [(rf 0 0), (ds_ e_u8 a1)], [(o_vdisk_Disk_03 false (C.mp 1) (C.ref 2 0) p0), (om_ e_vdisk_file p0.files), (bx p2)]⟩
 refine AW.seq (AW.region ?_)
 refine s_assign (d := (si 0)) rfl (AWops.nil (AW.seq (AW.region ?_)))
 refine s_move (d := (rf 0 0)) rfl (s_move (d := (ds_ e_u8 a1)) rfl ?_)
 obtain ⟨r1, er1, h⟩ := bnd h
 refine cc [] [(o_vdisk_Disk_03 false (C.mp 1) (C.ref 2 0) p0), (om_ e_vdisk_file p0.files), (bx p2), (ow_ e_u8 r1)] (D.one (C.own 3 0 r1.length 1)) F.ca_26 rfl rfl (ac (.one .imm) an) an (journal_frame.meets _ a1 r1 er1) ?_
 obtain ⟨r2, er2, h⟩ := bnd h
 refine cc [0, 3, 1, 2] [(o_vdisk_Disk_03 false (C.mp 1) (C.ref 2 0) r2.2.1), (om_ e_vdisk_file r2.2.1.files), (bx r2.2.2), (ow_ e_u8 r1)] (si r2.1) F.ca_25 rfl rfl (ac (.one (.ref rfl)) (ac (.one .sc) (ac (.one (.own rfl)) an))) (ac (.cells (ac (.mp rfl) (ac .sc (ac .sc (ac (.ref rfl) (ac .sc an)))))) (ac (.cells (lend_row _)) (ac .map (ac (.cells (ac .sc an)) an)))) (vdisk_Disk_Append_25.meets _ p0 (⟨#[106, 111, 117, 114, 110, 97, 108, 46, 110, 101, 119]⟩ : ByteArray) r1 p2 r2 er2) (s_assign (d := (si r2.1)) rfl (AWops.nil (AW.seq (AW.seq (AW.region (s_move (d := (si r2.1)) rfl (s_binI (v := (.bool (r2.1 == 0))) rfl rfl rfl (AWops.nil ?_))))))))
 rcases itH h with ⟨c3, h⟩ | ⟨c3, h⟩
 ·refine AW.cond_yes rfl c3 (AW.region ?_)
  refine s_move (d := (rf 0 0)) rfl ?_
  obtain ⟨r4, er4, h⟩ := bnd h
  refine cc [0, 1, 2] [(o_vdisk_Disk_03 false (C.mp 1) (C.ref 2 0) r4.2.1), (om_ e_vdisk_file r4.2.1.files), (bx r4.2.2), (ow_ e_u8 r1)] (si r4.1) F.ca_27 rfl rfl (ac (.one (.ref rfl)) (ac (.one .sc) an)) (ac (.cells (ac (.mp rfl) (ac .sc (ac .sc (ac (.ref rfl) (ac .sc an)))))) (ac .map (ac (.cells (ac .sc an)) an))) (vdisk_Disk_Sync_27.meets _ r2.2.1 (⟨#[106, 111, 117, 114, 110, 97, 108, 46, 110, 101, 119]⟩ : ByteArray) r2.2.2 r4 er4) (s_assign (d := (si r4.1)) rfl (AWops.nil (AW.seq (AW.seq (AW.region (s_move (d := (si r4.1)) rfl (s_binI (v := (.bool (r4.1 == 0))) rfl rfl rfl (AWops.nil ?_))))))))
  rcases itH h with ⟨c5, h⟩ | ⟨c5, h⟩
  ·refine AW.cond_yes rfl c5 (AW.region ?_)
   refine s_move (d := (rf 0 0)) rfl ?_
   obtain ⟨r6, er6, h⟩ := bnd h
   refine cc [0, 1, 2] [(o_vdisk_Disk_03 false (C.mp 1) (C.ref 2 0) r6.2.1), (om_ e_vdisk_file r6.2.1.files), (bx r6.2.2), (ow_ e_u8 r1)] (si r6.1) F.ca_42 rfl rfl (ac (.one (.ref rfl)) (ac (.one .sc) (ac (.one .sc) an))) (ac (.cells (ac (.mp rfl) (ac .sc (ac .sc (ac (.ref rfl) (ac .sc an)))))) (ac .map (ac (.cells (ac .sc an)) an))) (vdisk_Disk_Rename_42.meets _ r4.2.1 (⟨#[106, 111, 117, 114, 110, 97, 108, 46, 110, 101, 119]⟩ : ByteArray) (⟨#[106, 111, 117, 114, 110, 97, 108]⟩ : ByteArray) r4.2.2 r6 er6) (s_assign (d := (si r6.1)) rfl (AWops.nil (AW.seq (AW.region (s_move (d := (si r6.1)) rfl (s_assign (d := (si r6.1)) rfl (AWops.nil (AW.ret ?_))))))))
   obtain rfl := Option.some.inj h
   exact ⟨_, rfl, (wg 3 [0, 1, 2] [] rfl (le_upd (le_top _) (o1 .sc)) (ac (qr rfl rfl) (ac .map (ac qb an))))⟩
  ·refine AW.cond_no rfl c5 (AW.skip (AW.seq (AW.region ?_)))
   refine s_move (d := (si r4.1)) rfl (s_assign (d := (si r4.1)) rfl (AWops.nil (AW.ret ?_)))
   obtain rfl := Option.some.inj h
   exact ⟨_, rfl, (wg 3 [0, 1, 2] [] rfl (le_upd (le_top _) (o1 .sc)) (ac (qr rfl rfl) (ac .map (ac qb an))))⟩
 ·refine AW.cond_no rfl c3 (AW.skip (AW.seq (AW.seq (AW.region ?_))))
  refine s_move (d := (si r2.1)) rfl (s_binI (v := (.bool (r2.1 == 0))) rfl rfl rfl (AWops.nil ?_))
  refine AW.cond_no rfl c3 (AW.skip (AW.seq (AW.region ?_)))
  refine s_move (d := (si r2.1)) rfl (s_assign (d := (si r2.1)) rfl (AWops.nil (AW.ret ?_)))
  obtain rfl := Option.some.inj h
  exact ⟨_, rfl, (wg 3 [0, 1, 2] [] rfl (le_upd (le_top _) (o1 .sc)) (ac (qr rfl rfl) (ac .map (ac qb an))))⟩
def journal_Journal_Compact_fresh_8.f (k : Nat) (p0 : journal_Journal) (a1 : List Int) (p1 : vdisk_Disk) (b1_3 : Int) : Option (Int × journal_Journal × vdisk_Disk × Int) := (journal_Journal_may_fresh_24.f k (⟨(), p0.snap, p0.l, p0.stopped⟩ : journal_Journal) (decide ((a1.length : Int) ≤ 4194304)) p1 b1_3).bind fun r1 => if (r1.1 != 0) = true then (some (r1.1, (⟨(), r1.2.snap, r1.2.l, r1.2.stopped⟩ : journal_Journal), p1, b1_3)) else ((journal_replace_29.f k p1 a1 b1_3).bind fun r3 => if (r3.1 == 0) = true then ((slices_Clone_byte_byte.f k a1).bind fun r5 => some (0, (⟨(), r5, ([] : List (List Int)), r1.2.stopped⟩ : journal_Journal), r3.2.1, r3.2.2)) else (if (r3.1 == 71) = true then (some (r3.1, (⟨(), r1.2.snap, r1.2.l, r1.2.stopped⟩ : journal_Journal), r3.2.1, r3.2.2)) else (some (r3.1, (⟨(), r1.2.snap, r1.2.l, true⟩ : journal_Journal), r3.2.1, r3.2.2))))
theorem journal_Journal_Compact_fresh_8.meets (k : Nat) (p0 : journal_Journal) (a1 : List Int) (p1 : vdisk_Disk) (b1_3 : Int) (r : Int × journal_Journal × vdisk_Disk × Int) (h : journal_Journal_Compact_fresh_8.f k p0 a1 p1 b1_3 = some r) : Meets Try.prog 8 [(rf 0 0), (ds_ e_u8 a1)] [(o_journal_Journal_02 false (C.ref 1 0) (C.own 3 0 p0.l.length 1) p0), (o_vdisk_Disk_03 false (C.mp 2) (C.ref 4 0) p1), (om_ e_vdisk_file p1.files), (some (AObj.cells false (rowC (e_sl e_u8) p0.l))), (bx b1_3)] (si r.1) [(o_journal_Journal_02 false (C.ref 1 0) (C.own 5 0 r.2.1.l.length 1) r.2.1), (o_vdisk_Disk_03 false (C.mp 2) (C.ref 6 0) r.2.2.1), (om_ e_vdisk_file r.2.2.1.files), none, none, (some (AObj.cells false (rowC (e_sl e_u8) r.2.1.l))), (bx r.2.2.2)] := by
 unfold journal_Journal_Compact_fresh_8.f at h
 refine Meets.of_body (n := 39) Try.func8 rfl rfl (nl rfl) fun x hx => ?_
 replace hx : x.k = 5 := hx
 show AW _ x _ _ ⟨39, fr0 [(rf 0 0), (ds_ e_u8 a1)], [(o_journal_Journal_02 false (C.ref 1 0) (C.own 3 0 p0.l.length 1) p0), (o_vdisk_Disk_03 false (C.mp 2) (C.ref 4 0) p1), (om_ e_vdisk_file p1.files), (some (AObj.cells false (rowC (e_sl e_u8) p0.l))), (bx b1_3)]⟩
 refine AW.weak (st' := ⟨39, (upd 39 (upd 39 topF 0 (rf 0 0)) 1 (ds_ e_u8 a1)), [(o_journal_Journal_02 false (C.ref 1 0) (C.own 5 0 p0.l.length 1) p0), (o_vdisk_Disk_03 false (C.mp 2) (C.ref 6 0) p1), (om_ e_vdisk_file p1.files), none, none, (some (AObj.cells false (rowC (e_sl e_u8) p0.l))), (bx b1_3)]⟩) (Weak.genL (kk := 5) [0, 1, 2, 3, 4, 3, 4] [] hx rfl (by decide) rfl rfl rfl rfl (le_upd (le_upd (le_top _) (o1 (.ref rfl))) (o1 .same)) (ac (.cells id (ac (.ref rfl) (ac .same (ac (.own rfl) (ac .sc an))))) (ac (qr rfl rfl) (ac .map (ac (.none _) (ac (.none _) (ac (.cells id (all2_row _)) (ac qb an)))))))) (AW.seq (AW.region ?_))
 refine s_assign (d := (si 0)) rfl (AWops.nil (AW.seq (AW.seq (AW.region ?_))))
 refine s_move (d := (rf 0 0)) rfl (s_move (d := (ds_ e_u8 a1)) rfl (s_len (n := a1.length) F.u_22 rfl (.inr ⟨(fun _ _ h => by cases h), ⟨_, rfl⟩⟩) (s_binI (v := (.bool (decide ((a1.length : Int) ≤ 4194304)))) rfl rfl rfl ?_)))
 obtain ⟨r1, er1, h⟩ := bnd h
 refine cc [0, 1, 5, 2, 6] [(o_journal_Journal_02 false (C.ref 1 0) (C.own 5 0 r1.2.l.length 1) r1.2), (o_vdisk_Disk_03 false (C.mp 2) (C.ref 6 0) p1), (om_ e_vdisk_file p1.files), none, none, (some (AObj.cells false (rowC (e_sl e_u8) r1.2.l))), (bx b1_3)] (si r1.1) F.ca_24 rfl rfl (ac (.one (.ref rfl)) (ac (.one .sc) an)) (ac (.cells (ac (.ref rfl) (ac .imm (ac (.own rfl) (ac .sc an))))) (ac (.cells (ac (.mp rfl) (ac .sc (ac .sc (ac (.ref rfl) (ac .sc an)))))) (ac (.cells (lend_row _)) (ac .map (ac (.cells (ac .sc an)) an))))) (journal_Journal_may_fresh_24.meets _ (⟨(), p0.snap, p0.l, p0.stopped⟩ : journal_Journal) (decide ((a1.length : Int) ≤ 4194304)) p1 b1_3 r1 er1) (s_assign (d := (si r1.1)) rfl (AWops.nil (AW.seq (AW.region (s_move (d := (si r1.1)) rfl (s_binI (v := (.bool (r1.1 != 0))) rfl rfl rfl (AWops.nil ?_)))))))
 rcases itH h with ⟨c2, h⟩ | ⟨c2, h⟩
 ·refine AW.cond_yes rfl c2 (AW.seq (AW.region ?_))
  refine s_move (d := (si r1.1)) rfl (s_assign (d := (si r1.1)) rfl (AWops.nil (AW.ret ?_)))
  obtain rfl := Option.some.inj h
  exact ⟨_, rfl, (wg 5 [0, 1, 2, 3, 4, 5, 6] [] rfl (le_upd (le_top _) (o1 .sc)) (ac (.cells id (ac (.ref rfl) (ac .same (ac (.own rfl) (ac .sc an))))) (ac (qr rfl rfl) (ac .map (ac (.none _) (ac (.none _) (ac (.cells id (all2_row _)) (ac qb an))))))))⟩
 ·refine AW.cond_no rfl c2 (AW.skip (AW.seq (AW.region ?_)))
  refine s_move (d := (rf 0 0)) rfl (s_nilCheck (d := (rf 0 0)) rfl (.inl ⟨_, _, rfl⟩) (s_fieldRef F.fo_27_0 (by decide) rfl (s_load1 (c' := (C.ref 1 0)) F.ag_24 rfl rfl (s_move (d := (ds_ e_u8 a1)) rfl ?_))))
  obtain ⟨r3, er3, h⟩ := bnd h
  refine cc [1, 2, 6] [(o_journal_Journal_02 false (C.ref 1 0) (C.own 5 0 r1.2.l.length 1) r1.2), (o_vdisk_Disk_03 false (C.mp 2) (C.ref 6 0) r3.2.1), (om_ e_vdisk_file r3.2.1.files), none, none, (some (AObj.cells false (rowC (e_sl e_u8) r1.2.l))), (bx r3.2.2)] (si r3.1) F.ca_29 rfl rfl (ac (.one (.ref rfl)) (ac (.one .imm) an)) (ac (.cells (ac (.mp rfl) (ac .sc (ac .sc (ac (.ref rfl) (ac .sc an)))))) (ac .map (ac (.cells (ac .sc an)) an))) (journal_replace_29.meets _ p1 a1 b1_3 r3 er3) (s_assign (d := (si r3.1)) rfl (AWops.nil (AW.seq (AW.region (s_move (d := (si r3.1)) rfl (AWops.nil (AW.block (AW.seq (AW.region (s_binI (v := (.bool (r3.1 == 0))) rfl rfl rfl (s_assign (d := (sb (r3.1 == 0))) rfl (AWops.nil ?_))))))))))))
  rcases itH h with ⟨c4, h⟩ | ⟨c4, h⟩
  ·refine AW.cond_yes rfl c4 (AW.seq (AW.region ?_))
   refine s_move (d := (rf 0 0)) rfl (s_move (d := (rf 0 0)) rfl (s_move (d := (ds_ e_u8 a1)) rfl ?_))
   obtain ⟨r5, er5, h⟩ := bnd h
   refine cc [] [(o_journal_Journal_02 false (C.ref 1 0) (C.own 5 0 r1.2.l.length 1) r1.2), (o_vdisk_Disk_03 false (C.mp 2) (C.ref 6 0) r3.2.1), (om_ e_vdisk_file r3.2.1.files), none, none, (some (AObj.cells false (rowC (e_sl e_u8) r1.2.l))), (bx r3.2.2), (ow_ e_u8 r5)] (D.one (C.own 7 0 r5.length 1)) F.ca_28 rfl rfl (ac (.one .imm) an) an (slices_Clone_byte_byte.meets _ a1 r5 er5) (s_nilCheck (d := (rf 0 0)) rfl (.inl ⟨_, _, rfl⟩) (s_fieldRef F.fo_27_1 (by decide) rfl (s_store (cs' := [(C.ref 1 0), (C.own 7 0 r5.length 1), (C.own 5 0 r1.2.l.length 1), (cb r1.2.stopped)]) rfl rfl rfl (List.cons_ne_nil _ _) rfl F.sz_22 (nl rfl) rfl (s_nilCheck (d := (rf 0 0)) rfl (.inl ⟨_, _, rfl⟩) (s_fieldRef F.fo_27_2 (by decide) rfl ?_)))))
   refine s_store (cs' := [(C.ref 1 0), (C.own 7 0 r5.length 1), (C.p true (.v (.slice none 0 0))), (cb r1.2.stopped)]) rfl rfl rfl (List.cons_ne_nil _ _) rfl F.sz_25 (nl rfl) rfl (AWops.nil (AW.seq (AW.region ?_)))
   refine s_assign (d := (si 0)) rfl (AWops.nil (AW.ret ?_))
   obtain rfl := Option.some.inj h
   exact ⟨_, rfl, (Weak.trans (Weak.nilC (t := 0) (j := 2) (sz := 1) rfl rfl rfl) (wg 5 [0, 1, 2, 3, 4, 8, 6] [7] rfl (le_upd (le_top _) (o1 .sc)) (ac (.cells id (ac (.ref rfl) (ac (CLe.frz e_u8_len rfl rfl rfl) (ac (.own rfl) (ac .sc an))))) (ac (qr rfl rfl) (ac .map (ac (.none _) (ac (.none _) (ac (.cells (fun _ => rfl) an) (ac qb an)))))))))⟩
  ·refine AW.cond_no rfl c4 (AW.seq (AW.region ?_))
   refine s_binI (v := (.bool (r3.1 == 71))) rfl rfl rfl (s_assign (d := (sb (r3.1 == 71))) rfl (AWops.nil ?_))
   rcases itH h with ⟨c6, h⟩ | ⟨c6, h⟩
   ·refine AW.cond_yes rfl c6 (AW.seq (AW.region ?_))
    refine s_move (d := (si r3.1)) rfl (s_assign (d := (si r3.1)) rfl (AWops.nil (AW.ret ?_)))
    obtain rfl := Option.some.inj h
    exact ⟨_, rfl, (wg 5 [0, 1, 2, 3, 4, 5, 6] [] rfl (le_upd (le_top _) (o1 .sc)) (ac (.cells id (ac (.ref rfl) (ac .same (ac (.own rfl) (ac .sc an))))) (ac (qr rfl rfl) (ac .map (ac (.none _) (ac (.none _) (ac (.cells id (all2_row _)) (ac qb an))))))))⟩
   ·refine AW.cond_no rfl c6 (AW.seq (AW.region ?_))
    refine s_move (d := (rf 0 0)) rfl (s_nilCheck (d := (rf 0 0)) rfl (.inl ⟨_, _, rfl⟩) (s_fieldRef F.fo_27_3 (by decide) rfl (s_store (cs' := [(C.ref 1 0), (cl_ e_u8 r1.2.snap), (C.own 5 0 r1.2.l.length 1), (cb true)]) rfl rfl rfl (List.cons_ne_nil _ _) rfl F.sz_4 (nl rfl) rfl (AWops.nil (AW.seq (AW.region (s_move (d := (si r3.1)) rfl (s_assign (d := (si r3.1)) rfl (AWops.nil (AW.ret ?_))))))))))
    obtain rfl := Option.some.inj h
    exact ⟨_, rfl, (wg 5 [0, 1, 2, 3, 4, 5, 6] [] rfl (le_upd (le_top _) (o1 .sc)) (ac (.cells id (ac (.ref rfl) (ac .same (ac (.own rfl) (ac .sc an))))) (ac (qr rfl rfl) (ac .map (ac (.none _) (ac (.none _) (ac (.cells id (all2_row _)) (ac qb an))))))))⟩
mutual
def journal_Journal_Append_fresh_7xx.j0 : Nat → Int → Int → Bool → (List (ByteArray × vdisk_file)) → Int → Int → (List Int) → (Int × journal_Journal) → Option (Int × journal_Journal × vdisk_Disk × Int)
 | 0, _, _, _, _, _, _, _, _ => none
 | k + 1, x9, x10, x11, x12, x13, x14, a1, r2 => if (x14 != 0) = true then (some (x14, (⟨(), r2.2.snap, r2.2.l, true⟩ : journal_Journal), (⟨x12, x9, x10, (), x11⟩ : vdisk_Disk), x13)) else ((slices_Clone_byte_byte.f k a1).bind fun r16 => if (decide (r2.2.l.length + ([r16] : List (List Int)).length ≤ 5864062014805)) = true then (some (0, (⟨(), r2.2.snap, r2.2.l ++ ([r16] : List (List Int)), r2.2.stopped⟩ : journal_Journal), (⟨x12, x9, x10, (), x11⟩ : vdisk_Disk), x13)) else none)
def journal_Journal_Append_fresh_7xx.j1 : Nat → Int → Int → Bool → (List (ByteArray × vdisk_file)) → Int → Int → (List Int) → (Int × journal_Journal) → Option (Int × journal_Journal × vdisk_Disk × Int)
 | 0, _, _, _, _, _, _, _, _ => none
 | k + 1, x25, x26, x27, x28, x29, x30, a1, r18 => if (x30 != 0) = true then (some (x30, (⟨(), r18.2.snap, r18.2.l, true⟩ : journal_Journal), (⟨x28, x25, x26, (), x27⟩ : vdisk_Disk), x29)) else ((slices_Clone_byte_byte.f k a1).bind fun r32 => if (decide (r18.2.l.length + ([r32] : List (List Int)).length ≤ 5864062014805)) = true then (some (0, (⟨(), r18.2.snap, r18.2.l ++ ([r32] : List (List Int)), r18.2.stopped⟩ : journal_Journal), (⟨x28, x25, x26, (), x27⟩ : vdisk_Disk), x29)) else none)
end
def journal_Journal_Append_fresh_7xx.f (k : Nat) (p0 : journal_Journal) (a1 : List Int) (p1 : vdisk_Disk) (b1_3 : Int) : Option (Int × journal_Journal × vdisk_Disk × Int) := if (decide ((a1.length : Int) > 0)) = true then ((journal_Journal_may_fresh_24.f k (⟨(), p0.snap, p0.l, p0.stopped⟩ : journal_Journal) (decide ((a1.length : Int) ≤ 4194304)) p1 b1_3).bind fun r2 => if (r2.1 != 0) = true then (some (r2.1, (⟨(), r2.2.snap, r2.2.l, r2.2.stopped⟩ : journal_Journal), p1, b1_3)) else ((journal_frame.f k a1).bind fun r4 => (vdisk_Disk_Append_25.f k p1 (⟨#[106, 111, 117, 114, 110, 97, 108]⟩ : ByteArray) r4 b1_3).bind fun r5 => if (r5.1 == 71) = true then (some (r5.1, (⟨(), r2.2.snap, r2.2.l, r2.2.stopped⟩ : journal_Journal), r5.2.1, r5.2.2)) else (if (r5.1 == 0) = true then ((vdisk_Disk_Sync_27.f k r5.2.1 (⟨#[106, 111, 117, 114, 110, 97, 108]⟩ : ByteArray) r5.2.2).bind fun r8 => journal_Journal_Append_fresh_7xx.j0 k r8.2.1.room r8.2.1.used r8.2.1.dead r8.2.1.files r8.2.2 r8.1 a1 r2) else (journal_Journal_Append_fresh_7xx.j0 k r5.2.1.room r5.2.1.used r5.2.1.dead r5.2.1.files r5.2.2 r5.1 a1 r2)))) else ((journal_Journal_may_fresh_24.f k (⟨(), p0.snap, p0.l, p0.stopped⟩ : journal_Journal) false p1 b1_3).bind fun r18 => if (r18.1 != 0) = true then (some (r18.1, (⟨(), r18.2.snap, r18.2.l, r18.2.stopped⟩ : journal_Journal), p1, b1_3)) else ((journal_frame.f k a1).bind fun r20 => (vdisk_Disk_Append_25.f k p1 (⟨#[106, 111, 117, 114, 110, 97, 108]⟩ : ByteArray) r20 b1_3).bind fun r21 => if (r21.1 == 71) = true then (some (r21.1, (⟨(), r18.2.snap, r18.2.l, r18.2.stopped⟩ : journal_Journal), r21.2.1, r21.2.2)) else (if (r21.1 == 0) = true then ((vdisk_Disk_Sync_27.f k r21.2.1 (⟨#[106, 111, 117, 114, 110, 97, 108]⟩ : ByteArray) r21.2.2).bind fun r24 => journal_Journal_Append_fresh_7xx.j1 k r24.2.1.room r24.2.1.used r24.2.1.dead r24.2.1.files r24.2.2 r24.1 a1 r18) else (journal_Journal_Append_fresh_7xx.j1 k r21.2.1.room r21.2.1.used r21.2.1.dead r21.2.1.files r21.2.2 r21.1 a1 r18))))
theorem journal_Journal_Append_fresh_7xx.meets (k : Nat) (p0 : journal_Journal) (a1 : List Int) (p1 : vdisk_Disk) (b1_3 : Int) (r : Int × journal_Journal × vdisk_Disk × Int) (h : journal_Journal_Append_fresh_7xx.f k p0 a1 p1 b1_3 = some r) : Meets Try.prog 7 [(rf 0 0), (ds_ e_u8 a1)] [(o_journal_Journal_02 false (C.ref 1 0) (C.own 3 0 p0.l.length 1) p0), (o_vdisk_Disk_03 false (C.mp 2) (C.ref 4 0) p1), (om_ e_vdisk_file p1.files), (some (AObj.cells false (rowC (e_sl e_u8) p0.l))), (bx b1_3)] (si r.1) [(o_journal_Journal_02 false (C.ref 1 0) (C.own 5 0 r.2.1.l.length 1) r.2.1), (o_vdisk_Disk_03 false (C.mp 2) (C.ref 6 0) r.2.2.1), (om_ e_vdisk_file r.2.2.1.files), none, none, (some (AObj.cells false (rowC (e_sl e_u8) r.2.1.l))), (bx r.2.2.2)] := by
 unfold journal_Journal_Append_fresh_7xx.f at h
 refine Meets.of_body (n := 54) Try.func7 rfl rfl (nl rfl) fun x hx => ?_
 replace hx : x.k = 5 := hx
 show AW _ x _ _ ⟨54, fr0 [(rf 0 0), (ds_ e_u8 a1)], [(o_journal_Journal_02 false (C.ref 1 0) (C.own 3 0 p0.l.length 1) p0), (o_vdisk_Disk_03 false (C.mp 2) (C.ref 4 0) p1), (om_ e_vdisk_file p1.files), (some (AObj.cells false (rowC (e_sl e_u8) p0.l))), (bx b1_3)]⟩
 refine AW.weak (st' := ⟨54, (upd 54 (upd 54 topF 0 (rf 0 0)) 1 (ds_ e_u8 a1)), [(o_journal_Journal_02 false (C.ref 1 0) (C.own 5 0 p0.l.length 1) p0), (o_vdisk_Disk_03 false (C.mp 2) (C.ref 6 0) p1), (om_ e_vdisk_file p1.files), none, none, (some (AObj.cells false (rowC (e_sl e_u8) p0.l))), (bx b1_3)]⟩) (Weak.genL (kk := 5) [0, 1, 2, 3, 4, 3, 4] [] hx rfl (by decide) rfl rfl rfl rfl (le_upd (le_upd (le_top _) (o1 (.ref rfl))) (o1 .same)) (ac (.cells id (ac (.ref rfl) (ac .same (ac (.own rfl) (ac .sc an))))) (ac (qr rfl rfl) (ac .map (ac (.none _) (ac (.none _) (ac (.cells id (all2_row _)) (ac qb an)))))))) (AW.seq (AW.region ?_))
 refine s_assign (d := (si 0)) rfl (AWops.nil (AW.seq (AW.seq (AW.region ?_))))
 refine s_move (d := (rf 0 0)) rfl (s_move (d := (ds_ e_u8 a1)) rfl (s_len (n := a1.length) F.u_22 rfl (.inr ⟨(fun _ _ h => by cases h), ⟨_, rfl⟩⟩) (s_binI (v := (.bool (decide ((a1.length : Int) > 0)))) rfl rfl rfl (s_move (d := (sb (decide ((a1.length : Int) > 0)))) rfl ?_))))
 rcases itH h with ⟨c1, h⟩ | ⟨c1, h⟩
 ·refine AWops.guard_yes rfl (nl rfl) rfl c1 ?_
  refine s_move (d := (ds_ e_u8 a1)) rfl ?_
  refine AWops.guard_yes rfl (nl rfl) rfl c1 ?_
  refine s_len (n := a1.length) F.u_22 rfl (.inr ⟨(fun _ _ h => by cases h), ⟨_, rfl⟩⟩) ?_
  refine AWops.guard_yes rfl (nl rfl) rfl c1 ?_
  refine s_binI (v := (.bool (decide ((a1.length : Int) ≤ 4194304)))) rfl rfl rfl (s_pick_yes (d := (sb (decide ((a1.length : Int) ≤ 4194304)))) rfl c1 rfl ?_)
  obtain ⟨r2, er2, h⟩ := bnd h
  refine cc [0, 1, 5, 2, 6] [(o_journal_Journal_02 false (C.ref 1 0) (C.own 5 0 r2.2.l.length 1) r2.2), (o_vdisk_Disk_03 false (C.mp 2) (C.ref 6 0) p1), (om_ e_vdisk_file p1.files), none, none, (some (AObj.cells false (rowC (e_sl e_u8) r2.2.l))), (bx b1_3)] (si r2.1) F.ca_24 rfl rfl (ac (.one (.ref rfl)) (ac (.one .sc) an)) (ac (.cells (ac (.ref rfl) (ac .imm (ac (.own rfl) (ac .sc an))))) (ac (.cells (ac (.mp rfl) (ac .sc (ac .sc (ac (.ref rfl) (ac .sc an)))))) (ac (.cells (lend_row _)) (ac .map (ac (.cells (ac .sc an)) an))))) (journal_Journal_may_fresh_24.meets _ (⟨(), p0.snap, p0.l, p0.stopped⟩ : journal_Journal) (decide ((a1.length : Int) ≤ 4194304)) p1 b1_3 r2 er2) (s_assign (d := (si r2.1)) rfl (AWops.nil (AW.seq (AW.region (s_move (d := (si r2.1)) rfl (s_binI (v := (.bool (r2.1 != 0))) rfl rfl rfl (AWops.nil ?_)))))))
  rcases itH h with ⟨c3, h⟩ | ⟨c3, h⟩
  ·refine AW.cond_yes rfl c3 (AW.seq (AW.region ?_))
   refine s_move (d := (si r2.1)) rfl (s_assign (d := (si r2.1)) rfl (AWops.nil (AW.ret ?_)))
   obtain rfl := Option.some.inj h
   exact ⟨_, rfl, (wg 5 [0, 1, 2, 3, 4, 5, 6] [] rfl (le_upd (le_top _) (o1 .sc)) (ac (.cells id (ac (.ref rfl) (ac .same (ac (.own rfl) (ac .sc an))))) (ac (qr rfl rfl) (ac .map (ac (.none _) (ac (.none _) (ac (.cells id (all2_row _)) (ac qb an))))))))⟩
  ·refine AW.cond_no rfl c3 (AW.skip (AW.seq ?_))
   refine AW.weak (st' := ⟨54, (upd 54 (upd 54 topF 0 (rf 0 0)) 1 (ds_ e_u8 a1)), [(o_journal_Journal_02 false (C.ref 1 0) (C.own 5 0 r2.2.l.length 1) r2.2), (o_vdisk_Disk_03 false (C.mp 2) (C.ref 6 0) p1), (om_ e_vdisk_file p1.files), none, none, (some (AObj.cells false (rowC (e_sl e_u8) r2.2.l))), (bx b1_3)]⟩) (wg 5 [0, 1, 2, 3, 4, 5, 6] [] hx (le_upd (le_upd (le_top _) (o1 (.ref rfl))) (o1 .same)) (ac (.cells id (ac (.ref rfl) (ac .same (ac (.own rfl) (ac .sc an))))) (ac (qr rfl rfl) (ac .map (ac (.none _) (ac (.none _) (ac (.cells id (all2_row _)) (ac qb an)))))))) ?_
   obtain ⟨r4, er4, h⟩ := bnd h
   obtain ⟨r5, er5, h⟩ := bnd h
   refine AW.draw (n := 54) (L := 9) [(ft 0 20 (rf 0 0) [(0, (rf 0 0))]), (ft 1 21 (rf 0 0) [(20, (rf 0 0))]), (ft 2 22 (rf 0 0) [(21, (rf 0 0))]), (3, ⟨some 23, (rf 1 0), [(22, (rf 0 0))], [(0, (o_journal_Journal_02 false (C.ref 1 0) (C.own 5 0 r2.2.l.length 1) r2.2))], [], none⟩), (ft 4 24 (ds_ e_u8 a1) [(1, (ds_ e_u8 a1))]), (5, ⟨some 25, (D.one (C.own 7 0 r4.length 1)), [(24, (ds_ e_u8 a1))], [], [(7, (ow_ e_u8 r4))], some 7⟩), (6, ⟨some 26, (si r5.1), [(23, (rf 1 0)), (25, (D.one (C.own 7 0 r4.length 1)))], [(1, (o_vdisk_Disk_03 false (C.mp 2) (C.ref 6 0) p1)), (2, (om_ e_vdisk_file p1.files)), (6, (bx b1_3)), (7, (ow_ e_u8 r4))], [(1, (o_vdisk_Disk_03 false (C.mp 2) (C.ref 6 0) r5.2.1)), (2, (om_ e_vdisk_file r5.2.1.files)), (6, (bx r5.2.2))], none⟩), (ft 7 6 (si r5.1) [(26, (si r5.1))])] [[], [0], [0, 1], [0, 1, 2], [], [4], (.range 6), (.range 7)] (nl rfl) [0, 1, 2, 3, 0, 1, 4, 5] rfl (TK := [(5, 7)]) rfl (AllK.cons' ⟨(tk_upd (tk_upd tk_top rfl) rfl), (tC rfl (tC rfl (tC rfl (tC rfl (tC rfl (tC (tkO_row _) (tC rfl AllT.nil'))))))), (fC (.inr rfl) (fC (.inr rfl) (fC (.inr rfl) (fC (.inr rfl) (fC (.inr rfl) (fC (.inl rfl) (fC (.inl rfl) (fC (.inl rfl) AllF.nil'))))))))⟩ AllK.nil') (by repeat (first | refine fC ⟨?_, ?_⟩ ?_ | refine sC rfl ?_ | refine hC rfl ?_ | trivial)) ?_ ?_
   ·refine y8 ?_ ?_ ?_ ?_ ?_ ?_ ?_ ?_ yN
    ·intro K _ f w u k
     show Wp K ⟨54, (upd 54 f 0 (rf 0 0)), _⟩
     refine s_move (d := (rf 0 0)) rfl k
    ·intro K _ f w u k
     show Wp K ⟨54, (upd 54 f 20 (rf 0 0)), [_, _, _, _, _, _, _, _, _]⟩
     refine s_nilCheck (d := (rf 0 0)) rfl (.inl ⟨_, _, rfl⟩) k
    ·intro K _ f w u k
     show Wp K ⟨54, (upd 54 f 21 (rf 0 0)), [_, _, _, _, _, _, _, _, _]⟩
     refine s_fieldRef F.fo_27_0 (by decide) rfl k
    ·intro K _ f w u k
     show Wp K ⟨54, (upd 54 f 22 (rf 0 0)), [(o_journal_Journal_02 false (C.ref 1 0) (C.own 5 0 r2.2.l.length 1) r2.2), _, _, _, _, _, _, _, _]⟩
     refine s_load1 (c' := (C.ref 1 0)) F.ag_24 rfl rfl k
    ·intro K _ f w u k
     show Wp K ⟨54, (upd 54 f 1 (ds_ e_u8 a1)), _⟩
     refine s_move (d := (ds_ e_u8 a1)) rfl k
    ·intro K _ f w u k
     show Wp K ⟨54, (upd 54 f 24 (ds_ e_u8 a1)), [_, _, _, _, _, _, _, _, _]⟩
     refine cc [] [(w 0), (w 1), (w 2), (w 3), (w 4), (w 5), (w 6), (w 7), (w 8), (ow_ e_u8 r4)] (D.one (C.own 9 0 r4.length 1)) F.ca_26 rfl rfl (ac (.one .imm) an) an (journal_frame.meets _ a1 r4 er4) ?_
     refine AWops.weak (st' := ⟨54, (upd 54 (upd 54 f 24 (ds_ e_u8 a1)) 25 (D.one (C.own 7 0 r4.length 1))), [(w 0), (w 1), (w 2), (w 3), (w 4), (w 5), (w 6), (ow_ e_u8 r4), (w 8)]⟩) (wg 5 [0, 1, 2, 3, 4, 5, 6, 9, 8] [] hx (le_upd2 (le_ok (p := 7) (L := 9) rfl (u 7 rfl).1) (o1 (.own rfl))) (ac (oq 7 9 (u 7 rfl) 0) (ac (oq 7 9 (u 7 rfl) 1) (ac (oq 7 9 (u 7 rfl) 2) (ac (oq 7 9 (u 7 rfl) 3) (ac (oq 7 9 (u 7 rfl) 4) (ac (oq 7 9 (u 7 rfl) 5) (ac (oq 7 9 (u 7 rfl) 6) (ac (.cells (fun _ => rfl) (all2_row _)) (ac (oq 7 9 (u 7 rfl) 8) an)))))))))) k
    ·intro K _ f w u k
     show Wp K ⟨54, (upd 54 (upd 54 f 25 (D.one (C.own 7 0 r4.length 1))) 23 (rf 1 0)), [_, (o_vdisk_Disk_03 false (C.mp 2) (C.ref 6 0) p1), (om_ e_vdisk_file p1.files), _, _, _, (bx b1_3), (ow_ e_u8 r4), _]⟩
     refine cc [1, 7, 2, 6] [(w 0), (o_vdisk_Disk_03 false (C.mp 2) (C.ref 6 0) r5.2.1), (om_ e_vdisk_file r5.2.1.files), (w 3), (w 4), (w 5), (bx r5.2.2), (ow_ e_u8 r4), (w 8)] (si r5.1) F.ca_25 rfl rfl (ac (.one (.ref rfl)) (ac (.one .sc) (ac (.one (.own rfl)) an))) (ac (.cells (ac (.mp rfl) (ac .sc (ac .sc (ac (.ref rfl) (ac .sc an)))))) (ac (.cells (lend_row _)) (ac .map (ac (.cells (ac .sc an)) an)))) (vdisk_Disk_Append_25.meets _ p1 (⟨#[106, 111, 117, 114, 110, 97, 108]⟩ : ByteArray) r4 b1_3 r5 er5) k
    ·intro K _ f w u k
     show Wp K ⟨54, (upd 54 f 26 (si r5.1)), _⟩
     refine s_assign (d := (si r5.1)) rfl k
   ·refine AWops.weak (st' := ⟨54, (upd 54 (upd 54 (upd 54 topF 0 (rf 0 0)) 1 (ds_ e_u8 a1)) 6 (si r5.1)), [(o_journal_Journal_02 false (C.ref 1 0) (C.own 5 0 r2.2.l.length 1) r2.2), (o_vdisk_Disk_03 false (C.mp 2) (C.ref 6 0) r5.2.1), (om_ e_vdisk_file r5.2.1.files), none, none, (some (AObj.cells false (rowC (e_sl e_u8) r2.2.l))), (bx r5.2.2)]⟩) (wg 5 [0, 1, 2, 3, 4, 5, 6] [] hx (le_upd (le_upd (le_upd (le_top _) (o1 (.ref rfl))) (o1 .same)) (o1 .sc)) (ac (.cells id (ac (.ref rfl) (ac .same (ac (.own rfl) (ac .sc an))))) (ac (qr rfl rfl) (ac .map (ac (.none _) (ac (.none _) (ac (.cells id (all2_row _)) (ac qb an)))))))) (AWops.nil (AW.seq (AW.seq (AW.region ?_))))
    refine s_move (d := (si r5.1)) rfl (s_binI (v := (.bool (r5.1 == 71))) rfl rfl rfl (AWops.nil ?_))
    rcases itH h with ⟨c6, h⟩ | ⟨c6, h⟩
    ·refine AW.cond_yes rfl c6 (AW.seq (AW.region ?_))
     refine s_move (d := (si r5.1)) rfl (s_assign (d := (si r5.1)) rfl (AWops.nil (AW.ret ?_)))
     obtain rfl := Option.some.inj h
     exact ⟨_, rfl, (wg 5 [0, 1, 2, 3, 4, 5, 6] [] rfl (le_upd (le_top _) (o1 .sc)) (ac (.cells id (ac (.ref rfl) (ac .same (ac (.own rfl) (ac .sc an))))) (ac (qr rfl rfl) (ac .map (ac (.none _) (ac (.none _) (ac (.cells id (all2_row _)) (ac qb an))))))))⟩
    ·refine AW.cond_no rfl c6 (AW.skip ?_)
     refine AW.seqJ (fun st => ∃ (x9 : Int) (x10 : Int) (x11 : Bool) (x12 : List (ByteArray × vdisk_file)) (x13 : Int) (x14 : Int), journal_Journal_Append_fresh_7xx.j0 k x9 x10 x11 x12 x13 x14 a1 r2 = some r ∧ st = ⟨54, (upd 54 (upd 54 (upd 54 topF 0 (rf 0 0)) 1 (ds_ e_u8 a1)) 6 (si x14)), [(o_journal_Journal_02 false (C.ref 1 0) (C.own 5 0 r2.2.l.length 1) r2.2), (some (AObj.cells false [(C.mp 2), (ci x9), (ci x10), (C.ref 6 0), (cb x11)])), (om_ e_vdisk_file x12), none, none, (some (AObj.cells false (rowC (e_sl e_u8) r2.2.l))), (bx x13)]⟩) ?_ ?_
     ·refine AW.seq (AW.region ?_)
      refine s_move (d := (si r5.1)) rfl (s_binI (v := (.bool (r5.1 == 0))) rfl rfl rfl (AWops.nil ?_))
      rcases itH h with ⟨c7, h⟩ | ⟨c7, h⟩
      ·refine AW.cond_yes rfl c7 (AW.region ?_)
       refine s_move (d := (rf 0 0)) rfl (s_nilCheck (d := (rf 0 0)) rfl (.inl ⟨_, _, rfl⟩) (s_fieldRef F.fo_27_0 (by decide) rfl (s_load1 (c' := (C.ref 1 0)) F.ag_24 rfl rfl ?_)))
       obtain ⟨r8, er8, h⟩ := bnd h
       refine cc [1, 2, 6] [(o_journal_Journal_02 false (C.ref 1 0) (C.own 5 0 r2.2.l.length 1) r2.2), (o_vdisk_Disk_03 false (C.mp 2) (C.ref 6 0) r8.2.1), (om_ e_vdisk_file r8.2.1.files), none, none, (some (AObj.cells false (rowC (e_sl e_u8) r2.2.l))), (bx r8.2.2)] (si r8.1) F.ca_27 rfl rfl (ac (.one (.ref rfl)) (ac (.one .sc) an)) (ac (.cells (ac (.mp rfl) (ac .sc (ac .sc (ac (.ref rfl) (ac .sc an)))))) (ac .map (ac (.cells (ac .sc an)) an))) (vdisk_Disk_Sync_27.meets _ r5.2.1 (⟨#[106, 111, 117, 114, 110, 97, 108]⟩ : ByteArray) r5.2.2 r8 er8) (s_assign (d := (si r8.1)) rfl (AWops.nil ?_))
       exact ⟨⟨54, (upd 54 (upd 54 (upd 54 topF 0 (rf 0 0)) 1 (ds_ e_u8 a1)) 6 (si r8.1)), [(o_journal_Journal_02 false (C.ref 1 0) (C.own 5 0 r2.2.l.length 1) r2.2), (some (AObj.cells false [(C.mp 2), (ci r8.2.1.room), (ci r8.2.1.used), (C.ref 6 0), (cb r8.2.1.dead)])), (om_ e_vdisk_file r8.2.1.files), none, none, (some (AObj.cells false (rowC (e_sl e_u8) r2.2.l))), (bx r8.2.2)]⟩, (wg 5 [0, 1, 2, 3, 4, 5, 6] [] hx (le_upd (le_upd (le_upd (le_top _) (o1 (.ref rfl))) (o1 .same)) (o1 .sc)) (ac (.cells id (ac (.ref rfl) (ac .same (ac (.own rfl) (ac .sc an))))) (ac (qr rfl rfl) (ac .map (ac (.none _) (ac (.none _) (ac (.cells id (all2_row _)) (ac qb an)))))))), r8.2.1.room, r8.2.1.used, r8.2.1.dead, r8.2.1.files, r8.2.2, r8.1, h, rfl⟩
      ·refine AW.cond_no rfl c7 (AW.skip ?_)
       exact ⟨⟨54, (upd 54 (upd 54 (upd 54 topF 0 (rf 0 0)) 1 (ds_ e_u8 a1)) 6 (si r5.1)), [(o_journal_Journal_02 false (C.ref 1 0) (C.own 5 0 r2.2.l.length 1) r2.2), (some (AObj.cells false [(C.mp 2), (ci r5.2.1.room), (ci r5.2.1.used), (C.ref 6 0), (cb r5.2.1.dead)])), (om_ e_vdisk_file r5.2.1.files), none, none, (some (AObj.cells false (rowC (e_sl e_u8) r2.2.l))), (bx r5.2.2)]⟩, (wg 5 [0, 1, 2, 3, 4, 5, 6] [] hx (le_upd (le_upd (le_upd (le_top _) (o1 (.ref rfl))) (o1 .same)) (o1 .sc)) (ac (.cells id (ac (.ref rfl) (ac .same (ac (.own rfl) (ac .sc an))))) (ac (qr rfl rfl) (ac .map (ac (.none _) (ac (.none _) (ac (.cells id (all2_row _)) (ac qb an)))))))), r5.2.1.room, r5.2.1.used, r5.2.1.dead, r5.2.1.files, r5.2.2, r5.1, h, rfl⟩
     ·rintro st ⟨x9, x10, x11, x12, x13, x14, h, rfl⟩
      cases k with
      | zero => exact absurd h (by simp [journal_Journal_Append_fresh_7xx.j0])
      | succ qj0 =>
       replace h := (journal_Journal_Append_fresh_7xx.j0.eq_2 _ _ _ _ _ _ _ _ _).symm.trans h
       refine AW.seq (AW.seq (AW.region ?_))
       refine s_move (d := (si x14)) rfl (s_binI (v := (.bool (x14 != 0))) rfl rfl rfl (AWops.nil ?_))
       rcases itH h with ⟨c15, h⟩ | ⟨c15, h⟩
       ·refine AW.cond_yes rfl c15 (AW.seq (AW.region ?_))
        refine s_move (d := (rf 0 0)) rfl (s_nilCheck (d := (rf 0 0)) rfl (.inl ⟨_, _, rfl⟩) (s_fieldRef F.fo_27_3 (by decide) rfl (s_store (cs' := [(C.ref 1 0), (cl_ e_u8 r2.2.snap), (C.own 5 0 r2.2.l.length 1), (cb true)]) rfl rfl rfl (List.cons_ne_nil _ _) rfl F.sz_4 (nl rfl) rfl (AWops.nil (AW.seq (AW.region (s_move (d := (si x14)) rfl (s_assign (d := (si x14)) rfl (AWops.nil (AW.ret ?_))))))))))
        obtain rfl := Option.some.inj h
        exact ⟨_, rfl, (wg 5 [0, 1, 2, 3, 4, 5, 6] [] rfl (le_upd (le_top _) (o1 .sc)) (ac (.cells id (ac (.ref rfl) (ac .same (ac (.own rfl) (ac .sc an))))) (ac (qr rfl rfl) (ac .map (ac (.none _) (ac (.none _) (ac (.cells id (all2_row _)) (ac qb an))))))))⟩
       ·refine AW.cond_no rfl c15 (AW.skip (AW.seq ?_))
        refine AW.weak (st' := ⟨54, (upd 54 (upd 54 topF 0 (rf 0 0)) 1 (ds_ e_u8 a1)), [(o_journal_Journal_02 false (C.ref 1 0) (C.own 5 0 r2.2.l.length 1) r2.2), (some (AObj.cells false [(C.mp 2), (ci x9), (ci x10), (C.ref 6 0), (cb x11)])), (om_ e_vdisk_file x12), none, none, (some (AObj.cells false (rowC (e_sl e_u8) r2.2.l))), (bx x13)]⟩) (wg 5 [0, 1, 2, 3, 4, 5, 6] [] hx (le_upd (le_upd (le_top _) (o1 (.ref rfl))) (o1 .same)) (ac (.cells id (ac (.ref rfl) (ac .same (ac (.own rfl) (ac .sc an))))) (ac (qr rfl rfl) (ac .map (ac (.none _) (ac (.none _) (ac (.cells id (all2_row _)) (ac qb an)))))))) ?_
        obtain ⟨r16, er16, h⟩ := bnd h
        obtain ⟨c17, h⟩ := gdH h
        have dc17 := of_decide_eq_true c17
        refine AW.draw (n := 54) (L := 10) [(ft 0 43 (rf 0 0) [(0, (rf 0 0))]), (ft 1 44 (rf 0 0) [(0, (rf 0 0))]), (ft 2 45 (rf 0 0) [(44, (rf 0 0))]), (ft 3 46 (rf 0 2) [(45, (rf 0 0))]), (4, ⟨some 47, (D.one (C.own 5 0 r2.2.l.length 1)), [(46, (rf 0 2))], [(0, (o_journal_Journal_02 false (C.ref 1 0) (C.own 5 0 r2.2.l.length 1) r2.2))], [], none⟩), (ft 5 48 (ds_ e_u8 a1) [(1, (ds_ e_u8 a1))]), (6, ⟨some 49, (ds_ e_u8 r16), [(48, (ds_ e_u8 a1))], [], [], some 7⟩), (7, ⟨some 50, (D.one (C.own 8 0 (([r16] : List (List Int)).length) 1)), [(49, (ds_ e_u8 r16))], [], [(8, (some (AObj.cells true (rowC (e_sl e_u8) ([r16] : List (List Int))))))], some 8⟩), (8, ⟨some 51, (D.one (C.own 9 0 ((r2.2.l ++ ([r16] : List (List Int))).length) 1)), [(47, (D.one (C.own 5 0 r2.2.l.length 1))), (50, (D.one (C.own 8 0 (([r16] : List (List Int)).length) 1)))], [(5, (some (AObj.cells false (rowC (e_sl e_u8) r2.2.l)))), (8, (some (AObj.cells true (rowC (e_sl e_u8) ([r16] : List (List Int))))))], [(5, none), (9, (some (AObj.cells false (rowC (e_sl e_u8) (r2.2.l ++ ([r16] : List (List Int)))))))], some 9⟩), (ft 9 52 (rf 0 0) [(43, (rf 0 0))]), (ft 10 53 (rf 0 2) [(52, (rf 0 0))]), (11, ⟨none, (D.one C.top), [(51, (D.one (C.own 9 0 ((r2.2.l ++ ([r16] : List (List Int))).length) 1))), (53, (rf 0 2))], [(0, (o_journal_Journal_02 false (C.ref 1 0) (C.own 5 0 r2.2.l.length 1) r2.2))], [(0, (o_journal_Journal_02 false (C.ref 1 0) (C.own 9 0 ((r2.2.l ++ ([r16] : List (List Int))).length) 1) r2.2))], none⟩)] [[], [], [1], [1, 2], [1, 2, 3], [], [5], [5, 6], [1, 2, 3, 4, 5, 6, 7], (.range 9), (.range 10), (.range 11)] (nl rfl) [0, 0, 1, 2, 3, 0, 1, 2, 4, 5, 6, 7] rfl (TK := [(6, 7), (7, 8), (8, 9)]) rfl (AllK.cons' ⟨(tk_upd (tk_upd tk_top rfl) rfl), (tC rfl (tC rfl (tC rfl (tC rfl (tC rfl (tC (tkO_row _) (tC rfl AllT.nil'))))))), (fC (.inr rfl) (fC (.inr rfl) (fC (.inr rfl) (fC (.inr rfl) (fC (.inr rfl) (fC (.inr rfl) (fC (.inl rfl) (fC (.inl rfl) (fC (.inl rfl) (fC (.inl rfl) (fC (.inl rfl) (fC (.inl rfl) AllF.nil'))))))))))))⟩ (AllK.cons' ⟨(tk_upd (tk_upd tk_top rfl) rfl), (tC rfl (tC rfl (tC rfl (tC rfl (tC rfl (tC (tkO_row _) (tC rfl AllT.nil'))))))), (fC (.inr rfl) (fC (.inr rfl) (fC (.inr rfl) (fC (.inr rfl) (fC (.inr rfl) (fC (.inr rfl) (fC (.inr rfl) (fC (.inl rfl) (fC (.inl rfl) (fC (.inl rfl) (fC (.inl rfl) (fC (.inl rfl) AllF.nil'))))))))))))⟩ (AllK.cons' ⟨(tk_upd (tk_upd tk_top rfl) rfl), (tC rfl (tC rfl (tC rfl (tC rfl (tC rfl (tC (tkO_row _) (tC rfl AllT.nil'))))))), (by repeat (first | refine fC (.inl rfl) ?_ | refine fC (.inr rfl) ?_ | refine fC (.inr (by unfold tkFoot; simp only [List.all_cons, List.all_nil, tkO_row, Bool.and_true, Bool.true_and]; rfl)) ?_ | trivial))⟩ AllK.nil'))) (by repeat (first | refine fC ⟨?_, ?_⟩ ?_ | refine sC rfl ?_ | refine hC rfl ?_ | trivial)) ?_ ?_
        ·refine y8 ?_ ?_ ?_ ?_ ?_ ?_ ?_ ?_ (y4 ?_ ?_ ?_ ?_ yN)
         ·intro K _ f w u k
          show Wp K ⟨54, (upd 54 f 0 (rf 0 0)), _⟩
          refine s_move (d := (rf 0 0)) rfl k
         ·intro K _ f w u k
          show Wp K ⟨54, (upd 54 f 0 (rf 0 0)), _⟩
          refine s_move (d := (rf 0 0)) rfl k
         ·intro K _ f w u k
          show Wp K ⟨54, (upd 54 f 44 (rf 0 0)), [_, _, _, _, _, _, _, _, _, _]⟩
          refine s_nilCheck (d := (rf 0 0)) rfl (.inl ⟨_, _, rfl⟩) k
         ·intro K _ f w u k
          show Wp K ⟨54, (upd 54 f 45 (rf 0 0)), [_, _, _, _, _, _, _, _, _, _]⟩
          refine s_fieldRef F.fo_27_2 (by decide) rfl k
         ·intro K _ f w u k
          show Wp K ⟨54, (upd 54 f 46 (rf 0 2)), [(o_journal_Journal_02 false (C.ref 1 0) (C.own 5 0 r2.2.l.length 1) r2.2), _, _, _, _, _, _, _, _, _]⟩
          refine s_load1 (c' := (C.own 5 0 r2.2.l.length 1)) F.ag_25 rfl rfl k
         ·intro K _ f w u k
          show Wp K ⟨54, (upd 54 f 1 (ds_ e_u8 a1)), _⟩
          refine s_move (d := (ds_ e_u8 a1)) rfl k
         ·intro K _ f w u k
          show Wp K ⟨54, (upd 54 f 48 (ds_ e_u8 a1)), [_, _, _, _, _, _, _, _, _, _]⟩
          refine cc [] [(w 0), (w 1), (w 2), (w 3), (w 4), (w 5), (w 6), (w 7), (w 8), (w 9), (ow_ e_u8 r16)] (D.one (C.own 10 0 r16.length 1)) F.ca_28 rfl rfl (ac (.one .imm) an) an (slices_Clone_byte_byte.meets _ a1 r16 er16) ?_
          refine AWops.weak (st' := ⟨54, (upd 54 (upd 54 f 48 (ds_ e_u8 a1)) 49 (ds_ e_u8 r16)), [(w 0), (w 1), (w 2), (w 3), (w 4), (w 5), (w 6), (w 7), (w 8), (w 9)]⟩) (wg 5 [0, 1, 2, 3, 4, 5, 6, 7, 8, 9] [10] hx (le_upd2 (le_ok (p := 7) (L := 10) rfl (u 7 rfl).1) (o1 (CLe.frz e_u8_len rfl rfl rfl))) (ac (oq 7 10 (u 7 rfl) 0) (ac (oq 7 10 (u 7 rfl) 1) (ac (oq 7 10 (u 7 rfl) 2) (ac (oq 7 10 (u 7 rfl) 3) (ac (oq 7 10 (u 7 rfl) 4) (ac (oq 7 10 (u 7 rfl) 5) (ac (oq 7 10 (u 7 rfl) 6) (ac (oq 7 10 (u 7 rfl) 7) (ac (oq 7 10 (u 7 rfl) 8) (ac (oq 7 10 (u 7 rfl) 9) an))))))))))) k
         ·intro K _ f w u k
          show Wp K ⟨54, (upd 54 f 49 (ds_ e_u8 r16)), [_, _, _, _, _, _, _, _, _, _]⟩
          refine s_buildSlice (n := 1) (ps := [(0, (ds_ e_u8 r16))]) (cs := rowC (e_sl e_u8) ([r16] : List (List Int))) F.u_25 F.sz_22 F.z_22 rfl rfl (by decide) (by decide) rfl rfl ?_
          refine AWops.weak (st' := ⟨54, (upd 54 (upd 54 f 49 (ds_ e_u8 r16)) 50 (D.one (C.own 8 0 (([r16] : List (List Int)).length) 1))), [(w 0), (w 1), (w 2), (w 3), (w 4), (w 5), (w 6), (w 7), (some (AObj.cells true (rowC (e_sl e_u8) ([r16] : List (List Int))))), (w 9)]⟩) (wg 5 [0, 1, 2, 3, 4, 5, 6, 7, 10, 9] [] hx (le_upd2 (le_ok (p := 8) (L := 10) rfl (u 8 rfl).1) (o1 (.own rfl))) (ac (oq 8 10 (u 8 rfl) 0) (ac (oq 8 10 (u 8 rfl) 1) (ac (oq 8 10 (u 8 rfl) 2) (ac (oq 8 10 (u 8 rfl) 3) (ac (oq 8 10 (u 8 rfl) 4) (ac (oq 8 10 (u 8 rfl) 5) (ac (oq 8 10 (u 8 rfl) 6) (ac (oq 8 10 (u 8 rfl) 7) (ac (.cells (fun _ => rfl) (all2_row _)) (ac (oq 8 10 (u 8 rfl) 9) an))))))))))) k
         ·intro K _ f w u k
          show Wp K ⟨54, (upd 54 (upd 54 f 50 (D.one (C.own 8 0 (([r16] : List (List Int)).length) 1))) 47 (D.one (C.own 5 0 r2.2.l.length 1))), [_, _, _, _, _, (some (AObj.cells false (rowC (e_sl e_u8) r2.2.l))), _, _, (some (AObj.cells true (rowC (e_sl e_u8) ([r16] : List (List Int))))), _]⟩
          refine t_append (xs := r2.2.l) (ys := ([r16] : List (List Int))) (zs := r2.2.l ++ ([r16] : List (List Int))) (H' := [(w 0), (w 1), (w 2), (w 3), (w 4), none, (w 6), (w 7), (some (AObj.cells true (rowC (e_sl e_u8) ([r16] : List (List Int))))), (w 9), (some (AObj.cells false (rowC (e_sl e_u8) (r2.2.l ++ ([r16] : List (List Int))))))]) F.u_25 F.in_22 rfl (e_sl_len _) (.own rfl rfl) (.own rfl rfl) F.u_25 (by omega) (by omega) rfl rfl ?_
          refine AWops.weak (st' := ⟨54, (upd 54 (upd 54 (upd 54 f 50 (D.one (C.own 8 0 (([r16] : List (List Int)).length) 1))) 47 (D.one (C.own 5 0 r2.2.l.length 1))) 51 (D.one (C.own 9 0 ((r2.2.l ++ ([r16] : List (List Int))).length) 1))), [(w 0), (w 1), (w 2), (w 3), (w 4), none, (w 6), (w 7), (some (AObj.cells true (rowC (e_sl e_u8) ([r16] : List (List Int))))), (some (AObj.cells false (rowC (e_sl e_u8) (r2.2.l ++ ([r16] : List (List Int))))))]⟩) (wg 5 [0, 1, 2, 3, 4, 5, 6, 7, 8, 10] [] hx (le_upd2 (le_ok (p := 9) (L := 10) rfl (u 9 rfl).1) (o1 (.own rfl))) (ac (oq 9 10 (u 9 rfl) 0) (ac (oq 9 10 (u 9 rfl) 1) (ac (oq 9 10 (u 9 rfl) 2) (ac (oq 9 10 (u 9 rfl) 3) (ac (oq 9 10 (u 9 rfl) 4) (ac (.none _) (ac (oq 9 10 (u 9 rfl) 6) (ac (oq 9 10 (u 9 rfl) 7) (ac (.cells (fun _ => rfl) (all2_row _)) (ac (.cells id (all2_row _)) an))))))))))) k
         ·intro K _ f w u k
          show Wp K ⟨54, (upd 54 f 43 (rf 0 0)), [_, _, _, _, _, _, _, _, _, _]⟩
          refine s_nilCheck (d := (rf 0 0)) rfl (.inl ⟨_, _, rfl⟩) k
         ·intro K _ f w u k
          show Wp K ⟨54, (upd 54 f 52 (rf 0 0)), [_, _, _, _, _, _, _, _, _, _]⟩
          refine s_fieldRef F.fo_27_2 (by decide) rfl k
         ·intro K _ f w u k
          show Wp K ⟨54, (upd 54 (upd 54 f 53 (rf 0 2)) 51 (D.one (C.own 9 0 ((r2.2.l ++ ([r16] : List (List Int))).length) 1))), [(o_journal_Journal_02 false (C.ref 1 0) (C.own 5 0 r2.2.l.length 1) r2.2), _, _, _, _, _, _, _, _, _]⟩
          refine s_store (cs' := [(C.ref 1 0), (cl_ e_u8 r2.2.snap), (C.own 9 0 ((r2.2.l ++ ([r16] : List (List Int))).length) 1), (cb r2.2.stopped)]) rfl rfl rfl (List.cons_ne_nil _ _) rfl F.sz_25 (nl rfl) rfl k
        ·refine AWops.weak (st' := ⟨54, topF, [(o_journal_Journal_02 false (C.ref 1 0) (C.own 5 0 ((r2.2.l ++ ([r16] : List (List Int))).length) 1) r2.2), (some (AObj.cells false [(C.mp 2), (ci x9), (ci x10), (C.ref 6 0), (cb x11)])), (om_ e_vdisk_file x12), none, none, (some (AObj.cells false (rowC (e_sl e_u8) (r2.2.l ++ ([r16] : List (List Int)))))), (bx x13)]⟩) (wg 5 [0, 1, 2, 3, 4, 9, 6] [] hx (le_top _) (ac (.cells id (ac (.ref rfl) (ac .same (ac (.own rfl) (ac .sc an))))) (ac (qr rfl rfl) (ac .map (ac (.none _) (ac (.none _) (ac (.cells id (all2_row _)) (ac qb an)))))))) (AWops.nil (AW.seq (AW.region ?_)))
         refine s_assign (d := (si 0)) rfl (AWops.nil (AW.ret ?_))
         obtain rfl := Option.some.inj h
         exact ⟨_, rfl, (wg 5 [0, 1, 2, 3, 4, 5, 6] [] rfl (le_upd (le_top _) (o1 .sc)) (ac (.cells id (ac (.ref rfl) (ac .same (ac (.own rfl) (ac .sc an))))) (ac (qr rfl rfl) (ac .map (ac (.none _) (ac (.none _) (ac (.cells id (all2_row _)) (ac qb an))))))))⟩
 ·iterate 3 refine AWops.guard_no rfl (nl rfl) rfl c1 ?_
  refine s_pick_no (d := (sb false)) rfl c1 rfl ?_
  obtain ⟨r18, er18, h⟩ := bnd h
  refine cc [0, 1, 5, 2, 6] [(o_journal_Journal_02 false (C.ref 1 0) (C.own 5 0 r18.2.l.length 1) r18.2), (o_vdisk_Disk_03 false (C.mp 2) (C.ref 6 0) p1), (om_ e_vdisk_file p1.files), none, none, (some (AObj.cells false (rowC (e_sl e_u8) r18.2.l))), (bx b1_3)] (si r18.1) F.ca_24 rfl rfl (ac (.one (.ref rfl)) (ac (.one .sc) an)) (ac (.cells (ac (.ref rfl) (ac .imm (ac (.own rfl) (ac .sc an))))) (ac (.cells (ac (.mp rfl) (ac .sc (ac .sc (ac (.ref rfl) (ac .sc an)))))) (ac (.cells (lend_row _)) (ac .map (ac (.cells (ac .sc an)) an))))) (journal_Journal_may_fresh_24.meets _ (⟨(), p0.snap, p0.l, p0.stopped⟩ : journal_Journal) false p1 b1_3 r18 er18) (s_assign (d := (si r18.1)) rfl (AWops.nil (AW.seq (AW.region (s_move (d := (si r18.1)) rfl (s_binI (v := (.bool (r18.1 != 0))) rfl rfl rfl (AWops.nil ?_)))))))
  rcases itH h with ⟨c19, h⟩ | ⟨c19, h⟩
  ·refine AW.cond_yes rfl c19 (AW.seq (AW.region ?_))
   refine s_move (d := (si r18.1)) rfl (s_assign (d := (si r18.1)) rfl (AWops.nil (AW.ret ?_)))
   obtain rfl := Option.some.inj h
   exact ⟨_, rfl, (wg 5 [0, 1, 2, 3, 4, 5, 6] [] rfl (le_upd (le_top _) (o1 .sc)) (ac (.cells id (ac (.ref rfl) (ac .same (ac (.own rfl) (ac .sc an))))) (ac (qr rfl rfl) (ac .map (ac (.none _) (ac (.none _) (ac (.cells id (all2_row _)) (ac qb an))))))))⟩
  ·refine AW.cond_no rfl c19 (AW.skip (AW.seq ?_))
   refine AW.weak (st' := ⟨54, (upd 54 (upd 54 topF 0 (rf 0 0)) 1 (ds_ e_u8 a1)), [(o_journal_Journal_02 false (C.ref 1 0) (C.own 5 0 r18.2.l.length 1) r18.2), (o_vdisk_Disk_03 false (C.mp 2) (C.ref 6 0) p1), (om_ e_vdisk_file p1.files), none, none, (some (AObj.cells false (rowC (e_sl e_u8) r18.2.l))), (bx b1_3)]⟩) (wg 5 [0, 1, 2, 3, 4, 5, 6] [] hx (le_upd (le_upd (le_top _) (o1 (.ref rfl))) (o1 .same)) (ac (.cells id (ac (.ref rfl) (ac .same (ac (.own rfl) (ac .sc an))))) (ac (qr rfl rfl) (ac .map (ac (.none _) (ac (.none _) (ac (.cells id (all2_row _)) (ac qb an)))))))) ?_
   obtain ⟨r20, er20, h⟩ := bnd h
   obtain ⟨r21, er21, h⟩ := bnd h
   refine AW.draw (n := 54) (L := 9) [(ft 0 20 (rf 0 0) [(0, (rf 0 0))]), (ft 1 21 (rf 0 0) [(20, (rf 0 0))]), (ft 2 22 (rf 0 0) [(21, (rf 0 0))]), (3, ⟨some 23, (rf 1 0), [(22, (rf 0 0))], [(0, (o_journal_Journal_02 false (C.ref 1 0) (C.own 5 0 r18.2.l.length 1) r18.2))], [], none⟩), (ft 4 24 (ds_ e_u8 a1) [(1, (ds_ e_u8 a1))]), (5, ⟨some 25, (D.one (C.own 7 0 r20.length 1)), [(24, (ds_ e_u8 a1))], [], [(7, (ow_ e_u8 r20))], some 7⟩), (6, ⟨some 26, (si r21.1), [(23, (rf 1 0)), (25, (D.one (C.own 7 0 r20.length 1)))], [(1, (o_vdisk_Disk_03 false (C.mp 2) (C.ref 6 0) p1)), (2, (om_ e_vdisk_file p1.files)), (6, (bx b1_3)), (7, (ow_ e_u8 r20))], [(1, (o_vdisk_Disk_03 false (C.mp 2) (C.ref 6 0) r21.2.1)), (2, (om_ e_vdisk_file r21.2.1.files)), (6, (bx r21.2.2))], none⟩), (ft 7 6 (si r21.1) [(26, (si r21.1))])] [[], [0], [0, 1], [0, 1, 2], [], [4], (.range 6), (.range 7)] (nl rfl) [0, 1, 2, 3, 0, 1, 4, 5] rfl (TK := [(5, 7)]) rfl (AllK.cons' ⟨(tk_upd (tk_upd tk_top rfl) rfl), (tC rfl (tC rfl (tC rfl (tC rfl (tC rfl (tC (tkO_row _) (tC rfl AllT.nil'))))))), (fC (.inr rfl) (fC (.inr rfl) (fC (.inr rfl) (fC (.inr rfl) (fC (.inr rfl) (fC (.inl rfl) (fC (.inl rfl) (fC (.inl rfl) AllF.nil'))))))))⟩ AllK.nil') (by repeat (first | refine fC ⟨?_, ?_⟩ ?_ | refine sC rfl ?_ | refine hC rfl ?_ | trivial)) ?_ ?_
   ·refine y8 ?_ ?_ ?_ ?_ ?_ ?_ ?_ ?_ yN
    ·intro K _ f w u k
     show Wp K ⟨54, (upd 54 f 0 (rf 0 0)), _⟩
     refine s_move (d := (rf 0 0)) rfl k
    ·intro K _ f w u k
     show Wp K ⟨54, (upd 54 f 20 (rf 0 0)), [_, _, _, _, _, _, _, _, _]⟩
     refine s_nilCheck (d := (rf 0 0)) rfl (.inl ⟨_, _, rfl⟩) k
    ·intro K _ f w u k
     show Wp K ⟨54, (upd 54 f 21 (rf 0 0)), [_, _, _, _, _, _, _, _, _]⟩
     refine s_fieldRef F.fo_27_0 (by decide) rfl k
    ·intro K _ f w u k
     show Wp K ⟨54, (upd 54 f 22 (rf 0 0)), [(o_journal_Journal_02 false (C.ref 1 0) (C.own 5 0 r18.2.l.length 1) r18.2), _, _, _, _, _, _, _, _]⟩
     refine s_load1 (c' := (C.ref 1 0)) F.ag_24 rfl rfl k
    ·intro K _ f w u k
     show Wp K ⟨54, (upd 54 f 1 (ds_ e_u8 a1)), _⟩
     refine s_move (d := (ds_ e_u8 a1)) rfl k
    ·intro K _ f w u k
     show Wp K ⟨54, (upd 54 f 24 (ds_ e_u8 a1)), [_, _, _, _, _, _, _, _, _]⟩
     refine cc [] [(w 0), (w 1), (w 2), (w 3), (w 4), (w 5), (w 6), (w 7), (w 8), (ow_ e_u8 r20)] (D.one (C.own 9 0 r20.length 1)) F.ca_26 rfl rfl (ac (.one .imm) an) an (journal_frame.meets _ a1 r20 er20) ?_
     refine AWops.weak (st' := ⟨54, (upd 54 (upd 54 f 24 (ds_ e_u8 a1)) 25 (D.one (C.own 7 0 r20.length 1))), [(w 0), (w 1), (w 2), (w 3), (w 4), (w 5), (w 6), (ow_ e_u8 r20), (w 8)]⟩) (wg 5 [0, 1, 2, 3, 4, 5, 6, 9, 8] [] hx (le_upd2 (le_ok (p := 7) (L := 9) rfl (u 7 rfl).1) (o1 (.own rfl))) (ac (oq 7 9 (u 7 rfl) 0) (ac (oq 7 9 (u 7 rfl) 1) (ac (oq 7 9 (u 7 rfl) 2) (ac (oq 7 9 (u 7 rfl) 3) (ac (oq 7 9 (u 7 rfl) 4) (ac (oq 7 9 (u 7 rfl) 5) (ac (oq 7 9 (u 7 rfl) 6) (ac (.cells (fun _ => rfl) (all2_row _)) (ac (oq 7 9 (u 7 rfl) 8) an)))))))))) k
    ·intro K _ f w u k
     show Wp K ⟨54, (upd 54 (upd 54 f 25 (D.one (C.own 7 0 r20.length 1))) 23 (rf 1 0)), [_, (o_vdisk_Disk_03 false (C.mp 2) (C.ref 6 0) p1), (om_ e_vdisk_file p1.files), _, _, _, (bx b1_3), (ow_ e_u8 r20), _]⟩
     refine cc [1, 7, 2, 6] [(w 0), (o_vdisk_Disk_03 false (C.mp 2) (C.ref 6 0) r21.2.1), (om_ e_vdisk_file r21.2.1.files), (w 3), (w 4), (w 5), (bx r21.2.2), (ow_ e_u8 r20), (w 8)] (si r21.1) F.ca_25 rfl rfl (ac (.one (.ref rfl)) (ac (.one .sc) (ac (.one (.own rfl)) an))) (ac (.cells (ac (.mp rfl) (ac .sc (ac .sc (ac (.ref rfl) (ac .sc an)))))) (ac (.cells (lend_row _)) (ac .map (ac (.cells (ac .sc an)) an)))) (vdisk_Disk_Append_25.meets _ p1 (⟨#[106, 111, 117, 114, 110, 97, 108]⟩ : ByteArray) r20 b1_3 r21 er21) k
    ·intro K _ f w u k
     show Wp K ⟨54, (upd 54 f 26 (si r21.1)), _⟩
     refine s_assign (d := (si r21.1)) rfl k
   ·refine AWops.weak (st' := ⟨54, (upd 54 (upd 54 (upd 54 topF 0 (rf 0 0)) 1 (ds_ e_u8 a1)) 6 (si r21.1)), [(o_journal_Journal_02 false (C.ref 1 0) (C.own 5 0 r18.2.l.length 1) r18.2), (o_vdisk_Disk_03 false (C.mp 2) (C.ref 6 0) r21.2.1), (om_ e_vdisk_file r21.2.1.files), none, none, (some (AObj.cells false (rowC (e_sl e_u8) r18.2.l))), (bx r21.2.2)]⟩) (wg 5 [0, 1, 2, 3, 4, 5, 6] [] hx (le_upd (le_upd (le_upd (le_top _) (o1 (.ref rfl))) (o1 .same)) (o1 .sc)) (ac (.cells id (ac (.ref rfl) (ac .same (ac (.own rfl) (ac .sc an))))) (ac (qr rfl rfl) (ac .map (ac (.none _) (ac (.none _) (ac (.cells id (all2_row _)) (ac qb an)))))))) (AWops.nil (AW.seq (AW.seq (AW.region ?_))))
    refine s_move (d := (si r21.1)) rfl (s_binI (v := (.bool (r21.1 == 71))) rfl rfl rfl (AWops.nil ?_))
    rcases itH h with ⟨c22, h⟩ | ⟨c22, h⟩
    ·refine AW.cond_yes rfl c22 (AW.seq (AW.region ?_))
     refine s_move (d := (si r21.1)) rfl (s_assign (d := (si r21.1)) rfl (AWops.nil (AW.ret ?_)))
     obtain rfl := Option.some.inj h
     exact ⟨_, rfl, (wg 5 [0, 1, 2, 3, 4, 5, 6] [] rfl (le_upd (le_top _) (o1 .sc)) (ac (.cells id (ac (.ref rfl) (ac .same (ac (.own rfl) (ac .sc an))))) (ac (qr rfl rfl) (ac .map (ac (.none _) (ac (.none _) (ac (.cells id (all2_row _)) (ac qb an))))))))⟩
    ·refine AW.cond_no rfl c22 (AW.skip ?_)
     refine AW.seqJ (fun st => ∃ (x25 : Int) (x26 : Int) (x27 : Bool) (x28 : List (ByteArray × vdisk_file)) (x29 : Int) (x30 : Int), journal_Journal_Append_fresh_7xx.j1 k x25 x26 x27 x28 x29 x30 a1 r18 = some r ∧ st = ⟨54, (upd 54 (upd 54 (upd 54 topF 0 (rf 0 0)) 1 (ds_ e_u8 a1)) 6 (si x30)), [(o_journal_Journal_02 false (C.ref 1 0) (C.own 5 0 r18.2.l.length 1) r18.2), (some (AObj.cells false [(C.mp 2), (ci x25), (ci x26), (C.ref 6 0), (cb x27)])), (om_ e_vdisk_file x28), none, none, (some (AObj.cells false (rowC (e_sl e_u8) r18.2.l))), (bx x29)]⟩) ?_ ?_
     ·refine AW.seq (AW.region ?_)
      refine s_move (d := (si r21.1)) rfl (s_binI (v := (.bool (r21.1 == 0))) rfl rfl rfl (AWops.nil ?_))
      rcases itH h with ⟨c23, h⟩ | ⟨c23, h⟩
      ·refine AW.cond_yes rfl c23 (AW.region ?_)
       refine s_move (d := (rf 0 0)) rfl (s_nilCheck (d := (rf 0 0)) rfl (.inl ⟨_, _, rfl⟩) (s_fieldRef F.fo_27_0 (by decide) rfl (s_load1 (c' := (C.ref 1 0)) F.ag_24 rfl rfl ?_)))
       obtain ⟨r24, er24, h⟩ := bnd h
       refine cc [1, 2, 6] [(o_journal_Journal_02 false (C.ref 1 0) (C.own 5 0 r18.2.l.length 1) r18.2), (o_vdisk_Disk_03 false (C.mp 2) (C.ref 6 0) r24.2.1), (om_ e_vdisk_file r24.2.1.files), none, none, (some (AObj.cells false (rowC (e_sl e_u8) r18.2.l))), (bx r24.2.2)] (si r24.1) F.ca_27 rfl rfl (ac (.one (.ref rfl)) (ac (.one .sc) an)) (ac (.cells (ac (.mp rfl) (ac .sc (ac .sc (ac (.ref rfl) (ac .sc an)))))) (ac .map (ac (.cells (ac .sc an)) an))) (vdisk_Disk_Sync_27.meets _ r21.2.1 (⟨#[106, 111, 117, 114, 110, 97, 108]⟩ : ByteArray) r21.2.2 r24 er24) (s_assign (d := (si r24.1)) rfl (AWops.nil ?_))
       exact ⟨⟨54, (upd 54 (upd 54 (upd 54 topF 0 (rf 0 0)) 1 (ds_ e_u8 a1)) 6 (si r24.1)), [(o_journal_Journal_02 false (C.ref 1 0) (C.own 5 0 r18.2.l.length 1) r18.2), (some (AObj.cells false [(C.mp 2), (ci r24.2.1.room), (ci r24.2.1.used), (C.ref 6 0), (cb r24.2.1.dead)])), (om_ e_vdisk_file r24.2.1.files), none, none, (some (AObj.cells false (rowC (e_sl e_u8) r18.2.l))), (bx r24.2.2)]⟩, (wg 5 [0, 1, 2, 3, 4, 5, 6] [] hx (le_upd (le_upd (le_upd (le_top _) (o1 (.ref rfl))) (o1 .same)) (o1 .sc)) (ac (.cells id (ac (.ref rfl) (ac .same (ac (.own rfl) (ac .sc an))))) (ac (qr rfl rfl) (ac .map (ac (.none _) (ac (.none _) (ac (.cells id (all2_row _)) (ac qb an)))))))), r24.2.1.room, r24.2.1.used, r24.2.1.dead, r24.2.1.files, r24.2.2, r24.1, h, rfl⟩
      ·refine AW.cond_no rfl c23 (AW.skip ?_)
       exact ⟨⟨54, (upd 54 (upd 54 (upd 54 topF 0 (rf 0 0)) 1 (ds_ e_u8 a1)) 6 (si r21.1)), [(o_journal_Journal_02 false (C.ref 1 0) (C.own 5 0 r18.2.l.length 1) r18.2), (some (AObj.cells false [(C.mp 2), (ci r21.2.1.room), (ci r21.2.1.used), (C.ref 6 0), (cb r21.2.1.dead)])), (om_ e_vdisk_file r21.2.1.files), none, none, (some (AObj.cells false (rowC (e_sl e_u8) r18.2.l))), (bx r21.2.2)]⟩, (wg 5 [0, 1, 2, 3, 4, 5, 6] [] hx (le_upd (le_upd (le_upd (le_top _) (o1 (.ref rfl))) (o1 .same)) (o1 .sc)) (ac (.cells id (ac (.ref rfl) (ac .same (ac (.own rfl) (ac .sc an))))) (ac (qr rfl rfl) (ac .map (ac (.none _) (ac (.none _) (ac (.cells id (all2_row _)) (ac qb an)))))))), r21.2.1.room, r21.2.1.used, r21.2.1.dead, r21.2.1.files, r21.2.2, r21.1, h, rfl⟩
     ·rintro st ⟨x25, x26, x27, x28, x29, x30, h, rfl⟩
      cases k with
      | zero => exact absurd h (by simp [journal_Journal_Append_fresh_7xx.j1])
      | succ qj1 =>
       replace h := (journal_Journal_Append_fresh_7xx.j1.eq_2 _ _ _ _ _ _ _ _ _).symm.trans h
       refine AW.seq (AW.seq (AW.region ?_))
       refine s_move (d := (si x30)) rfl (s_binI (v := (.bool (x30 != 0))) rfl rfl rfl (AWops.nil ?_))
       rcases itH h with ⟨c31, h⟩ | ⟨c31, h⟩
       ·refine AW.cond_yes rfl c31 (AW.seq (AW.region ?_))
        refine s_move (d := (rf 0 0)) rfl (s_nilCheck (d := (rf 0 0)) rfl (.inl ⟨_, _, rfl⟩) (s_fieldRef F.fo_27_3 (by decide) rfl (s_store (cs' := [(C.ref 1 0), (cl_ e_u8 r18.2.snap), (C.own 5 0 r18.2.l.length 1), (cb true)]) rfl rfl rfl (List.cons_ne_nil _ _) rfl F.sz_4 (nl rfl) rfl (AWops.nil (AW.seq (AW.region (s_move (d := (si x30)) rfl (s_assign (d := (si x30)) rfl (AWops.nil (AW.ret ?_))))))))))
        obtain rfl := Option.some.inj h
        exact ⟨_, rfl, (wg 5 [0, 1, 2, 3, 4, 5, 6] [] rfl (le_upd (le_top _) (o1 .sc)) (ac (.cells id (ac (.ref rfl) (ac .same (ac (.own rfl) (ac .sc an))))) (ac (qr rfl rfl) (ac .map (ac (.none _) (ac (.none _) (ac (.cells id (all2_row _)) (ac qb an))))))))⟩
       ·refine AW.cond_no rfl c31 (AW.skip (AW.seq ?_))
        refine AW.weak (st' := ⟨54, (upd 54 (upd 54 topF 0 (rf 0 0)) 1 (ds_ e_u8 a1)), [(o_journal_Journal_02 false (C.ref 1 0) (C.own 5 0 r18.2.l.length 1) r18.2), (some (AObj.cells false [(C.mp 2), (ci x25), (ci x26), (C.ref 6 0), (cb x27)])), (om_ e_vdisk_file x28), none, none, (some (AObj.cells false (rowC (e_sl e_u8) r18.2.l))), (bx x29)]⟩) (wg 5 [0, 1, 2, 3, 4, 5, 6] [] hx (le_upd (le_upd (le_top _) (o1 (.ref rfl))) (o1 .same)) (ac (.cells id (ac (.ref rfl) (ac .same (ac (.own rfl) (ac .sc an))))) (ac (qr rfl rfl) (ac .map (ac (.none _) (ac (.none _) (ac (.cells id (all2_row _)) (ac qb an)))))))) ?_
        obtain ⟨r32, er32, h⟩ := bnd h
        obtain ⟨c33, h⟩ := gdH h
        have dc33 := of_decide_eq_true c33
        refine AW.draw (n := 54) (L := 10) [(ft 0 43 (rf 0 0) [(0, (rf 0 0))]), (ft 1 44 (rf 0 0) [(0, (rf 0 0))]), (ft 2 45 (rf 0 0) [(44, (rf 0 0))]), (ft 3 46 (rf 0 2) [(45, (rf 0 0))]), (4, ⟨some 47, (D.one (C.own 5 0 r18.2.l.length 1)), [(46, (rf 0 2))], [(0, (o_journal_Journal_02 false (C.ref 1 0) (C.own 5 0 r18.2.l.length 1) r18.2))], [], none⟩), (ft 5 48 (ds_ e_u8 a1) [(1, (ds_ e_u8 a1))]), (6, ⟨some 49, (ds_ e_u8 r32), [(48, (ds_ e_u8 a1))], [], [], some 7⟩), (7, ⟨some 50, (D.one (C.own 8 0 (([r32] : List (List Int)).length) 1)), [(49, (ds_ e_u8 r32))], [], [(8, (some (AObj.cells true (rowC (e_sl e_u8) ([r32] : List (List Int))))))], some 8⟩), (8, ⟨some 51, (D.one (C.own 9 0 ((r18.2.l ++ ([r32] : List (List Int))).length) 1)), [(47, (D.one (C.own 5 0 r18.2.l.length 1))), (50, (D.one (C.own 8 0 (([r32] : List (List Int)).length) 1)))], [(5, (some (AObj.cells false (rowC (e_sl e_u8) r18.2.l)))), (8, (some (AObj.cells true (rowC (e_sl e_u8) ([r32] : List (List Int))))))], [(5, none), (9, (some (AObj.cells false (rowC (e_sl e_u8) (r18.2.l ++ ([r32] : List (List Int)))))))], some 9⟩), (ft 9 52 (rf 0 0) [(43, (rf 0 0))]), (ft 10 53 (rf 0 2) [(52, (rf 0 0))]), (11, ⟨none, (D.one C.top), [(51, (D.one (C.own 9 0 ((r18.2.l ++ ([r32] : List (List Int))).length) 1))), (53, (rf 0 2))], [(0, (o_journal_Journal_02 false (C.ref 1 0) (C.own 5 0 r18.2.l.length 1) r18.2))], [(0, (o_journal_Journal_02 false (C.ref 1 0) (C.own 9 0 ((r18.2.l ++ ([r32] : List (List Int))).length) 1) r18.2))], none⟩)] [[], [], [1], [1, 2], [1, 2, 3], [], [5], [5, 6], [1, 2, 3, 4, 5, 6, 7], (.range 9), (.range 10), (.range 11)] (nl rfl) [0, 0, 1, 2, 3, 0, 1, 2, 4, 5, 6, 7] rfl (TK := [(6, 7), (7, 8), (8, 9)]) rfl (AllK.cons' ⟨(tk_upd (tk_upd tk_top rfl) rfl), (tC rfl (tC rfl (tC rfl (tC rfl (tC rfl (tC (tkO_row _) (tC rfl AllT.nil'))))))), (fC (.inr rfl) (fC (.inr rfl) (fC (.inr rfl) (fC (.inr rfl) (fC (.inr rfl) (fC (.inr rfl) (fC (.inl rfl) (fC (.inl rfl) (fC (.inl rfl) (fC (.inl rfl) (fC (.inl rfl) (fC (.inl rfl) AllF.nil'))))))))))))⟩ (AllK.cons' ⟨(tk_upd (tk_upd tk_top rfl) rfl), (tC rfl (tC rfl (tC rfl (tC rfl (tC rfl (tC (tkO_row _) (tC rfl AllT.nil'))))))), (fC (.inr rfl) (fC (.inr rfl) (fC (.inr rfl) (fC (.inr rfl) (fC (.inr rfl) (fC (.inr rfl) (fC (.inr rfl) (fC (.inl rfl) (fC (.inl rfl) (fC (.inl rfl) (fC (.inl rfl) (fC (.inl rfl) AllF.nil'))))))))))))⟩ (AllK.cons' ⟨(tk_upd (tk_upd tk_top rfl) rfl), (tC rfl (tC rfl (tC rfl (tC rfl (tC rfl (tC (tkO_row _) (tC rfl AllT.nil'))))))), (by repeat (first | refine fC (.inl rfl) ?_ | refine fC (.inr rfl) ?_ | refine fC (.inr (by unfold tkFoot; simp only [List.all_cons, List.all_nil, tkO_row, Bool.and_true, Bool.true_and]; rfl)) ?_ | trivial))⟩ AllK.nil'))) (by repeat (first | refine fC ⟨?_, ?_⟩ ?_ | refine sC rfl ?_ | refine hC rfl ?_ | trivial)) ?_ ?_
        ·refine y8 ?_ ?_ ?_ ?_ ?_ ?_ ?_ ?_ (y4 ?_ ?_ ?_ ?_ yN)
         ·intro K _ f w u k
          show Wp K ⟨54, (upd 54 f 0 (rf 0 0)), _⟩
          refine s_move (d := (rf 0 0)) rfl k
         ·intro K _ f w u k
          show Wp K ⟨54, (upd 54 f 0 (rf 0 0)), _⟩
          refine s_move (d := (rf 0 0)) rfl k
         ·intro K _ f w u k
          show Wp K ⟨54, (upd 54 f 44 (rf 0 0)), [_, _, _, _, _, _, _, _, _, _]⟩
          refine s_nilCheck (d := (rf 0 0)) rfl (.inl ⟨_, _, rfl⟩) k
         ·intro K _ f w u k
          show Wp K ⟨54, (upd 54 f 45 (rf 0 0)), [_, _, _, _, _, _, _, _, _, _]⟩
          refine s_fieldRef F.fo_27_2 (by decide) rfl k
         ·intro K _ f w u k
          show Wp K ⟨54, (upd 54 f 46 (rf 0 2)), [(o_journal_Journal_02 false (C.ref 1 0) (C.own 5 0 r18.2.l.length 1) r18.2), _, _, _, _, _, _, _, _, _]⟩
          refine s_load1 (c' := (C.own 5 0 r18.2.l.length 1)) F.ag_25 rfl rfl k
         ·intro K _ f w u k
          show Wp K ⟨54, (upd 54 f 1 (ds_ e_u8 a1)), _⟩
          refine s_move (d := (ds_ e_u8 a1)) rfl k
         ·intro K _ f w u k
          show Wp K ⟨54, (upd 54 f 48 (ds_ e_u8 a1)), [_, _, _, _, _, _, _, _, _, _]⟩
          refine cc [] [(w 0), (w 1), (w 2), (w 3), (w 4), (w 5), (w 6), (w 7), (w 8), (w 9), (ow_ e_u8 r32)] (D.one (C.own 10 0 r32.length 1)) F.ca_28 rfl rfl (ac (.one .imm) an) an (slices_Clone_byte_byte.meets _ a1 r32 er32) ?_
          refine AWops.weak (st' := ⟨54, (upd 54 (upd 54 f 48 (ds_ e_u8 a1)) 49 (ds_ e_u8 r32)), [(w 0), (w 1), (w 2), (w 3), (w 4), (w 5), (w 6), (w 7), (w 8), (w 9)]⟩) (wg 5 [0, 1, 2, 3, 4, 5, 6, 7, 8, 9] [10] hx (le_upd2 (le_ok (p := 7) (L := 10) rfl (u 7 rfl).1) (o1 (CLe.frz e_u8_len rfl rfl rfl))) (ac (oq 7 10 (u 7 rfl) 0) (ac (oq 7 10 (u 7 rfl) 1) (ac (oq 7 10 (u 7 rfl) 2) (ac (oq 7 10 (u 7 rfl) 3) (ac (oq 7 10 (u 7 rfl) 4) (ac (oq 7 10 (u 7 rfl) 5) (ac (oq 7 10 (u 7 rfl) 6) (ac (oq 7 10 (u 7 rfl) 7) (ac (oq 7 10 (u 7 rfl) 8) (ac (oq 7 10 (u 7 rfl) 9) an))))))))))) k
         ·intro K _ f w u k
          show Wp K ⟨54, (upd 54 f 49 (ds_ e_u8 r32)), [_, _, _, _, _, _, _, _, _, _]⟩
          refine s_buildSlice (n := 1) (ps := [(0, (ds_ e_u8 r32))]) (cs := rowC (e_sl e_u8) ([r32] : List (List Int))) F.u_25 F.sz_22 F.z_22 rfl rfl (by decide) (by decide) rfl rfl ?_
          refine AWops.weak (st' := ⟨54, (upd 54 (upd 54 f 49 (ds_ e_u8 r32)) 50 (D.one (C.own 8 0 (([r32] : List (List Int)).length) 1))), [(w 0), (w 1), (w 2), (w 3), (w 4), (w 5), (w 6), (w 7), (some (AObj.cells true (rowC (e_sl e_u8) ([r32] : List (List Int))))), (w 9)]⟩) (wg 5 [0, 1, 2, 3, 4, 5, 6, 7, 10, 9] [] hx (le_upd2 (le_ok (p := 8) (L := 10) rfl (u 8 rfl).1) (o1 (.own rfl))) (ac (oq 8 10 (u 8 rfl) 0) (ac (oq 8 10 (u 8 rfl) 1) (ac (oq 8 10 (u 8 rfl) 2) (ac (oq 8 10 (u 8 rfl) 3) (ac (oq 8 10 (u 8 rfl) 4) (ac (oq 8 10 (u 8 rfl) 5) (ac (oq 8 10 (u 8 rfl) 6) (ac (oq 8 10 (u 8 rfl) 7) (ac (.cells (fun _ => rfl) (all2_row _)) (ac (oq 8 10 (u 8 rfl) 9) an))))))))))) k
         ·intro K _ f w u k
          show Wp K ⟨54, (upd 54 (upd 54 f 50 (D.one (C.own 8 0 (([r32] : List (List Int)).length) 1))) 47 (D.one (C.own 5 0 r18.2.l.length 1))), [_, _, _, _, _, (some (AObj.cells false (rowC (e_sl e_u8) r18.2.l))), _, _, (some (AObj.cells true (rowC (e_sl e_u8) ([r32] : List (List Int))))), _]⟩
          refine t_append (xs := r18.2.l) (ys := ([r32] : List (List Int))) (zs := r18.2.l ++ ([r32] : List (List Int))) (H' := [(w 0), (w 1), (w 2), (w 3), (w 4), none, (w 6), (w 7), (some (AObj.cells true (rowC (e_sl e_u8) ([r32] : List (List Int))))), (w 9), (some (AObj.cells false (rowC (e_sl e_u8) (r18.2.l ++ ([r32] : List (List Int))))))]) F.u_25 F.in_22 rfl (e_sl_len _) (.own rfl rfl) (.own rfl rfl) F.u_25 (by omega) (by omega) rfl rfl ?_
          refine AWops.weak (st' := ⟨54, (upd 54 (upd 54 (upd 54 f 50 (D.one (C.own 8 0 (([r32] : List (List Int)).length) 1))) 47 (D.one (C.own 5 0 r18.2.l.length 1))) 51 (D.one (C.own 9 0 ((r18.2.l ++ ([r32] : List (List Int))).length) 1))), [(w 0), (w 1), (w 2), (w 3), (w 4), none, (w 6), (w 7), (some (AObj.cells true (rowC (e_sl e_u8) ([r32] : List (List Int))))), (some (AObj.cells false (rowC (e_sl e_u8) (r18.2.l ++ ([r32] : List (List Int))))))]⟩) (wg 5 [0, 1, 2, 3, 4, 5, 6, 7, 8, 10] [] hx (le_upd2 (le_ok (p := 9) (L := 10) rfl (u 9 rfl).1) (o1 (.own rfl))) (ac (oq 9 10 (u 9 rfl) 0) (ac (oq 9 10 (u 9 rfl) 1) (ac (oq 9 10 (u 9 rfl) 2) (ac (oq 9 10 (u 9 rfl) 3) (ac (oq 9 10 (u 9 rfl) 4) (ac (.none _) (ac (oq 9 10 (u 9 rfl) 6) (ac (oq 9 10 (u 9 rfl) 7) (ac (.cells (fun _ => rfl) (all2_row _)) (ac (.cells id (all2_row _)) an))))))))))) k
         ·intro K _ f w u k
          show Wp K ⟨54, (upd 54 f 43 (rf 0 0)), [_, _, _, _, _, _, _, _, _, _]⟩
          refine s_nilCheck (d := (rf 0 0)) rfl (.inl ⟨_, _, rfl⟩) k
         ·intro K _ f w u k
          show Wp K ⟨54, (upd 54 f 52 (rf 0 0)), [_, _, _, _, _, _, _, _, _, _]⟩
          refine s_fieldRef F.fo_27_2 (by decide) rfl k
         ·intro K _ f w u k
          show Wp K ⟨54, (upd 54 (upd 54 f 53 (rf 0 2)) 51 (D.one (C.own 9 0 ((r18.2.l ++ ([r32] : List (List Int))).length) 1))), [(o_journal_Journal_02 false (C.ref 1 0) (C.own 5 0 r18.2.l.length 1) r18.2), _, _, _, _, _, _, _, _, _]⟩
          refine s_store (cs' := [(C.ref 1 0), (cl_ e_u8 r18.2.snap), (C.own 9 0 ((r18.2.l ++ ([r32] : List (List Int))).length) 1), (cb r18.2.stopped)]) rfl rfl rfl (List.cons_ne_nil _ _) rfl F.sz_25 (nl rfl) rfl k
        ·refine AWops.weak (st' := ⟨54, topF, [(o_journal_Journal_02 false (C.ref 1 0) (C.own 5 0 ((r18.2.l ++ ([r32] : List (List Int))).length) 1) r18.2), (some (AObj.cells false [(C.mp 2), (ci x25), (ci x26), (C.ref 6 0), (cb x27)])), (om_ e_vdisk_file x28), none, none, (some (AObj.cells false (rowC (e_sl e_u8) (r18.2.l ++ ([r32] : List (List Int)))))), (bx x29)]⟩) (wg 5 [0, 1, 2, 3, 4, 9, 6] [] hx (le_top _) (ac (.cells id (ac (.ref rfl) (ac .same (ac (.own rfl) (ac .sc an))))) (ac (qr rfl rfl) (ac .map (ac (.none _) (ac (.none _) (ac (.cells id (all2_row _)) (ac qb an)))))))) (AWops.nil (AW.seq (AW.region ?_)))
         refine s_assign (d := (si 0)) rfl (AWops.nil (AW.ret ?_))
         obtain rfl := Option.some.inj h
         exact ⟨_, rfl, (wg 5 [0, 1, 2, 3, 4, 5, 6] [] rfl (le_upd (le_top _) (o1 .sc)) (ac (.cells id (ac (.ref rfl) (ac .same (ac (.own rfl) (ac .sc an))))) (ac (qr rfl rfl) (ac .map (ac (.none _) (ac (.none _) (ac (.cells id (all2_row _)) (ac qb an))))))))⟩
def vdisk_Disk_Names.f (k : Nat) (p0 : vdisk_Disk) (p2 : Int) : Option (List ByteArray) := (vdisk_Disk_none_34.f k p0 p2).bind fun r1 => if (okK p0.files) = true then (some (sortK p0.files)) else none
theorem vdisk_Disk_Names.meets (k : Nat) (p0 : vdisk_Disk) (p2 : Int) (r : (List ByteArray)) (h : vdisk_Disk_Names.f k p0 p2 = some r) : Meets Try.prog 35 [(rf 0 0)] [(o_vdisk_Disk_03 false (C.mp 1) (C.ref 2 0) p0), (om_ e_vdisk_file p0.files), (bx p2)] (D.one (C.own 3 0 r.length 1)) [(o_vdisk_Disk_03 false (C.mp 1) (C.ref 2 0) p0), (om_ e_vdisk_file p0.files), (bx p2), (ow_ e_str r)] := by
 unfold vdisk_Disk_Names.f at h
 refine Meets.of_body (n := 11) Try.func35 rfl rfl (nl rfl) fun x hx => ?_
 replace hx : x.k = 3 := hx
 show AW _ x _ _ ⟨11, fr0 [(rf 0 0)], [(o_vdisk_Disk_03 false (C.mp 1) (C.ref 2 0) p0), (om_ e_vdisk_file p0.files), (bx p2)]⟩
 refine AW.seq (AW.region ?_)
 refine s_assign (d := (sc (.slice none 0 0))) rfl (AWops.nil (AW.seq (AW.seq (AW.region ?_))))
 refine s_move (d := (rf 0 0)) rfl ?_
 obtain ⟨r1, er1, h⟩ := bnd h
 have kr1 := vdisk_Disk_none_34.const er1
 subst kr1
 refine cc [0, 1, 2] [(o_vdisk_Disk_03 false (C.mp 1) (C.ref 2 0) p0), (om_ e_vdisk_file p0.files), (bx p2)] (sb false) F.ca_34 rfl rfl (ac (.one (.ref rfl)) an) (ac (.cells (ac (.mp rfl) (ac .sc (ac .sc (ac (.ref rfl) (ac .sc an)))))) (ac .map (ac (.cells (ac .sc an)) an))) (vdisk_Disk_none_34.meets _ p0 p2 false er1) (AWops.nil ?_)
 refine AW.cond_no rfl rfl (AW.skip (AW.seq (AW.region ?_)))
 refine s_move (d := (rf 0 0)) rfl (s_nilCheck (d := (rf 0 0)) rfl (.inl ⟨_, _, rfl⟩) (s_fieldRef F.fo_37_0 (by decide) rfl (s_load1 (c' := (C.mp 1)) F.ag_34 rfl rfl (cc [1] [(o_vdisk_Disk_03 false (C.mp 1) (C.ref 2 0) p0), (om_ e_vdisk_file p0.files), (bx p2), (some (AObj.cells true [(C.mp 1)]))] (D.one (C.clo 82 [(C.ref 3 0)])) F.ca_62 rfl rfl (ac (.one (.mp rfl)) an) (ac .map an) (SK.keys _) ?_))))
 obtain ⟨c2, h⟩ := gdH h
 refine cc [3, 1] [(o_vdisk_Disk_03 false (C.mp 1) (C.ref 2 0) p0), (om_ e_vdisk_file p0.files), (bx p2), (some (AObj.cells true [(C.mp 1)])), (some (AObj.cells true (rowC e_str (sortK p0.files))))] (D.one (C.own 4 0 ((sortK p0.files).length) 1)) F.ca_61 rfl rfl (ac (.one (LendC.cloL (ac (.ref rfl) an))) an) (ac (.cells (ac (.mp rfl) an)) (ac .map an)) (SK.sorted (b := true) (f := e_vdisk_file) c2) (s_assign (d := (D.one (C.own 4 0 ((sortK p0.files).length) 1))) rfl (AWops.nil (AW.ret ?_)))
 obtain rfl := Option.some.inj h
 exact ⟨_, rfl, (wg 3 [0, 1, 2, 4] [] rfl (le_upd (le_top _) (o1 (.own rfl))) (ac (qr rfl rfl) (ac .map (ac qb (ac (.cells (fun _ => rfl) (all2_row _)) an)))))⟩
mutual
def vdisk_Disk_Crash_16.l0 : Nat → Int → Int → Bool → (List (ByteArray × vdisk_file)) → Int → Int → (List Int) → (List ByteArray) → Option (Int × vdisk_Disk)
 | 0, _, _, _, _, _, _, _, _ => none
 | k + 1, x3, x4, x5, x6, x7, b0_3, a1, r2 => if (decide (x7 < (r2.length : Int))) = true then ((rd r2 x7).bind fun v9 => if (decide (x7 < (a1.length : Int))) = true then ((rd a1 x7).bind fun v12 => if (decide (v12 > 0)) = true then ((rd a1 x7).bind fun v14 => if (decide (0 ≤ (IntKind.i64.wrap (((lk_vdisk_file v9 x6).sure) + (if (IntKind.i64.wrap ((((lk_vdisk_file v9 x6).b).length : Int) - ((lk_vdisk_file v9 x6).sure))) < v14 then (IntKind.i64.wrap ((((lk_vdisk_file v9 x6).b).length : Int) - ((lk_vdisk_file v9 x6).sure))) else v14))) ∧ (IntKind.i64.wrap (((lk_vdisk_file v9 x6).sure) + (if (IntKind.i64.wrap ((((lk_vdisk_file v9 x6).b).length : Int) - ((lk_vdisk_file v9 x6).sure))) < v14 then (IntKind.i64.wrap ((((lk_vdisk_file v9 x6).b).length : Int) - ((lk_vdisk_file v9 x6).sure))) else v14))) ≤ (((lk_vdisk_file v9 x6).b).length : Int))) = true then ((vdisk_Disk_set_36.f k (⟨x6, x3, x4, (), x5⟩ : vdisk_Disk) v9 (⟨sub ((lk_vdisk_file v9 x6).b) 0 (IntKind.i64.wrap (((lk_vdisk_file v9 x6).sure) + (if (IntKind.i64.wrap ((((lk_vdisk_file v9 x6).b).length : Int) - ((lk_vdisk_file v9 x6).sure))) < v14 then (IntKind.i64.wrap ((((lk_vdisk_file v9 x6).b).length : Int) - ((lk_vdisk_file v9 x6).sure))) else v14))), IntKind.i64.wrap (((lk_vdisk_file v9 x6).sure) + (if (IntKind.i64.wrap ((((lk_vdisk_file v9 x6).b).length : Int) - ((lk_vdisk_file v9 x6).sure))) < v14 then (IntKind.i64.wrap ((((lk_vdisk_file v9 x6).b).length : Int) - ((lk_vdisk_file v9 x6).sure))) else v14))⟩ : vdisk_file) b0_3).bind fun r16 => vdisk_Disk_Crash_16.l0 k r16.room r16.used r16.dead r16.files (IntKind.i64.wrap (x7 + 1)) b0_3 a1 r2) else none) else (if (decide (0 ≤ ((lk_vdisk_file v9 x6).sure) ∧ ((lk_vdisk_file v9 x6).sure) ≤ (((lk_vdisk_file v9 x6).b).length : Int))) = true then ((vdisk_Disk_set_36.f k (⟨x6, x3, x4, (), x5⟩ : vdisk_Disk) v9 (⟨sub ((lk_vdisk_file v9 x6).b) 0 ((lk_vdisk_file v9 x6).sure), (lk_vdisk_file v9 x6).sure⟩ : vdisk_file) b0_3).bind fun r18 => vdisk_Disk_Crash_16.l0 k r18.room r18.used r18.dead r18.files (IntKind.i64.wrap (x7 + 1)) b0_3 a1 r2) else none)) else (if (decide (0 ≤ ((lk_vdisk_file v9 x6).sure) ∧ ((lk_vdisk_file v9 x6).sure) ≤ (((lk_vdisk_file v9 x6).b).length : Int))) = true then ((vdisk_Disk_set_36.f k (⟨x6, x3, x4, (), x5⟩ : vdisk_Disk) v9 (⟨sub ((lk_vdisk_file v9 x6).b) 0 ((lk_vdisk_file v9 x6).sure), (lk_vdisk_file v9 x6).sure⟩ : vdisk_file) b0_3).bind fun r20 => vdisk_Disk_Crash_16.l0 k r20.room r20.used r20.dead r20.files (IntKind.i64.wrap (x7 + 1)) b0_3 a1 r2) else none)) else (some (0, (⟨x6, x3, x4, (), false⟩ : vdisk_Disk)))
end
def vdisk_Disk_Crash_16.f (k : Nat) (p0 : vdisk_Disk) (b0_3 : Int) (a1 : List Int) : Option (Int × vdisk_Disk) := (vdisk_Disk_none_34.f k p0 b0_3).bind fun r1 => (vdisk_Disk_Names.f k p0 b0_3).bind fun r2 => vdisk_Disk_Crash_16.l0 k p0.room p0.used p0.dead p0.files 0 b0_3 a1 r2
theorem vdisk_Disk_Crash_16.meets (k : Nat) (p0 : vdisk_Disk) (b0_3 : Int) (a1 : List Int) (r : Int × vdisk_Disk) (h : vdisk_Disk_Crash_16.f k p0 b0_3 a1 = some r) : Meets Try.prog 16 [(rf 0 0), (ds_ e_i64 a1)] [(o_vdisk_Disk_03 false (C.mp 1) (C.ref 2 0) p0), (om_ e_vdisk_file p0.files), (bx b0_3)] (si r.1) [(o_vdisk_Disk_03 false (C.mp 1) np r.2), (om_ e_vdisk_file r.2.files), none] := by
 unfold vdisk_Disk_Crash_16.f at h
 refine Meets.of_body (n := 69) Try.func16 rfl rfl (nl rfl) fun x hx => ?_
 replace hx : x.k = 3 := hx
 show AW _ x _ _ ⟨69, fr0 [(rf 0 0), (ds_ e_i64 a1)], [(o_vdisk_Disk_03 false (C.mp 1) (C.ref 2 0) p0), (om_ e_vdisk_file p0.files), (bx b0_3)]⟩
 refine AW.weak (st' := ⟨69, (upd 69 (upd 69 topF 0 (rf 0 0)) 1 (ds_ e_i64 a1)), [(o_vdisk_Disk_03 false (C.mp 1) (C.ref 3 0) p0), (om_ e_vdisk_file p0.files), none, (bx b0_3)]⟩) (Weak.genL (kk := 3) [0, 1, 2, 2] [] hx rfl (by decide) rfl rfl rfl rfl (le_upd (le_upd (le_top _) (o1 (.ref rfl))) (o1 .same)) (ac (qr rfl rfl) (ac .map (ac (.none _) (ac qb an))))) (AW.seq (AW.region ?_))
 refine s_assign (d := (si 0)) rfl (AWops.nil (AW.seq (AW.seq (AW.region ?_))))
 refine s_move (d := (rf 0 0)) rfl ?_
 obtain ⟨r1, er1, h⟩ := bnd h
 have kr1 := vdisk_Disk_none_34.const er1
 subst kr1
 refine cc [0, 1, 3] [(o_vdisk_Disk_03 false (C.mp 1) (C.ref 3 0) p0), (om_ e_vdisk_file p0.files), none, (bx b0_3)] (sb false) F.ca_34 rfl rfl (ac (.one (.ref rfl)) an) (ac (.cells (ac (.mp rfl) (ac .sc (ac .sc (ac (.ref rfl) (ac .sc an)))))) (ac .map (ac (.cells (ac .sc an)) an))) (vdisk_Disk_none_34.meets _ p0 b0_3 false er1) (AWops.nil ?_)
 refine AW.cond_no rfl rfl (AW.skip (AW.seq (AW.seq (AW.region ?_))))
 refine s_move (d := (rf 0 0)) rfl ?_
 obtain ⟨r2, er2, h⟩ := bnd h
 refine cc [0, 1, 3] [(o_vdisk_Disk_03 false (C.mp 1) (C.ref 3 0) p0), (om_ e_vdisk_file p0.files), none, (bx b0_3), (ow_ e_str r2)] (D.one (C.own 4 0 r2.length 1)) F.ca_35 rfl rfl (ac (.one (.ref rfl)) an) (ac (.cells (ac (.mp rfl) (ac .sc (ac .sc (ac (.ref rfl) (ac .sc an)))))) (ac .map (ac (.cells (ac .sc an)) an))) (vdisk_Disk_Names.meets _ p0 b0_3 r2 er2) (s_len (n := r2.length) F.u_76 rfl (.inr ⟨(fun _ _ h => by cases h), ⟨_, rfl⟩⟩) (s_move (d := (si 0)) rfl (AWops.nil (AW.block ?_))))
 refine AW.loopw (st0 := ⟨69, (upd 69 (upd 69 (upd 69 (upd 69 (upd 69 topF 0 (rf 0 0)) 1 (ds_ e_i64 a1)) 12 (D.one (C.own 3 0 r2.length 1))) 13 (si (r2.length : Int))) 14 (si 0)), [(some (AObj.cells false [(C.mp 1), (ci p0.room), (ci p0.used), (C.ref 4 0), (cb p0.dead)])), (om_ e_vdisk_file p0.files), none, (ow_ e_str r2), (bx b0_3)]⟩) (fun kv st => kv ≤ k ∧ ∃ (x3 : Int) (x4 : Int) (x5 : Bool) (x6 : List (ByteArray × vdisk_file)) (x7 : Int), vdisk_Disk_Crash_16.l0 kv x3 x4 x5 x6 x7 b0_3 a1 r2 = some r ∧ st = ⟨69, (upd 69 (upd 69 (upd 69 (upd 69 (upd 69 topF 0 (rf 0 0)) 1 (ds_ e_i64 a1)) 12 (D.one (C.own 3 0 r2.length 1))) 13 (si (r2.length : Int))) 14 (si x7)), [(some (AObj.cells false [(C.mp 1), (ci x3), (ci x4), (C.ref 4 0), (cb x5)])), (om_ e_vdisk_file x6), none, (ow_ e_str r2), (bx b0_3)]⟩) (k := k) (wg 3 [0, 1, 2, 4, 3] [] hx (le_upd (le_upd (le_upd (le_upd (le_upd (le_top _) (o1 (.ref rfl))) (o1 .same)) (o1 (.own rfl))) (o1 .sc)) (o1 .sc)) (ac (qr rfl rfl) (ac .map (ac (.none _) (ac (.cells (fun _ => rfl) (all2_row _)) (ac qb an)))))) ⟨Nat.le_refl _, p0.room, p0.used, p0.dead, p0.files, 0, h, rfl⟩ ?_
 rintro ql0 st ⟨hkl0, x3, x4, x5, x6, x7, h, rfl⟩
 cases ql0 with
 | zero => exact absurd h (by simp [vdisk_Disk_Crash_16.l0])
 | succ ql0 =>
  replace h := (vdisk_Disk_Crash_16.l0.eq_2 _ _ _ _ _ _ _ _ _).symm.trans h
  refine AW.seq (AW.region ?_)
  refine s_binI (v := (.bool (decide (x7 < (r2.length : Int))))) rfl rfl rfl (AWops.nil (AW.seq ?_))
  rcases itH h with ⟨c8, h⟩ | ⟨c8, h⟩
  ·refine AW.cond_yes rfl c8 (AW.skip (AW.seq (AW.block (AW.seq (AW.region ?_)))))
   refine s_move (d := (si x7)) rfl ?_
   obtain ⟨v9, ev9, h⟩ := bnd h
   obtain ⟨pv9, qv9, gv9⟩ := rd_some ev9
   refine s_indexOwn (d := (D.one (C.ref 3 (0 + x7.toNat * 1)))) F.u_76 F.sz_9 rfl rfl pv9 qv9 rfl ?_
   obtain ⟨R10, hR10⟩ := row_at (f := e_str) (sz := 1) (o := 0) e_str_len gv9 (e_str_eq v9) (by decide)
   refine s_load1 (c' := (ct v9)) F.ag_9 (congrArg some hR10) rfl (s_assign (d := (si x7)) rfl (s_assign (d := (st_ v9)) rfl (AWops.nil (AW.seq (AW.region (s_move (d := (rf 0 0)) rfl (s_nilCheck (d := (rf 0 0)) rfl (.inl ⟨_, _, rfl⟩) (s_fieldRef F.fo_37_0 (by decide) rfl ?_))))))))
   refine s_load1 (c' := (C.mp 1)) F.ag_34 rfl rfl (s_move (d := (st_ v9)) rfl (t_lookup (b := true) F.u_34 F.u_9 F.z_79 (z := ((⟨([] : List Int), 0⟩ : vdisk_file) : vdisk_file)) (zs := [(.slice none 0 0), (.int .i64 0)]) rfl (fun h => by cases h) (ac ZRel.n (ac (ZRel.v _ rfl) an)) rfl rfl rfl rfl (s_alloc (cs := [(C.p true (.v (.slice none 0 0))), (ci 0)]) F.z_79 rfl rfl (s_store (cs' := (c_vdisk_file (lk_vdisk_file v9 x6))) rfl rfl rfl (List.cons_ne_nil _ _) rfl F.sz_79 (nl rfl) rfl (AWops.nil (AW.seq (AW.region (s_fieldRef F.fo_79_1 (by decide) rfl ?_))))))))
   refine s_load1 (c' := (ci ((lk_vdisk_file v9 x6).sure))) F.ag_3 rfl rfl (s_assign (d := (si ((lk_vdisk_file v9 x6).sure))) rfl (AWops.nil (AW.seq (AW.seq (AW.region (s_move (d := (si x7)) rfl (s_move (d := (ds_ e_i64 a1)) rfl (s_len (n := a1.length) F.u_42 rfl (.inr ⟨(fun _ _ h => by cases h), ⟨_, rfl⟩⟩) (s_binI (v := (.bool (decide (x7 < (a1.length : Int))))) rfl rfl rfl ?_)))))))))
   refine s_move (d := (sb (decide (x7 < (a1.length : Int))))) rfl ?_
   rcases itH h with ⟨c11, h⟩ | ⟨c11, h⟩
   ·refine AWops.guard_yes rfl (nl rfl) rfl c11 ?_
    refine s_move (d := (ds_ e_i64 a1)) rfl ?_
    refine AWops.guard_yes rfl (nl rfl) rfl c11 ?_
    refine s_move (d := (si x7)) rfl ?_
    refine AWops.guard_yes rfl (nl rfl) rfl c11 ?_
    obtain ⟨v12, ev12, h⟩ := bnd h
    obtain ⟨pv12, qv12, gv12⟩ := rd_some ev12
    refine s_indexImm (ps := [P.v (.int .i64 v12)]) F.u_42 F.sz_3 rfl rfl pv12 qv12 (flat_at e_i64_len gv12 (e_i64_eq v12)) ?_
    refine AWops.guard_yes rfl (nl rfl) rfl c11 ?_
    refine s_load1 (c' := (ci v12)) F.ag_3 rfl rfl ?_
    refine AWops.guard_yes rfl (nl rfl) rfl c11 ?_
    refine s_binI (v := (.bool (decide (v12 > 0)))) rfl rfl rfl (s_pick_yes (d := (sb (decide (v12 > 0)))) rfl c11 rfl (AWops.nil ?_))
    rcases itH h with ⟨c13, h⟩ | ⟨c13, h⟩
    ·refine AW.cond_yes rfl c13 ?_
     refine AW.weak (st' := ⟨69, (upd 69 (upd 69 (upd 69 (upd 69 (upd 69 (upd 69 (upd 69 (upd 69 (upd 69 (upd 69 (upd 69 (upd 69 (upd 69 (upd 69 topF 0 (rf 0 0)) 1 (ds_ e_i64 a1)) 5 (si x7)) 6 (st_ v9)) 7 (rf 3 0)) 8 (si ((lk_vdisk_file v9 x6).sure))) 12 (D.one (C.own 4 0 r2.length 1))) 13 (si (r2.length : Int))) 14 (si x7)) 32 (ds_ e_i64 a1)) 33 (si x7)) 34 (D.one (C.peek false [P.v (.int .i64 v12)]))) 35 (si v12)) 36 (sb (decide (v12 > 0)))), [(some (AObj.cells false [(C.mp 1), (ci x3), (ci x4), (C.ref 5 0), (cb x5)])), (om_ e_vdisk_file x6), none, (some (AObj.cells true (c_vdisk_file (lk_vdisk_file v9 x6)))), (ow_ e_str r2), (bx b0_3)]⟩) (wg 3 [0, 1, 2, 5, 3, 4] [] hx (le_upd (le_upd (le_upd (le_upd (le_upd (le_upd (le_upd (le_upd (le_upd (le_upd (le_upd (le_upd (le_upd (le_upd (le_top _) (o1 (.ref rfl))) (o1 .same)) (o1 .sc)) (o1 .sc)) (o1 (.ref rfl))) (o1 .sc)) (o1 (.own rfl))) (o1 .sc)) (o1 .sc)) (o1 .same)) (o1 .sc)) (o1 .peek)) (o1 .sc)) (o1 .sc)) (ac (qr rfl rfl) (ac .map (ac (.none _) (ac (.cells (fun _ => rfl) (ac .same (ac .sc an))) (ac (.cells (fun _ => rfl) (all2_row _)) (ac qb an))))))) ?_
     obtain ⟨v14, ev14, h⟩ := bnd h
     obtain ⟨pv14, qv14, gv14⟩ := rd_some ev14
     refine AW.draw (n := 69) (L := 6) [(ft 0 38 (rf 3 1) [(7, (rf 3 0))]), (1, ⟨some 39, (si ((lk_vdisk_file v9 x6).sure)), [(38, (rf 3 1))], [(3, (some (AObj.cells true (c_vdisk_file (lk_vdisk_file v9 x6)))))], [], none⟩), (ft 2 40 (ds_ e_i64 a1) [(1, (ds_ e_i64 a1))]), (ft 3 41 (si x7) [(5, (si x7))]), (ft 4 42 (D.one (C.peek false [P.v (.int .i64 v14)])) [(40, (ds_ e_i64 a1)), (41, (si x7))]), (ft 5 43 (si v14) [(42, (D.one (C.peek false [P.v (.int .i64 v14)])))]), (ft 6 44 (rf 3 0) [(7, (rf 3 0))]), (7, ⟨some 45, (D.one (C.p false (.sl ((lk_vdisk_file v9 x6).b).length (((lk_vdisk_file v9 x6).b).flatMap e_u8)))), [(44, (rf 3 0))], [(3, (some (AObj.cells true (c_vdisk_file (lk_vdisk_file v9 x6)))))], [], none⟩), (ft 8 46 (si (((lk_vdisk_file v9 x6).b).length : Int)) [(45, (D.one (C.p false (.sl ((lk_vdisk_file v9 x6).b).length (((lk_vdisk_file v9 x6).b).flatMap e_u8)))))]), (ft 9 47 (rf 3 1) [(7, (rf 3 0))]), (10, ⟨some 48, (si ((lk_vdisk_file v9 x6).sure)), [(47, (rf 3 1))], [(3, (some (AObj.cells true (c_vdisk_file (lk_vdisk_file v9 x6)))))], [], none⟩), (ft 11 49 (si (IntKind.i64.wrap ((((lk_vdisk_file v9 x6).b).length : Int) - ((lk_vdisk_file v9 x6).sure)))) [(46, (si (((lk_vdisk_file v9 x6).b).length : Int))), (48, (si ((lk_vdisk_file v9 x6).sure)))]), (ft 12 50 (si (if (IntKind.i64.wrap ((((lk_vdisk_file v9 x6).b).length : Int) - ((lk_vdisk_file v9 x6).sure))) < v14 then (IntKind.i64.wrap ((((lk_vdisk_file v9 x6).b).length : Int) - ((lk_vdisk_file v9 x6).sure))) else v14)) [(43, (si v14)), (49, (si (IntKind.i64.wrap ((((lk_vdisk_file v9 x6).b).length : Int) - ((lk_vdisk_file v9 x6).sure)))))]), (ft 13 51 (si (IntKind.i64.wrap (((lk_vdisk_file v9 x6).sure) + (if (IntKind.i64.wrap ((((lk_vdisk_file v9 x6).b).length : Int) - ((lk_vdisk_file v9 x6).sure))) < v14 then (IntKind.i64.wrap ((((lk_vdisk_file v9 x6).b).length : Int) - ((lk_vdisk_file v9 x6).sure))) else v14)))) [(39, (si ((lk_vdisk_file v9 x6).sure))), (50, (si (if (IntKind.i64.wrap ((((lk_vdisk_file v9 x6).b).length : Int) - ((lk_vdisk_file v9 x6).sure))) < v14 then (IntKind.i64.wrap ((((lk_vdisk_file v9 x6).b).length : Int) - ((lk_vdisk_file v9 x6).sure))) else v14)))]), (ft 14 8 (si (IntKind.i64.wrap (((lk_vdisk_file v9 x6).sure) + (if (IntKind.i64.wrap ((((lk_vdisk_file v9 x6).b).length : Int) - ((lk_vdisk_file v9 x6).sure))) < v14 then (IntKind.i64.wrap ((((lk_vdisk_file v9 x6).b).length : Int) - ((lk_vdisk_file v9 x6).sure))) else v14)))) [(51, (si (IntKind.i64.wrap (((lk_vdisk_file v9 x6).sure) + (if (IntKind.i64.wrap ((((lk_vdisk_file v9 x6).b).length : Int) - ((lk_vdisk_file v9 x6).sure))) < v14 then (IntKind.i64.wrap ((((lk_vdisk_file v9 x6).b).length : Int) - ((lk_vdisk_file v9 x6).sure))) else v14)))))])] [[], [0], [], [], [2, 3], [2, 3, 4], [], [6], [6, 7], [], [9], [6, 7, 8, 9, 10], [2, 3, 4, 5, 6, 7, 8, 9, 10, 11], (.range 13), (.range 14)] (nl rfl) [0, 1, 0, 0, 1, 2, 0, 1, 2, 0, 1, 3, 4, 5, 6] rfl (TK := []) rfl AllK.nil' (by repeat (first | refine fC ⟨?_, ?_⟩ ?_ | refine sC rfl ?_ | refine hC rfl ?_ | trivial)) ?_ ?_
     ·refine y8 ?_ ?_ ?_ ?_ ?_ ?_ ?_ ?_ (y4 ?_ ?_ ?_ ?_ (y2 ?_ ?_ (pC ?_ yN)))
      ·intro K _ f w u k
       show Wp K ⟨69, (upd 69 f 7 (rf 3 0)), [_, _, _, _, _, _]⟩
       refine s_fieldRef F.fo_79_1 (by decide) rfl k
      ·intro K _ f w u k
       show Wp K ⟨69, (upd 69 f 38 (rf 3 1)), [_, _, _, (some (AObj.cells true (c_vdisk_file (lk_vdisk_file v9 x6)))), _, _]⟩
       refine s_load1 (c' := (ci ((lk_vdisk_file v9 x6).sure))) F.ag_3 rfl rfl k
      ·intro K _ f w u k
       show Wp K ⟨69, (upd 69 f 1 (ds_ e_i64 a1)), _⟩
       refine s_move (d := (ds_ e_i64 a1)) rfl k
      ·intro K _ f w u k
       show Wp K ⟨69, (upd 69 f 5 (si x7)), _⟩
       refine s_move (d := (si x7)) rfl k
      ·intro K _ f w u k
       show Wp K ⟨69, (upd 69 (upd 69 f 41 (si x7)) 40 (ds_ e_i64 a1)), [_, _, _, _, _, _]⟩
       refine s_indexImm (ps := [P.v (.int .i64 v14)]) F.u_42 F.sz_3 rfl rfl pv14 qv14 (flat_at e_i64_len gv14 (e_i64_eq v14)) k
      ·intro K _ f w u k
       show Wp K ⟨69, (upd 69 f 42 (D.one (C.peek false [P.v (.int .i64 v14)]))), [_, _, _, _, _, _]⟩
       refine s_load1 (c' := (ci v14)) F.ag_3 rfl rfl k
      ·intro K _ f w u k
       show Wp K ⟨69, (upd 69 f 7 (rf 3 0)), [_, _, _, _, _, _]⟩
       refine s_fieldRef F.fo_79_0 (by decide) rfl k
      ·intro K _ f w u k
       show Wp K ⟨69, (upd 69 f 44 (rf 3 0)), [_, _, _, (some (AObj.cells true (c_vdisk_file (lk_vdisk_file v9 x6)))), _, _]⟩
       refine s_load1 (c' := (C.p false (.sl ((lk_vdisk_file v9 x6).b).length (((lk_vdisk_file v9 x6).b).flatMap e_u8)))) F.ag_22 rfl rfl k
      ·intro K _ f w u k
       show Wp K ⟨69, (upd 69 f 45 (D.one (C.p false (.sl ((lk_vdisk_file v9 x6).b).length (((lk_vdisk_file v9 x6).b).flatMap e_u8))))), [_, _, _, _, _, _]⟩
       refine s_len (n := ((lk_vdisk_file v9 x6).b).length) F.u_22 rfl (.inr ⟨(fun _ _ h => by cases h), ⟨_, rfl⟩⟩) k
      ·intro K _ f w u k
       show Wp K ⟨69, (upd 69 f 7 (rf 3 0)), [_, _, _, _, _, _]⟩
       refine s_fieldRef F.fo_79_1 (by decide) rfl k
      ·intro K _ f w u k
       show Wp K ⟨69, (upd 69 f 47 (rf 3 1)), [_, _, _, (some (AObj.cells true (c_vdisk_file (lk_vdisk_file v9 x6)))), _, _]⟩
       refine s_load1 (c' := (ci ((lk_vdisk_file v9 x6).sure))) F.ag_3 rfl rfl k
      ·intro K _ f w u k
       show Wp K ⟨69, (upd 69 (upd 69 f 48 (si ((lk_vdisk_file v9 x6).sure))) 46 (si (((lk_vdisk_file v9 x6).b).length : Int))), _⟩
       refine s_binI (v := (.int .i64 (IntKind.i64.wrap ((((lk_vdisk_file v9 x6).b).length : Int) - ((lk_vdisk_file v9 x6).sure))))) rfl rfl rfl k
      ·intro K _ f w u k
       show Wp K ⟨69, (upd 69 (upd 69 f 49 (si (IntKind.i64.wrap ((((lk_vdisk_file v9 x6).b).length : Int) - ((lk_vdisk_file v9 x6).sure))))) 43 (si v14)), [_, _, _, _, _, _]⟩
       refine s_min2 (r := (if (IntKind.i64.wrap ((((lk_vdisk_file v9 x6).b).length : Int) - ((lk_vdisk_file v9 x6).sure))) < v14 then (IntKind.i64.wrap ((((lk_vdisk_file v9 x6).b).length : Int) - ((lk_vdisk_file v9 x6).sure))) else v14)) rfl rfl rfl k
      ·intro K _ f w u k
       show Wp K ⟨69, (upd 69 (upd 69 f 50 (si (if (IntKind.i64.wrap ((((lk_vdisk_file v9 x6).b).length : Int) - ((lk_vdisk_file v9 x6).sure))) < v14 then (IntKind.i64.wrap ((((lk_vdisk_file v9 x6).b).length : Int) - ((lk_vdisk_file v9 x6).sure))) else v14))) 39 (si ((lk_vdisk_file v9 x6).sure))), _⟩
       refine s_binI (v := (.int .i64 (IntKind.i64.wrap (((lk_vdisk_file v9 x6).sure) + (if (IntKind.i64.wrap ((((lk_vdisk_file v9 x6).b).length : Int) - ((lk_vdisk_file v9 x6).sure))) < v14 then (IntKind.i64.wrap ((((lk_vdisk_file v9 x6).b).length : Int) - ((lk_vdisk_file v9 x6).sure))) else v14))))) rfl rfl rfl k
      ·intro K _ f w u k
       show Wp K ⟨69, (upd 69 f 51 (si (IntKind.i64.wrap (((lk_vdisk_file v9 x6).sure) + (if (IntKind.i64.wrap ((((lk_vdisk_file v9 x6).b).length : Int) - ((lk_vdisk_file v9 x6).sure))) < v14 then (IntKind.i64.wrap ((((lk_vdisk_file v9 x6).b).length : Int) - ((lk_vdisk_file v9 x6).sure))) else v14))))), _⟩
       refine s_assign (d := (si (IntKind.i64.wrap (((lk_vdisk_file v9 x6).sure) + (if (IntKind.i64.wrap ((((lk_vdisk_file v9 x6).b).length : Int) - ((lk_vdisk_file v9 x6).sure))) < v14 then (IntKind.i64.wrap ((((lk_vdisk_file v9 x6).b).length : Int) - ((lk_vdisk_file v9 x6).sure))) else v14))))) rfl k
     ·refine AWops.weak (st' := ⟨69, (upd 69 (upd 69 (upd 69 (upd 69 (upd 69 (upd 69 (upd 69 (upd 69 (upd 69 (upd 69 (upd 69 (upd 69 (upd 69 topF 0 (rf 0 0)) 1 (ds_ e_i64 a1)) 6 (st_ v9)) 7 (rf 3 0)) 8 (si (IntKind.i64.wrap (((lk_vdisk_file v9 x6).sure) + (if (IntKind.i64.wrap ((((lk_vdisk_file v9 x6).b).length : Int) - ((lk_vdisk_file v9 x6).sure))) < v14 then (IntKind.i64.wrap ((((lk_vdisk_file v9 x6).b).length : Int) - ((lk_vdisk_file v9 x6).sure))) else v14))))) 12 (D.one (C.own 4 0 r2.length 1))) 13 (si (r2.length : Int))) 14 (si x7)) 32 (ds_ e_i64 a1)) 33 (si x7)) 34 (D.one (C.peek false [P.v (.int .i64 v12)]))) 35 (si v12)) 36 (sb (decide (v12 > 0)))), [(some (AObj.cells false [(C.mp 1), (ci x3), (ci x4), (C.ref 5 0), (cb x5)])), (om_ e_vdisk_file x6), none, (some (AObj.cells true (c_vdisk_file (lk_vdisk_file v9 x6)))), (ow_ e_str r2), (bx b0_3)]⟩) (wg 3 [0, 1, 2, 3, 4, 5] [] hx (le_upd (le_upd (le_upd (le_upd (le_upd (le_upd (le_upd (le_upd (le_upd (le_upd (le_upd (le_upd (le_upd (le_top _) (o1 (.ref rfl))) (o1 .same)) (o1 .sc)) (o1 (.ref rfl))) (o1 .sc)) (o1 (.own rfl))) (o1 .sc)) (o1 .sc)) (o1 .same)) (o1 .sc)) (o1 .peek)) (o1 .sc)) (o1 .sc)) (ac (qr rfl rfl) (ac .map (ac (.none _) (ac (.cells (fun _ => rfl) (ac .same (ac .sc an))) (ac (.cells (fun _ => rfl) (all2_row _)) (ac qb an))))))) (AWops.nil (AW.region ?_))
      refine s_move (d := (rf 0 0)) rfl (s_move (d := (st_ v9)) rfl (s_fieldRef F.fo_79_0 (by decide) rfl (s_load1 (c' := (C.p false (.sl ((lk_vdisk_file v9 x6).b).length (((lk_vdisk_file v9 x6).b).flatMap e_u8)))) F.ag_22 rfl rfl (s_move (d := (si (IntKind.i64.wrap (((lk_vdisk_file v9 x6).sure) + (if (IntKind.i64.wrap ((((lk_vdisk_file v9 x6).b).length : Int) - ((lk_vdisk_file v9 x6).sure))) < v14 then (IntKind.i64.wrap ((((lk_vdisk_file v9 x6).b).length : Int) - ((lk_vdisk_file v9 x6).sure))) else v14))))) rfl (s_move (d := (si (IntKind.i64.wrap (((lk_vdisk_file v9 x6).sure) + (if (IntKind.i64.wrap ((((lk_vdisk_file v9 x6).b).length : Int) - ((lk_vdisk_file v9 x6).sure))) < v14 then (IntKind.i64.wrap ((((lk_vdisk_file v9 x6).b).length : Int) - ((lk_vdisk_file v9 x6).sure))) else v14))))) rfl ?_)))))
      obtain ⟨c15, h⟩ := gdH h
      have dc15 := of_decide_eq_true c15
      refine t_slice3Imm F.u_22 F.sz_5 e_u8_len rfl rfl rfl (by omega) (by omega) (s_move (d := (si (IntKind.i64.wrap (((lk_vdisk_file v9 x6).sure) + (if (IntKind.i64.wrap ((((lk_vdisk_file v9 x6).b).length : Int) - ((lk_vdisk_file v9 x6).sure))) < v14 then (IntKind.i64.wrap ((((lk_vdisk_file v9 x6).b).length : Int) - ((lk_vdisk_file v9 x6).sure))) else v14))))) rfl (s_build (ps := [(0, (D.one (C.p false (.sl (sub ((lk_vdisk_file v9 x6).b) 0 (IntKind.i64.wrap (((lk_vdisk_file v9 x6).sure) + (if (IntKind.i64.wrap ((((lk_vdisk_file v9 x6).b).length : Int) - ((lk_vdisk_file v9 x6).sure))) < v14 then (IntKind.i64.wrap ((((lk_vdisk_file v9 x6).b).length : Int) - ((lk_vdisk_file v9 x6).sure))) else v14)))).length ((sub ((lk_vdisk_file v9 x6).b) 0 (IntKind.i64.wrap (((lk_vdisk_file v9 x6).sure) + (if (IntKind.i64.wrap ((((lk_vdisk_file v9 x6).b).length : Int) - ((lk_vdisk_file v9 x6).sure))) < v14 then (IntKind.i64.wrap ((((lk_vdisk_file v9 x6).b).length : Int) - ((lk_vdisk_file v9 x6).sure))) else v14)))).flatMap e_u8))))), (1, (si (IntKind.i64.wrap (((lk_vdisk_file v9 x6).sure) + (if (IntKind.i64.wrap ((((lk_vdisk_file v9 x6).b).length : Int) - ((lk_vdisk_file v9 x6).sure))) < v14 then (IntKind.i64.wrap ((((lk_vdisk_file v9 x6).b).length : Int) - ((lk_vdisk_file v9 x6).sure))) else v14)))))]) (cs := [(C.p false (.sl (sub ((lk_vdisk_file v9 x6).b) 0 (IntKind.i64.wrap (((lk_vdisk_file v9 x6).sure) + (if (IntKind.i64.wrap ((((lk_vdisk_file v9 x6).b).length : Int) - ((lk_vdisk_file v9 x6).sure))) < v14 then (IntKind.i64.wrap ((((lk_vdisk_file v9 x6).b).length : Int) - ((lk_vdisk_file v9 x6).sure))) else v14)))).length ((sub ((lk_vdisk_file v9 x6).b) 0 (IntKind.i64.wrap (((lk_vdisk_file v9 x6).sure) + (if (IntKind.i64.wrap ((((lk_vdisk_file v9 x6).b).length : Int) - ((lk_vdisk_file v9 x6).sure))) < v14 then (IntKind.i64.wrap ((((lk_vdisk_file v9 x6).b).length : Int) - ((lk_vdisk_file v9 x6).sure))) else v14)))).flatMap e_u8))), (ci (IntKind.i64.wrap (((lk_vdisk_file v9 x6).sure) + (if (IntKind.i64.wrap ((((lk_vdisk_file v9 x6).b).length : Int) - ((lk_vdisk_file v9 x6).sure))) < v14 then (IntKind.i64.wrap ((((lk_vdisk_file v9 x6).b).length : Int) - ((lk_vdisk_file v9 x6).sure))) else v14))))]) F.z_79 rfl F.so_79 rfl rfl ?_))
      obtain ⟨r16, er16, h⟩ := bnd h
      refine cc [0, 1, 5] [(o_vdisk_Disk_03 false (C.mp 1) (C.ref 5 0) r16), (om_ e_vdisk_file r16.files), none, (some (AObj.cells true (c_vdisk_file (lk_vdisk_file v9 x6)))), (ow_ e_str r2), (bx b0_3)] (D.tup []) F.ca_36 rfl rfl (ac (.one (.ref rfl)) (ac (.one .sc) (ac (LendT.aggL (ac .imm (ac .sc an))) an))) (ac (.cells (ac (.mp rfl) (ac .sc (ac .sc (ac (.ref rfl) (ac .sc an)))))) (ac .map (ac (.cells (ac .sc an)) an))) (vdisk_Disk_set_36.meets _ (⟨x6, x3, x4, (), x5⟩ : vdisk_Disk) v9 (⟨sub ((lk_vdisk_file v9 x6).b) 0 (IntKind.i64.wrap (((lk_vdisk_file v9 x6).sure) + (if (IntKind.i64.wrap ((((lk_vdisk_file v9 x6).b).length : Int) - ((lk_vdisk_file v9 x6).sure))) < v14 then (IntKind.i64.wrap ((((lk_vdisk_file v9 x6).b).length : Int) - ((lk_vdisk_file v9 x6).sure))) else v14))), IntKind.i64.wrap (((lk_vdisk_file v9 x6).sure) + (if (IntKind.i64.wrap ((((lk_vdisk_file v9 x6).b).length : Int) - ((lk_vdisk_file v9 x6).sure))) < v14 then (IntKind.i64.wrap ((((lk_vdisk_file v9 x6).b).length : Int) - ((lk_vdisk_file v9 x6).sure))) else v14))⟩ : vdisk_file) b0_3 r16 er16) (AWops.nil (AW.region ?_))
      refine s_binI (v := (.int .i64 (IntKind.i64.wrap (x7 + 1)))) rfl rfl rfl (s_move (d := (si (IntKind.i64.wrap (x7 + 1)))) rfl (AWops.nil ?_))
      exact ⟨_, ⟨69, (upd 69 (upd 69 (upd 69 (upd 69 (upd 69 topF 0 (rf 0 0)) 1 (ds_ e_i64 a1)) 12 (D.one (C.own 3 0 r2.length 1))) 13 (si (r2.length : Int))) 14 (si (IntKind.i64.wrap (x7 + 1)))), [(some (AObj.cells false [(C.mp 1), (ci r16.room), (ci r16.used), (C.ref 4 0), (cb r16.dead)])), (om_ e_vdisk_file r16.files), none, (ow_ e_str r2), (bx b0_3)]⟩, by omega, (wg 3 [0, 1, 2, 4, 5] [] hx (le_upd (le_upd (le_upd (le_upd (le_upd (le_top _) (o1 (.ref rfl))) (o1 .same)) (o1 (.own rfl))) (o1 .sc)) (o1 .sc)) (ac (qr rfl rfl) (ac .map (ac (.none _) (ac (.cells (fun _ => rfl) (all2_row _)) (ac qb an)))))), by omega, r16.room, r16.used, r16.dead, r16.files, IntKind.i64.wrap (x7 + 1), h, rfl⟩
    ·refine AW.cond_no rfl c13 (AW.skip (AW.region ?_))
     refine s_move (d := (rf 0 0)) rfl (s_move (d := (st_ v9)) rfl (s_fieldRef F.fo_79_0 (by decide) rfl (s_load1 (c' := (C.p false (.sl ((lk_vdisk_file v9 x6).b).length (((lk_vdisk_file v9 x6).b).flatMap e_u8)))) F.ag_22 rfl rfl (s_move (d := (si ((lk_vdisk_file v9 x6).sure))) rfl (s_move (d := (si ((lk_vdisk_file v9 x6).sure))) rfl ?_)))))
     obtain ⟨c17, h⟩ := gdH h
     have dc17 := of_decide_eq_true c17
     refine t_slice3Imm F.u_22 F.sz_5 e_u8_len rfl rfl rfl (by omega) (by omega) (s_move (d := (si ((lk_vdisk_file v9 x6).sure))) rfl (s_build (ps := [(0, (D.one (C.p false (.sl (sub ((lk_vdisk_file v9 x6).b) 0 ((lk_vdisk_file v9 x6).sure)).length ((sub ((lk_vdisk_file v9 x6).b) 0 ((lk_vdisk_file v9 x6).sure)).flatMap e_u8))))), (1, (si ((lk_vdisk_file v9 x6).sure)))]) (cs := [(C.p false (.sl (sub ((lk_vdisk_file v9 x6).b) 0 ((lk_vdisk_file v9 x6).sure)).length ((sub ((lk_vdisk_file v9 x6).b) 0 ((lk_vdisk_file v9 x6).sure)).flatMap e_u8))), (ci ((lk_vdisk_file v9 x6).sure))]) F.z_79 rfl F.so_79 rfl rfl ?_))
     obtain ⟨r18, er18, h⟩ := bnd h
     refine cc [0, 1, 4] [(o_vdisk_Disk_03 false (C.mp 1) (C.ref 4 0) r18), (om_ e_vdisk_file r18.files), none, (ow_ e_str r2), (bx b0_3), (some (AObj.cells true (c_vdisk_file (lk_vdisk_file v9 x6))))] (D.tup []) F.ca_36 rfl rfl (ac (.one (.ref rfl)) (ac (.one .sc) (ac (LendT.aggL (ac .imm (ac .sc an))) an))) (ac (.cells (ac (.mp rfl) (ac .sc (ac .sc (ac (.ref rfl) (ac .sc an)))))) (ac .map (ac (.cells (ac .sc an)) an))) (vdisk_Disk_set_36.meets _ (⟨x6, x3, x4, (), x5⟩ : vdisk_Disk) v9 (⟨sub ((lk_vdisk_file v9 x6).b) 0 ((lk_vdisk_file v9 x6).sure), (lk_vdisk_file v9 x6).sure⟩ : vdisk_file) b0_3 r18 er18) (AWops.nil (AW.region ?_))
     refine s_binI (v := (.int .i64 (IntKind.i64.wrap (x7 + 1)))) rfl rfl rfl (s_move (d := (si (IntKind.i64.wrap (x7 + 1)))) rfl (AWops.nil ?_))
     exact ⟨_, ⟨69, (upd 69 (upd 69 (upd 69 (upd 69 (upd 69 topF 0 (rf 0 0)) 1 (ds_ e_i64 a1)) 12 (D.one (C.own 3 0 r2.length 1))) 13 (si (r2.length : Int))) 14 (si (IntKind.i64.wrap (x7 + 1)))), [(some (AObj.cells false [(C.mp 1), (ci r18.room), (ci r18.used), (C.ref 4 0), (cb r18.dead)])), (om_ e_vdisk_file r18.files), none, (ow_ e_str r2), (bx b0_3)]⟩, by omega, (wg 3 [0, 1, 2, 3, 4] [] hx (le_upd (le_upd (le_upd (le_upd (le_upd (le_top _) (o1 (.ref rfl))) (o1 .same)) (o1 (.own rfl))) (o1 .sc)) (o1 .sc)) (ac (qr rfl rfl) (ac .map (ac (.none _) (ac (.cells (fun _ => rfl) (all2_row _)) (ac qb an)))))), by omega, r18.room, r18.used, r18.dead, r18.files, IntKind.i64.wrap (x7 + 1), h, rfl⟩
   ·iterate 5 refine AWops.guard_no rfl (nl rfl) rfl c11 ?_
    refine s_pick_no (d := (sb false)) rfl c11 rfl (AWops.nil ?_)
    refine AW.cond_no rfl rfl (AW.skip (AW.region ?_))
    refine s_move (d := (rf 0 0)) rfl (s_move (d := (st_ v9)) rfl (s_fieldRef F.fo_79_0 (by decide) rfl (s_load1 (c' := (C.p false (.sl ((lk_vdisk_file v9 x6).b).length (((lk_vdisk_file v9 x6).b).flatMap e_u8)))) F.ag_22 rfl rfl (s_move (d := (si ((lk_vdisk_file v9 x6).sure))) rfl (s_move (d := (si ((lk_vdisk_file v9 x6).sure))) rfl ?_)))))
    obtain ⟨c19, h⟩ := gdH h
    have dc19 := of_decide_eq_true c19
    refine t_slice3Imm F.u_22 F.sz_5 e_u8_len rfl rfl rfl (by omega) (by omega) (s_move (d := (si ((lk_vdisk_file v9 x6).sure))) rfl (s_build (ps := [(0, (D.one (C.p false (.sl (sub ((lk_vdisk_file v9 x6).b) 0 ((lk_vdisk_file v9 x6).sure)).length ((sub ((lk_vdisk_file v9 x6).b) 0 ((lk_vdisk_file v9 x6).sure)).flatMap e_u8))))), (1, (si ((lk_vdisk_file v9 x6).sure)))]) (cs := [(C.p false (.sl (sub ((lk_vdisk_file v9 x6).b) 0 ((lk_vdisk_file v9 x6).sure)).length ((sub ((lk_vdisk_file v9 x6).b) 0 ((lk_vdisk_file v9 x6).sure)).flatMap e_u8))), (ci ((lk_vdisk_file v9 x6).sure))]) F.z_79 rfl F.so_79 rfl rfl ?_))
    obtain ⟨r20, er20, h⟩ := bnd h
    refine cc [0, 1, 4] [(o_vdisk_Disk_03 false (C.mp 1) (C.ref 4 0) r20), (om_ e_vdisk_file r20.files), none, (ow_ e_str r2), (bx b0_3), (some (AObj.cells true (c_vdisk_file (lk_vdisk_file v9 x6))))] (D.tup []) F.ca_36 rfl rfl (ac (.one (.ref rfl)) (ac (.one .sc) (ac (LendT.aggL (ac .imm (ac .sc an))) an))) (ac (.cells (ac (.mp rfl) (ac .sc (ac .sc (ac (.ref rfl) (ac .sc an)))))) (ac .map (ac (.cells (ac .sc an)) an))) (vdisk_Disk_set_36.meets _ (⟨x6, x3, x4, (), x5⟩ : vdisk_Disk) v9 (⟨sub ((lk_vdisk_file v9 x6).b) 0 ((lk_vdisk_file v9 x6).sure), (lk_vdisk_file v9 x6).sure⟩ : vdisk_file) b0_3 r20 er20) (AWops.nil (AW.region ?_))
    refine s_binI (v := (.int .i64 (IntKind.i64.wrap (x7 + 1)))) rfl rfl rfl (s_move (d := (si (IntKind.i64.wrap (x7 + 1)))) rfl (AWops.nil ?_))
    exact ⟨_, ⟨69, (upd 69 (upd 69 (upd 69 (upd 69 (upd 69 topF 0 (rf 0 0)) 1 (ds_ e_i64 a1)) 12 (D.one (C.own 3 0 r2.length 1))) 13 (si (r2.length : Int))) 14 (si (IntKind.i64.wrap (x7 + 1)))), [(some (AObj.cells false [(C.mp 1), (ci r20.room), (ci r20.used), (C.ref 4 0), (cb r20.dead)])), (om_ e_vdisk_file r20.files), none, (ow_ e_str r2), (bx b0_3)]⟩, by omega, (wg 3 [0, 1, 2, 3, 4] [] hx (le_upd (le_upd (le_upd (le_upd (le_upd (le_top _) (o1 (.ref rfl))) (o1 .same)) (o1 (.own rfl))) (o1 .sc)) (o1 .sc)) (ac (qr rfl rfl) (ac .map (ac (.none _) (ac (.cells (fun _ => rfl) (all2_row _)) (ac qb an)))))), by omega, r20.room, r20.used, r20.dead, r20.files, IntKind.i64.wrap (x7 + 1), h, rfl⟩
  ·refine AW.cond_no rfl c8 (AW.exit (AW.seq (AW.region ?_)))
   refine s_move (d := (rf 0 0)) rfl (s_move (d := (rf 0 0)) rfl (s_nilCheck (d := (rf 0 0)) rfl (.inl ⟨_, _, rfl⟩) (s_fieldRef F.fo_37_4 (by decide) rfl (s_store (cs' := [(C.mp 1), (ci x3), (ci x4), (C.ref 4 0), (cb false)]) rfl rfl rfl (List.cons_ne_nil _ _) rfl F.sz_4 (nl rfl) rfl (s_nilCheck (d := (rf 0 0)) rfl (.inl ⟨_, _, rfl⟩) ?_)))))
   refine s_fieldRef F.fo_37_3 (by decide) rfl (s_store (cs' := [(C.mp 1), (ci x3), (ci x4), np, (cb false)]) rfl rfl rfl (List.cons_ne_nil _ _) rfl F.sz_35 (nl rfl) rfl (AWops.nil (AW.seq (AW.region (s_assign (d := (si 0)) rfl (AWops.nil (AW.ret ?_)))))))
   obtain rfl := Option.some.inj h
   exact ⟨_, rfl, (wg 3 [0, 1, 2] [] rfl (le_upd (le_top _) (o1 .sc)) (ac (qs rfl) (ac .map (ac (.none _) an))))⟩
def vdisk_Disk_Remove_31.f (k : Nat) (p0 : vdisk_Disk) (a1 : ByteArray) (p2 : Int) : Option (Int × vdisk_Disk × Int) := (vdisk_Disk_change_55.f k p0 true a1 false 0 p2).bind fun r1 => if (r1.1 == 0) = true then ((vdisk_Disk_cut_59.f k r1.2.1 a1 r1.2.2).bind fun r3 => some (r1.1, r3, r1.2.2)) else (some (r1.1, r1.2.1, r1.2.2))
theorem vdisk_Disk_Remove_31.meets (k : Nat) (p0 : vdisk_Disk) (a1 : ByteArray) (p2 : Int) (r : Int × vdisk_Disk × Int) (h : vdisk_Disk_Remove_31.f k p0 a1 p2 = some r) : Meets Try.prog 31 [(rf 0 0), (st_ a1)] [(o_vdisk_Disk_03 false (C.mp 1) (C.ref 2 0) p0), (om_ e_vdisk_file p0.files), (bx p2)] (si r.1) [(o_vdisk_Disk_03 false (C.mp 1) (C.ref 2 0) r.2.1), (om_ e_vdisk_file r.2.1.files), (bx r.2.2)] := by
 unfold vdisk_Disk_Remove_31.f at h
 refine Meets.of_body (n := 15) Try.func31 rfl rfl (nl rfl) fun x hx => ?_
 replace hx : x.k = 3 := hx
 show AW _ x _ _ ⟨15, fr0 [(rf 0 0), (st_ a1)], [(o_vdisk_Disk_03 false (C.mp 1) (C.ref 2 0) p0), (om_ e_vdisk_file p0.files), (bx p2)]⟩
 refine AW.seq (AW.region ?_)
 refine s_assign (d := (si 0)) rfl (AWops.nil (AW.seq (AW.region ?_)))
 refine s_move (d := (rf 0 0)) rfl (s_move (d := (st_ a1)) rfl ?_)
 obtain ⟨r1, er1, h⟩ := bnd h
 refine cc [0, 1, 2] [(o_vdisk_Disk_03 false (C.mp 1) (C.ref 2 0) r1.2.1), (om_ e_vdisk_file r1.2.1.files), (bx r1.2.2)] (si r1.1) F.ca_55 rfl rfl (ac (.one (.ref rfl)) (ac (.one .sc) (ac (.one .sc) (ac (.one .sc) (ac (.one .sc) an))))) (ac (.cells (ac (.mp rfl) (ac .sc (ac .sc (ac (.ref rfl) (ac .sc an)))))) (ac .map (ac (.cells (ac .sc an)) an))) (vdisk_Disk_change_55.meets _ p0 true a1 false 0 p2 r1 er1) (s_assign (d := (si r1.1)) rfl (AWops.nil (AW.seq (AW.seq (AW.region (s_move (d := (si r1.1)) rfl (s_binI (v := (.bool (r1.1 == 0))) rfl rfl rfl (AWops.nil ?_))))))))
 rcases itH h with ⟨c2, h⟩ | ⟨c2, h⟩
 ·refine AW.cond_yes rfl c2 (AW.region ?_)
  refine s_move (d := (rf 0 0)) rfl (s_move (d := (st_ a1)) rfl ?_)
  obtain ⟨r3, er3, h⟩ := bnd h
  refine cc [0, 1, 2] [(o_vdisk_Disk_03 false (C.mp 1) (C.ref 2 0) r3), (om_ e_vdisk_file r3.files), (bx r1.2.2)] (D.tup []) F.ca_59 rfl rfl (ac (.one (.ref rfl)) (ac (.one .sc) an)) (ac (.cells (ac (.mp rfl) (ac .sc (ac .sc (ac (.ref rfl) (ac .sc an)))))) (ac .map (ac (.cells (ac .sc an)) an))) (vdisk_Disk_cut_59.meets _ r1.2.1 a1 r1.2.2 r3 er3) (AWops.nil (AW.seq (AW.region ?_)))
  refine s_move (d := (si r1.1)) rfl (s_assign (d := (si r1.1)) rfl (AWops.nil (AW.ret ?_)))
  obtain rfl := Option.some.inj h
  exact ⟨_, rfl, (wg 3 [0, 1, 2] [] rfl (le_upd (le_top _) (o1 .sc)) (ac (qr rfl rfl) (ac .map (ac qb an))))⟩
 ·refine AW.cond_no rfl c2 (AW.skip (AW.seq (AW.region ?_)))
  refine s_move (d := (si r1.1)) rfl (s_assign (d := (si r1.1)) rfl (AWops.nil (AW.ret ?_)))
  obtain rfl := Option.some.inj h
  exact ⟨_, rfl, (wg 3 [0, 1, 2] [] rfl (le_upd (le_top _) (o1 .sc)) (ac (qr rfl rfl) (ac .map (ac qb an))))⟩
def vdisk_Disk_Read_32.f (k : Nat) (p0 : vdisk_Disk) (a1 : ByteArray) (p2 : Int) : Option ((List Int) × Int) := (vdisk_Disk_none_34.f k p0 p2).bind fun r1 => if p0.dead = true then (some (([] : List Int), 70)) else (if ((mget a1 p0.files).isSome) = true then ((slices_Clone_byte_byte.f k ((lk_vdisk_file a1 p0.files).b)).bind fun r4 => some (r4, 0)) else (some (([] : List Int), 33)))
theorem vdisk_Disk_Read_32.meets (k : Nat) (p0 : vdisk_Disk) (a1 : ByteArray) (p2 : Int) (r : (List Int) × Int) (h : vdisk_Disk_Read_32.f k p0 a1 p2 = some r) : Meets Try.prog 32 [(rf 0 0), (st_ a1)] [(o_vdisk_Disk_03 false (C.mp 1) (C.ref 2 0) p0), (om_ e_vdisk_file p0.files), (bx p2)] (D.tup [(ds_ e_u8 r.1), (si r.2)]) [(o_vdisk_Disk_03 false (C.mp 1) (C.ref 2 0) p0), (om_ e_vdisk_file p0.files), (bx p2)] := by
 unfold vdisk_Disk_Read_32.f at h
 refine Meets.of_body (n := 30) Try.func32 rfl rfl (nl rfl) fun x hx => ?_
 replace hx : x.k = 3 := hx
 show AW _ x _ _ ⟨30, fr0 [(rf 0 0), (st_ a1)], [(o_vdisk_Disk_03 false (C.mp 1) (C.ref 2 0) p0), (om_ e_vdisk_file p0.files), (bx p2)]⟩
 refine AW.seq (AW.region ?_)
 refine s_assign (d := (sc (.slice none 0 0))) rfl (s_assign (d := (si 0)) rfl (AWops.nil (AW.seq (AW.block (AW.seq (AW.region (s_move (d := (rf 0 0)) rfl ?_)))))))
 obtain ⟨r1, er1, h⟩ := bnd h
 have kr1 := vdisk_Disk_none_34.const er1
 subst kr1
 refine cc [0, 1, 2] [(o_vdisk_Disk_03 false (C.mp 1) (C.ref 2 0) p0), (om_ e_vdisk_file p0.files), (bx p2)] (sb false) F.ca_34 rfl rfl (ac (.one (.ref rfl)) an) (ac (.cells (ac (.mp rfl) (ac .sc (ac .sc (ac (.ref rfl) (ac .sc an)))))) (ac .map (ac (.cells (ac .sc an)) an))) (vdisk_Disk_none_34.meets _ p0 p2 false er1) (s_assign (d := (sb false)) rfl (AWops.nil ?_))
 refine AW.cond_no rfl rfl (AW.seq (AW.region ?_))
 refine s_move (d := (rf 0 0)) rfl (s_nilCheck (d := (rf 0 0)) rfl (.inl ⟨_, _, rfl⟩) (s_fieldRef F.fo_37_4 (by decide) rfl (s_load1 (c' := (cb p0.dead)) F.ag_4 rfl rfl (s_assign (d := (sb p0.dead)) rfl (AWops.nil ?_)))))
 rcases itH h with ⟨c2, h⟩ | ⟨c2, h⟩
 ·refine AW.cond_yes rfl c2 (AW.seq (AW.region ?_))
  refine s_assign (d := (sc (.slice none 0 0))) rfl (s_assign (d := (si 70)) rfl (AWops.nil (AW.ret ?_)))
  obtain rfl := Option.some.inj h
  exact ⟨_, rfl, (wg 3 [0, 1, 2] [] rfl (le_upd (le_top _) (DLe.tup (ac (TLe.one .nil) (ac (TLe.one .sc) an)))) (ac (qr rfl rfl) (ac .map (ac qb an))))⟩
 ·refine AW.cond_no rfl c2 (AW.skip (AW.seq (AW.region ?_)))
  refine s_move (d := (rf 0 0)) rfl (s_nilCheck (d := (rf 0 0)) rfl (.inl ⟨_, _, rfl⟩) (s_fieldRef F.fo_37_0 (by decide) rfl (s_load1 (c' := (C.mp 1)) F.ag_34 rfl rfl (s_move (d := (st_ a1)) rfl (t_lookupOk (b := true) F.u_34 F.u_9 F.z_79 (z := ((⟨([] : List Int), 0⟩ : vdisk_file) : vdisk_file)) (zs := [(.slice none 0 0), (.int .i64 0)]) rfl (fun h => by cases h) (ac ZRel.n (ac (ZRel.v _ rfl) an)) rfl rfl rfl rfl ?_)))))
  refine s_move (d := (D.tup [(D.agg (c_vdisk_file (lk_vdisk_file a1 p0.files))), (sb ((mget a1 p0.files).isSome))])) rfl (s_extract (d := (D.agg (c_vdisk_file (lk_vdisk_file a1 p0.files)))) rfl rfl (s_extract (d := (sb ((mget a1 p0.files).isSome))) rfl rfl (s_alloc (cs := [(C.p true (.v (.slice none 0 0))), (ci 0)]) F.z_79 rfl rfl (s_store (cs' := (c_vdisk_file (lk_vdisk_file a1 p0.files))) rfl rfl rfl (List.cons_ne_nil _ _) rfl F.sz_79 (nl rfl) rfl (s_assign (d := (sb ((mget a1 p0.files).isSome))) rfl (AWops.nil (AW.seq (AW.seq (AW.region ?_)))))))))
  refine s_move (d := (sb ((mget a1 p0.files).isSome))) rfl (s_not rfl (AWops.nil ?_))
  rcases itH h with ⟨c3, h⟩ | ⟨c3, h⟩
  ·refine AW.cond_no rfl (by rw [c3] <;> rfl) (AW.skip (AW.seq (AW.region ?_)))
   refine s_fieldRef F.fo_79_0 (by decide) rfl (s_load1 (c' := (C.p false (.sl ((lk_vdisk_file a1 p0.files).b).length (((lk_vdisk_file a1 p0.files).b).flatMap e_u8)))) F.ag_22 rfl rfl ?_)
   obtain ⟨r4, er4, h⟩ := bnd h
   refine cc [] [(o_vdisk_Disk_03 false (C.mp 1) (C.ref 2 0) p0), (om_ e_vdisk_file p0.files), (bx p2), (some (AObj.cells true (c_vdisk_file (lk_vdisk_file a1 p0.files)))), (ow_ e_u8 r4)] (D.one (C.own 4 0 r4.length 1)) F.ca_28 rfl rfl (ac (.one .imm) an) an (slices_Clone_byte_byte.meets _ ((lk_vdisk_file a1 p0.files).b) r4 er4) (s_assign (d := (D.one (C.own 4 0 r4.length 1))) rfl (s_assign (d := (si 0)) rfl (AWops.nil (AW.ret ?_))))
   obtain rfl := Option.some.inj h
   exact ⟨_, rfl, (wg 3 [0, 1, 2] [4] rfl (le_upd (le_top _) (DLe.tup (ac (TLe.one (CLe.frz e_u8_len rfl rfl rfl)) (ac (TLe.one .sc) an)))) (ac (qr rfl rfl) (ac .map (ac qb an))))⟩
  ·refine AW.cond_yes rfl (by rw [c3] <;> rfl) (AW.seq (AW.region ?_))
   refine s_assign (d := (sc (.slice none 0 0))) rfl (s_assign (d := (si 33)) rfl (AWops.nil (AW.ret ?_)))
   obtain rfl := Option.some.inj h
   exact ⟨_, rfl, (wg 3 [0, 1, 2] [] rfl (le_upd (le_top _) (DLe.tup (ac (TLe.one .nil) (ac (TLe.one .sc) an)))) (ac (qr rfl rfl) (ac .map (ac qb an))))⟩
mutual
def slices_Equal_byte_byte.l0 : Nat → Int → (List Int) → (List Int) → Option Bool
 | 0, _, _, _ => none
 | k + 1, x2, a0, a1 => if (decide (x2 < (a0.length : Int))) = true then ((rd a0 x2).bind fun v4 => (rd a1 x2).bind fun v5 => if (v4 != v5) = true then (some false) else (slices_Equal_byte_byte.l0 k (IntKind.i64.wrap (x2 + 1)) a0 a1)) else (some true)
end
def slices_Equal_byte_byte.f (k : Nat) (a0 : List Int) (a1 : List Int) : Option Bool := if ((a0.length : Int) != (a1.length : Int)) = true then (some false) else (slices_Equal_byte_byte.l0 k 0 a0 a1)
theorem slices_Equal_byte_byte.meets (k : Nat) (a0 : List Int) (a1 : List Int) (r : Bool) (h : slices_Equal_byte_byte.f k a0 a1 = some r) : Meets Try.prog 79 [(ds_ e_u8 a0), (ds_ e_u8 a1)] [] (sb r) [] := by
 unfold slices_Equal_byte_byte.f at h
 refine Meets.of_body (n := 26) Try.func79 rfl rfl (nl rfl) fun x hx => ?_
 replace hx : x.k = 0 := hx
 show AW _ x _ _ ⟨26, fr0 [(ds_ e_u8 a0), (ds_ e_u8 a1)], []⟩
 refine AW.seq (AW.region ?_)
 refine s_assign (d := (sb false)) rfl (AWops.nil (AW.seq (AW.seq (AW.region ?_))))
 refine s_move (d := (ds_ e_u8 a0)) rfl (s_len (n := a0.length) F.u_22 rfl (.inr ⟨(fun _ _ h => by cases h), ⟨_, rfl⟩⟩) (s_move (d := (ds_ e_u8 a1)) rfl (s_len (n := a1.length) F.u_22 rfl (.inr ⟨(fun _ _ h => by cases h), ⟨_, rfl⟩⟩) (s_binI (v := (.bool ((a0.length : Int) != (a1.length : Int)))) rfl rfl rfl (AWops.nil ?_)))))
 rcases itH h with ⟨c1, h⟩ | ⟨c1, h⟩
 ·refine AW.cond_yes rfl c1 (AW.seq (AW.region ?_))
  refine s_assign (d := (sb false)) rfl (AWops.nil (AW.ret ?_))
  obtain rfl := Option.some.inj h
  exact ⟨_, rfl, (wg 0 [] [] rfl (le_upd (le_top _) (o1 .sc)) an)⟩
 ·refine AW.cond_no rfl c1 (AW.skip (AW.seq (AW.seq (AW.region ?_))))
  refine s_move (d := (ds_ e_u8 a0)) rfl (s_len (n := a0.length) F.u_22 rfl (.inr ⟨(fun _ _ h => by cases h), ⟨_, rfl⟩⟩) (s_move (d := (si 0)) rfl (AWops.nil (AW.block ?_))))
  refine AW.loopw (st0 := ⟨26, (upd 26 (upd 26 (upd 26 (upd 26 topF 0 (ds_ e_u8 a0)) 1 (ds_ e_u8 a1)) 12 (si (a0.length : Int))) 13 (si 0)), []⟩) (fun kv st => kv ≤ k ∧ ∃ (x2 : Int), slices_Equal_byte_byte.l0 kv x2 a0 a1 = some r ∧ st = ⟨26, (upd 26 (upd 26 (upd 26 (upd 26 topF 0 (ds_ e_u8 a0)) 1 (ds_ e_u8 a1)) 12 (si (a0.length : Int))) 13 (si x2)), []⟩) (k := k) (wg 0 [] [] hx (le_upd (le_upd (le_upd (le_upd (le_top _) (o1 .same)) (o1 .same)) (o1 .sc)) (o1 .sc)) an) ⟨Nat.le_refl _, 0, h, rfl⟩ ?_
  rintro ql0 st ⟨hkl0, x2, h, rfl⟩
  cases ql0 with
  | zero => exact absurd h (by simp [slices_Equal_byte_byte.l0])
  | succ ql0 =>
   replace h := (slices_Equal_byte_byte.l0.eq_2 _ _ _ _).symm.trans h
   refine AW.seq (AW.region ?_)
   refine s_binI (v := (.bool (decide (x2 < (a0.length : Int))))) rfl rfl rfl (AWops.nil (AW.seq ?_))
   rcases itH h with ⟨c3, h⟩ | ⟨c3, h⟩
   ·refine AW.cond_yes rfl c3 (AW.skip (AW.seq (AW.block (AW.seq (AW.region ?_)))))
    refine s_move (d := (si x2)) rfl (s_assign (d := (si x2)) rfl (AWops.nil (AW.seq ?_)))
    refine AW.weak (st' := ⟨26, (upd 26 (upd 26 (upd 26 (upd 26 (upd 26 topF 0 (ds_ e_u8 a0)) 1 (ds_ e_u8 a1)) 5 (si x2)) 12 (si (a0.length : Int))) 13 (si x2)), []⟩) (wg 0 [] [] hx (le_upd (le_upd (le_upd (le_upd (le_upd (le_top _) (o1 .same)) (o1 .same)) (o1 .sc)) (o1 .sc)) (o1 .sc)) an) ?_
    obtain ⟨v4, ev4, h⟩ := bnd h
    obtain ⟨pv4, qv4, gv4⟩ := rd_some ev4
    obtain ⟨v5, ev5, h⟩ := bnd h
    obtain ⟨pv5, qv5, gv5⟩ := rd_some ev5
    refine AW.draw (n := 26) (L := 0) [(ft 0 16 (ds_ e_u8 a0) [(0, (ds_ e_u8 a0))]), (ft 1 17 (si x2) [(5, (si x2))]), (ft 2 18 (D.one (C.peek false [P.v (.int .u8 v4)])) [(16, (ds_ e_u8 a0)), (17, (si x2))]), (ft 3 19 (sc (.int .u8 v4)) [(18, (D.one (C.peek false [P.v (.int .u8 v4)])))]), (ft 4 20 (ds_ e_u8 a1) [(1, (ds_ e_u8 a1))]), (ft 5 21 (si x2) [(5, (si x2))]), (ft 6 22 (D.one (C.peek false [P.v (.int .u8 v5)])) [(20, (ds_ e_u8 a1)), (21, (si x2))]), (ft 7 23 (sc (.int .u8 v5)) [(22, (D.one (C.peek false [P.v (.int .u8 v5)])))]), (ft 8 24 (sb (v4 != v5)) [(19, (sc (.int .u8 v4))), (23, (sc (.int .u8 v5)))])] [[], [], [0, 1], [0, 1, 2], [], [], [4, 5], [4, 5, 6], (.range 8)] (nl rfl) [0, 0, 1, 2, 0, 0, 1, 2, 3] rfl (TK := []) rfl AllK.nil' (by repeat (first | refine fC ⟨?_, ?_⟩ ?_ | refine sC rfl ?_ | refine hC rfl ?_ | trivial)) ?_ ?_
    ·refine y8 ?_ ?_ ?_ ?_ ?_ ?_ ?_ ?_ (pC ?_ yN)
     ·intro K _ f w u k
      show Wp K ⟨26, (upd 26 f 0 (ds_ e_u8 a0)), _⟩
      refine s_move (d := (ds_ e_u8 a0)) rfl k
     ·intro K _ f w u k
      show Wp K ⟨26, (upd 26 f 5 (si x2)), _⟩
      refine s_move (d := (si x2)) rfl k
     ·intro K _ f w u k
      show Wp K ⟨26, (upd 26 (upd 26 f 17 (si x2)) 16 (ds_ e_u8 a0)), []⟩
      refine s_indexImm (ps := [P.v (.int .u8 v4)]) F.u_22 F.sz_5 rfl rfl pv4 qv4 (flat_at e_u8_len gv4 (e_u8_eq v4)) k
     ·intro K _ f w u k
      show Wp K ⟨26, (upd 26 f 18 (D.one (C.peek false [P.v (.int .u8 v4)]))), []⟩
      refine s_load1 (c' := (C.p true (.v (.int .u8 v4)))) F.ag_5 rfl rfl k
     ·intro K _ f w u k
      show Wp K ⟨26, (upd 26 f 1 (ds_ e_u8 a1)), _⟩
      refine s_move (d := (ds_ e_u8 a1)) rfl k
     ·intro K _ f w u k
      show Wp K ⟨26, (upd 26 f 5 (si x2)), _⟩
      refine s_move (d := (si x2)) rfl k
     ·intro K _ f w u k
      show Wp K ⟨26, (upd 26 (upd 26 f 21 (si x2)) 20 (ds_ e_u8 a1)), []⟩
      refine s_indexImm (ps := [P.v (.int .u8 v5)]) F.u_22 F.sz_5 rfl rfl pv5 qv5 (flat_at e_u8_len gv5 (e_u8_eq v5)) k
     ·intro K _ f w u k
      show Wp K ⟨26, (upd 26 f 22 (D.one (C.peek false [P.v (.int .u8 v5)]))), []⟩
      refine s_load1 (c' := (C.p true (.v (.int .u8 v5)))) F.ag_5 rfl rfl k
     ·intro K _ f w u k
      show Wp K ⟨26, (upd 26 (upd 26 f 23 (sc (.int .u8 v5))) 19 (sc (.int .u8 v4))), _⟩
      refine s_binI (v := (.bool (v4 != v5))) rfl rfl rfl k
    ·refine AWops.weak (st' := ⟨26, (upd 26 (upd 26 (upd 26 (upd 26 (upd 26 topF 0 (ds_ e_u8 a0)) 1 (ds_ e_u8 a1)) 12 (si (a0.length : Int))) 13 (si x2)) 24 (sb (v4 != v5))), []⟩) (wg 0 [] [] hx (le_upd (le_upd (le_upd (le_upd (le_upd (le_top _) (o1 .same)) (o1 .same)) (o1 .sc)) (o1 .sc)) (o1 .sc)) an) (AWops.nil ?_)
     rcases itH h with ⟨c6, h⟩ | ⟨c6, h⟩
     ·refine AW.cond_yes rfl c6 (AW.seq (AW.region ?_))
      refine s_assign (d := (sb false)) rfl (AWops.nil (AW.ret ?_))
      obtain rfl := Option.some.inj h
      exact ⟨_, rfl, (wg 0 [] [] rfl (le_upd (le_top _) (o1 .sc)) an)⟩
     ·refine AW.cond_no rfl c6 (AW.skip (AW.region ?_))
      refine s_binI (v := (.int .i64 (IntKind.i64.wrap (x2 + 1)))) rfl rfl rfl (s_move (d := (si (IntKind.i64.wrap (x2 + 1)))) rfl (AWops.nil ?_))
      exact ⟨_, ⟨26, (upd 26 (upd 26 (upd 26 (upd 26 topF 0 (ds_ e_u8 a0)) 1 (ds_ e_u8 a1)) 12 (si (a0.length : Int))) 13 (si (IntKind.i64.wrap (x2 + 1)))), []⟩, by omega, (wg 0 [] [] hx (le_upd (le_upd (le_upd (le_upd (le_top _) (o1 .same)) (o1 .same)) (o1 .sc)) (o1 .sc)) an), by omega, IntKind.i64.wrap (x2 + 1), h, rfl⟩
   ·refine AW.cond_no rfl c3 (AW.exit (AW.seq (AW.region ?_)))
    refine s_assign (d := (sb true)) rfl (AWops.nil (AW.ret ?_))
    obtain rfl := Option.some.inj h
    exact ⟨_, rfl, (wg 0 [] [] rfl (le_upd (le_top _) (o1 .sc)) an)⟩
mutual
def journal_next.l0 : Nat → Int → Int → (List Int) → Option ((List Int) × Bool)
 | 0, _, _, _ => none
 | k + 1, x3, x4, a0 => if (decide (x4 < ((sub a0 0 4).length : Int))) = true then ((rd (sub a0 0 4) x4).bind fun v6 => journal_next.l0 k (Go.bits .or .i64 (IntKind.i64.wrap (x3 * 2 ^ 8)) (IntKind.i64.wrap v6)) (IntKind.i64.wrap (x4 + 1)) a0) else (if (decide (x3 > (IntKind.i64.wrap ((a0.length : Int) - 8)))) = true then (some (([] : List Int), false)) else (if (decide (0 ≤ 8 ∧ 8 ≤ (IntKind.i64.wrap (8 + x3)) ∧ (IntKind.i64.wrap (8 + x3)) ≤ (a0.length : Int))) = true then ((slices_Clone_byte_byte.f k (sub a0 8 (IntKind.i64.wrap (8 + x3)))).bind fun r9 => (journal_frame.f k (sub a0 8 (IntKind.i64.wrap (8 + x3)))).bind fun r10 => if (decide (0 ≤ 0 ∧ 0 ≤ 8 ∧ 8 ≤ (r10.length : Int))) = true then (if (decide (0 ≤ 0 ∧ 0 ≤ 8 ∧ 8 ≤ (a0.length : Int))) = true then ((slices_Equal_byte_byte.f k (sub r10 0 8) (sub a0 0 8)).bind fun r13 => some (r9, r13)) else none) else none) else none))
end
def journal_next.f (k : Nat) (a0 : List Int) : Option ((List Int) × Bool) := if (decide ((a0.length : Int) < 8)) = true then (some (([] : List Int), false)) else (if (decide (0 ≤ 0 ∧ 0 ≤ 4 ∧ 4 ≤ (a0.length : Int))) = true then (journal_next.l0 k 0 0 a0) else none)
theorem journal_next.meets (k : Nat) (a0 : List Int) (r : (List Int) × Bool) (h : journal_next.f k a0 = some r) : Meets Try.prog 60 [(ds_ e_u8 a0)] [] (D.tup [(ds_ e_u8 r.1), (sb r.2)]) [] := by
 unfold journal_next.f at h
 refine Meets.of_body (n := 41) Try.func60 rfl rfl (nl rfl) fun x hx => ?_
 replace hx : x.k = 0 := hx
 show AW _ x _ _ ⟨41, fr0 [(ds_ e_u8 a0)], []⟩
 refine AW.seq (AW.region ?_)
 refine s_assign (d := (sc (.slice none 0 0))) rfl (s_assign (d := (sb false)) rfl (AWops.nil (AW.seq (AW.seq (AW.region (s_move (d := (ds_ e_u8 a0)) rfl (s_len (n := a0.length) F.u_22 rfl (.inr ⟨(fun _ _ h => by cases h), ⟨_, rfl⟩⟩) (s_binI (v := (.bool (decide ((a0.length : Int) < 8)))) rfl rfl rfl (AWops.nil ?_)))))))))
 rcases itH h with ⟨c1, h⟩ | ⟨c1, h⟩
 ·refine AW.cond_yes rfl c1 (AW.seq (AW.region ?_))
  refine s_assign (d := (sc (.slice none 0 0))) rfl (s_assign (d := (sb false)) rfl (AWops.nil (AW.ret ?_)))
  obtain rfl := Option.some.inj h
  exact ⟨_, rfl, (wg 0 [] [] rfl (le_upd (le_top _) (DLe.tup (ac (TLe.one .nil) (ac (TLe.one .sc) an)))) an)⟩
 ·refine AW.cond_no rfl c1 (AW.skip (AW.seq (AW.region ?_)))
  refine s_assign (d := (si 0)) rfl (AWops.nil (AW.seq (AW.seq (AW.region ?_))))
  refine s_move (d := (ds_ e_u8 a0)) rfl ?_
  obtain ⟨c2, h⟩ := gdH h
  have dc2 := of_decide_eq_true c2
  refine t_sliceImm (a := 0) (b := 4) F.u_22 F.sz_5 e_u8_len rfl (by omega) (by omega) (by omega) .no (.yes rfl (by omega) rfl) (s_len (n := (sub a0 0 4).length) F.u_22 rfl (.inr ⟨(fun _ _ h => by cases h), ⟨_, rfl⟩⟩) (s_move (d := (si 0)) rfl (AWops.nil (AW.block ?_))))
  refine AW.loopw (st0 := ⟨41, (upd 41 (upd 41 (upd 41 (upd 41 (upd 41 topF 0 (ds_ e_u8 a0)) 4 (si 0)) 12 (D.one (C.p false (.sl (sub a0 0 4).length ((sub a0 0 4).flatMap e_u8))))) 13 (si ((sub a0 0 4).length : Int))) 14 (si 0)), []⟩) (fun kv st => kv ≤ k ∧ ∃ (x3 : Int) (x4 : Int), journal_next.l0 kv x3 x4 a0 = some r ∧ st = ⟨41, (upd 41 (upd 41 (upd 41 (upd 41 (upd 41 topF 0 (ds_ e_u8 a0)) 4 (si x3)) 12 (D.one (C.p false (.sl (sub a0 0 4).length ((sub a0 0 4).flatMap e_u8))))) 13 (si ((sub a0 0 4).length : Int))) 14 (si x4)), []⟩) (k := k) (wg 0 [] [] hx (le_upd (le_upd (le_upd (le_upd (le_upd (le_top _) (o1 .same)) (o1 .sc)) (o1 .same)) (o1 .sc)) (o1 .sc)) an) ⟨Nat.le_refl _, 0, 0, h, rfl⟩ ?_
  rintro ql0 st ⟨hkl0, x3, x4, h, rfl⟩
  cases ql0 with
  | zero => exact absurd h (by simp [journal_next.l0])
  | succ ql0 =>
   replace h := (journal_next.l0.eq_2 _ _ _ _).symm.trans h
   refine AW.seq (AW.region ?_)
   refine s_binI (v := (.bool (decide (x4 < ((sub a0 0 4).length : Int))))) rfl rfl rfl (AWops.nil (AW.seq ?_))
   rcases itH h with ⟨c5, h⟩ | ⟨c5, h⟩
   ·refine AW.cond_yes rfl c5 (AW.skip (AW.seq (AW.block (AW.seq (AW.region ?_)))))
    obtain ⟨v6, ev6, h⟩ := bnd h
    obtain ⟨pv6, qv6, gv6⟩ := rd_some ev6
    refine s_indexImm (ps := [P.v (.int .u8 v6)]) F.u_22 F.sz_5 rfl rfl pv6 qv6 (flat_at e_u8_len gv6 (e_u8_eq v6)) (s_load1 (c' := (C.p true (.v (.int .u8 v6)))) F.ag_5 rfl rfl (s_assign (d := (sc (.int .u8 v6))) rfl (AWops.nil (AW.region (s_move (d := (si x3)) rfl (s_shift (v := (.int .i64 (IntKind.i64.wrap (x3 * 2 ^ 8)))) rfl rfl rfl (s_move (d := (sc (.int .u8 v6))) rfl ?_)))))))
    refine s_convI F.u_5 F.u_3 rfl (s_binI (v := (.int .i64 (Go.bits .or .i64 (IntKind.i64.wrap (x3 * 2 ^ 8)) (IntKind.i64.wrap v6)))) rfl rfl rfl (s_assign (d := (si (Go.bits .or .i64 (IntKind.i64.wrap (x3 * 2 ^ 8)) (IntKind.i64.wrap v6)))) rfl (AWops.nil (AW.region (s_binI (v := (.int .i64 (IntKind.i64.wrap (x4 + 1)))) rfl rfl rfl (s_move (d := (si (IntKind.i64.wrap (x4 + 1)))) rfl (AWops.nil ?_)))))))
    exact ⟨_, ⟨41, (upd 41 (upd 41 (upd 41 (upd 41 (upd 41 topF 0 (ds_ e_u8 a0)) 4 (si (Go.bits .or .i64 (IntKind.i64.wrap (x3 * 2 ^ 8)) (IntKind.i64.wrap v6)))) 12 (D.one (C.p false (.sl (sub a0 0 4).length ((sub a0 0 4).flatMap e_u8))))) 13 (si ((sub a0 0 4).length : Int))) 14 (si (IntKind.i64.wrap (x4 + 1)))), []⟩, by omega, (wg 0 [] [] hx (le_upd (le_upd (le_upd (le_upd (le_upd (le_top _) (o1 .same)) (o1 .sc)) (o1 .same)) (o1 .sc)) (o1 .sc)) an), by omega, Go.bits .or .i64 (IntKind.i64.wrap (x3 * 2 ^ 8)) (IntKind.i64.wrap v6), IntKind.i64.wrap (x4 + 1), h, rfl⟩
   ·refine AW.cond_no rfl c5 (AW.exit (AW.seq (AW.seq (AW.region ?_))))
    refine s_move (d := (si x3)) rfl (s_move (d := (ds_ e_u8 a0)) rfl (s_len (n := a0.length) F.u_22 rfl (.inr ⟨(fun _ _ h => by cases h), ⟨_, rfl⟩⟩) (s_binI (v := (.int .i64 (IntKind.i64.wrap ((a0.length : Int) - 8)))) rfl rfl rfl (s_binI (v := (.bool (decide (x3 > (IntKind.i64.wrap ((a0.length : Int) - 8)))))) rfl rfl rfl (AWops.nil ?_)))))
    rcases itH h with ⟨c7, h⟩ | ⟨c7, h⟩
    ·refine AW.cond_yes rfl c7 (AW.seq (AW.region ?_))
     refine s_assign (d := (sc (.slice none 0 0))) rfl (s_assign (d := (sb false)) rfl (AWops.nil (AW.ret ?_)))
     obtain rfl := Option.some.inj h
     exact ⟨_, rfl, (wg 0 [] [] rfl (le_upd (le_top _) (DLe.tup (ac (TLe.one .nil) (ac (TLe.one .sc) an)))) an)⟩
    ·refine AW.cond_no rfl c7 (AW.skip (AW.seq (AW.region ?_)))
     refine s_move (d := (ds_ e_u8 a0)) rfl (s_move (d := (si x3)) rfl (s_binI (v := (.int .i64 (IntKind.i64.wrap (8 + x3)))) rfl rfl rfl ?_))
     obtain ⟨c8, h⟩ := gdH h
     have dc8 := of_decide_eq_true c8
     refine t_sliceImm (a := 8) (b := IntKind.i64.wrap (8 + x3)) F.u_22 F.sz_5 e_u8_len rfl (by omega) (by omega) (by omega) (.yes rfl (by omega) rfl) (.yes rfl (by omega) rfl) (s_assign (d := (D.one (C.p false (.sl (sub a0 8 (IntKind.i64.wrap (8 + x3))).length ((sub a0 8 (IntKind.i64.wrap (8 + x3))).flatMap e_u8))))) rfl (AWops.nil (AW.seq ?_)))
     refine AW.weak (st' := ⟨41, (upd 41 (upd 41 topF 0 (ds_ e_u8 a0)) 7 (D.one (C.p false (.sl (sub a0 8 (IntKind.i64.wrap (8 + x3))).length ((sub a0 8 (IntKind.i64.wrap (8 + x3))).flatMap e_u8))))), []⟩) (wg 0 [] [] hx (le_upd (le_upd (le_top _) (o1 .same)) (o1 .same)) an) ?_
     obtain ⟨r9, er9, h⟩ := bnd h
     obtain ⟨r10, er10, h⟩ := bnd h
     obtain ⟨c11, h⟩ := gdH h
     have dc11 := of_decide_eq_true c11
     obtain ⟨c12, h⟩ := gdH h
     have dc12 := of_decide_eq_true c12
     obtain ⟨r13, er13, h⟩ := bnd h
     refine AW.draw (n := 41) (L := 3) [(ft 0 33 (D.one (C.p false (.sl (sub a0 8 (IntKind.i64.wrap (8 + x3))).length ((sub a0 8 (IntKind.i64.wrap (8 + x3))).flatMap e_u8)))) [(7, (D.one (C.p false (.sl (sub a0 8 (IntKind.i64.wrap (8 + x3))).length ((sub a0 8 (IntKind.i64.wrap (8 + x3))).flatMap e_u8)))))]), (1, ⟨some 34, (D.one (C.own 0 0 r9.length 1)), [(33, (D.one (C.p false (.sl (sub a0 8 (IntKind.i64.wrap (8 + x3))).length ((sub a0 8 (IntKind.i64.wrap (8 + x3))).flatMap e_u8)))))], [], [(0, (ow_ e_u8 r9))], some 0⟩), (ft 2 35 (D.one (C.p false (.sl (sub a0 8 (IntKind.i64.wrap (8 + x3))).length ((sub a0 8 (IntKind.i64.wrap (8 + x3))).flatMap e_u8)))) [(7, (D.one (C.p false (.sl (sub a0 8 (IntKind.i64.wrap (8 + x3))).length ((sub a0 8 (IntKind.i64.wrap (8 + x3))).flatMap e_u8)))))]), (3, ⟨some 36, (ds_ e_u8 r10), [(35, (D.one (C.p false (.sl (sub a0 8 (IntKind.i64.wrap (8 + x3))).length ((sub a0 8 (IntKind.i64.wrap (8 + x3))).flatMap e_u8)))))], [], [], some 1⟩), (ft 4 37 (D.one (C.p false (.sl (sub r10 0 8).length ((sub r10 0 8).flatMap e_u8)))) [(36, (ds_ e_u8 r10))]), (ft 5 38 (ds_ e_u8 a0) [(0, (ds_ e_u8 a0))]), (ft 6 39 (D.one (C.p false (.sl (sub a0 0 8).length ((sub a0 0 8).flatMap e_u8)))) [(38, (ds_ e_u8 a0))]), (ft 7 40 (sb r13) [(37, (D.one (C.p false (.sl (sub r10 0 8).length ((sub r10 0 8).flatMap e_u8))))), (39, (D.one (C.p false (.sl (sub a0 0 8).length ((sub a0 0 8).flatMap e_u8)))))]), (ft 8 2 (D.one (C.own 0 0 r9.length 1)) [(34, (D.one (C.own 0 0 r9.length 1)))]), (ft 9 3 (sb r13) [(40, (sb r13))])] [[], [0], [], [0, 1, 2], [0, 1, 2, 3], [], [5], (.range 7), (.range 8), (.range 9)] (nl rfl) [0, 1, 0, 2, 3, 0, 1, 4, 5, 6] rfl (TK := [(1, 0), (3, 1)]) rfl (AllK.cons' ⟨(tk_upd (tk_upd tk_top rfl) rfl), AllT.nil', (fC (.inr rfl) (fC (.inl rfl) (fC (.inr rfl) (fC (.inl rfl) (fC (.inl rfl) (fC (.inr rfl) (fC (.inr rfl) (fC (.inl rfl) (fC (.inl rfl) (fC (.inl rfl) AllF.nil'))))))))))⟩ (AllK.cons' ⟨(tk_upd (tk_upd tk_top rfl) rfl), AllT.nil', (by repeat (first | refine fC (.inl rfl) ?_ | refine fC (.inr rfl) ?_ | refine fC (.inr (by unfold tkFoot; simp only [List.all_cons, List.all_nil, tkO_row, Bool.and_true, Bool.true_and]; rfl)) ?_ | trivial))⟩ AllK.nil')) (by repeat (first | refine fC ⟨?_, ?_⟩ ?_ | refine sC rfl ?_ | refine hC rfl ?_ | trivial)) ?_ ?_
     ·refine y8 ?_ ?_ ?_ ?_ ?_ ?_ ?_ ?_ (y2 ?_ ?_ yN)
      ·intro K _ f w u k
       show Wp K ⟨41, (upd 41 f 7 (D.one (C.p false (.sl (sub a0 8 (IntKind.i64.wrap (8 + x3))).length ((sub a0 8 (IntKind.i64.wrap (8 + x3))).flatMap e_u8))))), _⟩
       refine s_move (d := (D.one (C.p false (.sl (sub a0 8 (IntKind.i64.wrap (8 + x3))).length ((sub a0 8 (IntKind.i64.wrap (8 + x3))).flatMap e_u8))))) rfl k
      ·intro K _ f w u k
       show Wp K ⟨41, (upd 41 f 33 (D.one (C.p false (.sl (sub a0 8 (IntKind.i64.wrap (8 + x3))).length ((sub a0 8 (IntKind.i64.wrap (8 + x3))).flatMap e_u8))))), [_, _, _]⟩
       refine cc [] [(w 0), (w 1), (w 2), (ow_ e_u8 r9)] (D.one (C.own 3 0 r9.length 1)) F.ca_28 rfl rfl (ac (.one .imm) an) an (slices_Clone_byte_byte.meets _ (sub a0 8 (IntKind.i64.wrap (8 + x3))) r9 er9) ?_
       refine AWops.weak (st' := ⟨41, (upd 41 (upd 41 f 33 (D.one (C.p false (.sl (sub a0 8 (IntKind.i64.wrap (8 + x3))).length ((sub a0 8 (IntKind.i64.wrap (8 + x3))).flatMap e_u8))))) 34 (D.one (C.own 0 0 r9.length 1))), [(ow_ e_u8 r9), (w 1), (w 2)]⟩) (wg 0 [3, 1, 2] [] hx (le_upd2 (le_ok (p := 0) (L := 3) rfl (u 0 rfl).1) (o1 (.own rfl))) (ac (.cells (fun _ => rfl) (all2_row _)) (ac (oq 0 3 (u 0 rfl) 1) (ac (oq 0 3 (u 0 rfl) 2) an)))) k
      ·intro K _ f w u k
       show Wp K ⟨41, (upd 41 f 7 (D.one (C.p false (.sl (sub a0 8 (IntKind.i64.wrap (8 + x3))).length ((sub a0 8 (IntKind.i64.wrap (8 + x3))).flatMap e_u8))))), _⟩
       refine s_move (d := (D.one (C.p false (.sl (sub a0 8 (IntKind.i64.wrap (8 + x3))).length ((sub a0 8 (IntKind.i64.wrap (8 + x3))).flatMap e_u8))))) rfl k
      ·intro K _ f w u k
       show Wp K ⟨41, (upd 41 f 35 (D.one (C.p false (.sl (sub a0 8 (IntKind.i64.wrap (8 + x3))).length ((sub a0 8 (IntKind.i64.wrap (8 + x3))).flatMap e_u8))))), [_, _, _]⟩
       refine cc [] [(w 0), (w 1), (w 2), (ow_ e_u8 r10)] (D.one (C.own 3 0 r10.length 1)) F.ca_26 rfl rfl (ac (.one .imm) an) an (journal_frame.meets _ (sub a0 8 (IntKind.i64.wrap (8 + x3))) r10 er10) ?_
       refine AWops.weak (st' := ⟨41, (upd 41 (upd 41 f 35 (D.one (C.p false (.sl (sub a0 8 (IntKind.i64.wrap (8 + x3))).length ((sub a0 8 (IntKind.i64.wrap (8 + x3))).flatMap e_u8))))) 36 (ds_ e_u8 r10)), [(w 0), (w 1), (w 2)]⟩) (wg 0 [0, 1, 2] [3] hx (le_upd2 (le_ok (p := 1) (L := 3) rfl (u 1 rfl).1) (o1 (CLe.frz e_u8_len rfl rfl rfl))) (ac (oq 1 3 (u 1 rfl) 0) (ac (oq 1 3 (u 1 rfl) 1) (ac (oq 1 3 (u 1 rfl) 2) an)))) k
      ·intro K _ f w u k
       show Wp K ⟨41, (upd 41 f 36 (ds_ e_u8 r10)), [_, _, _]⟩
       refine t_sliceImm (a := 0) (b := 8) F.u_22 F.sz_5 e_u8_len rfl (by omega) (by omega) (by omega) .no (.yes rfl (by omega) rfl) k
      ·intro K _ f w u k
       show Wp K ⟨41, (upd 41 f 0 (ds_ e_u8 a0)), _⟩
       refine s_move (d := (ds_ e_u8 a0)) rfl k
      ·intro K _ f w u k
       show Wp K ⟨41, (upd 41 f 38 (ds_ e_u8 a0)), [_, _, _]⟩
       refine t_sliceImm (a := 0) (b := 8) F.u_22 F.sz_5 e_u8_len rfl (by omega) (by omega) (by omega) .no (.yes rfl (by omega) rfl) k
      ·intro K _ f w u k
       show Wp K ⟨41, (upd 41 (upd 41 f 39 (D.one (C.p false (.sl (sub a0 0 8).length ((sub a0 0 8).flatMap e_u8))))) 37 (D.one (C.p false (.sl (sub r10 0 8).length ((sub r10 0 8).flatMap e_u8))))), [_, _, _]⟩
       refine cc [] [(w 0), (w 1), (w 2)] (sb r13) F.ca_79 rfl rfl (ac (.one .imm) (ac (.one .imm) an)) an (slices_Equal_byte_byte.meets _ (sub r10 0 8) (sub a0 0 8) r13 er13) k
      ·intro K _ f w u k
       show Wp K ⟨41, (upd 41 f 34 (D.one (C.own 0 0 r9.length 1))), _⟩
       refine s_assign (d := (D.one (C.own 0 0 r9.length 1))) rfl k
      ·intro K _ f w u k
       show Wp K ⟨41, (upd 41 f 40 (sb r13)), _⟩
       refine s_assign (d := (sb r13)) rfl k
     ·refine AWops.weak (st' := ⟨41, (upd 41 (upd 41 topF 2 (D.one (C.own 0 0 r9.length 1))) 3 (sb r13)), [(ow_ e_u8 r9)]⟩) (wg 0 [0] [] hx (le_upd (le_upd (le_top _) (o1 (.own rfl))) (o1 .sc)) (ac (.cells (fun _ => rfl) (all2_row _)) an)) (AWops.nil (AW.ret ?_))
      obtain rfl := Option.some.inj h
      exact ⟨_, rfl, (wg 0 [] [0] rfl (le_upd (le_top _) (DLe.tup (ac (TLe.one (CLe.frz e_u8_len rfl rfl rfl)) (ac (TLe.one .sc) an)))) an)⟩
end Go.Abs.GenK
