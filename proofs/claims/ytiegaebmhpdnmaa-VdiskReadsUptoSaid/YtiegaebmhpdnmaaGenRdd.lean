import Derived.Test.YtiegaebmhpdnmaaGenRdc
set_option linter.unusedVariables false
set_option linter.unusedSimpArgs false
set_option maxRecDepth 100000
set_option maxHeartbeats 4000000
namespace Go.Abs.GenRd
open Go.Abs Go.Proofs
def vdisk_Disk_change_31.f (k : Nat) (p0 : vdisk_Disk) (a1 : Bool) (a2 : ByteArray) (a3 : Bool) (a4 : Int) (p2 : Int) : Option (Int × vdisk_Disk × Int) := (vdisk_Disk_none_35.f k p0 p2).bind fun r1 => if a1 = true then (if p0.dead = true then (some (70, p0, p2)) else (if ((mget a2 p0.files).isSome) = true then (if (decide (a4 > 0)) = true then (if (decide (a4 > (IntKind.i64.wrap (p0.room - p0.used)))) = true then (some (71, p0, p2)) else (if (p2 == 0) = true then (some (70, (⟨p0.files, p0.room, p0.used, (), true⟩ : vdisk_Disk), p2)) else (some (0, p0, IntKind.i64.wrap (p2 - 1))))) else (if (p2 == 0) = true then (some (70, (⟨p0.files, p0.room, p0.used, (), true⟩ : vdisk_Disk), p2)) else (some (0, p0, IntKind.i64.wrap (p2 - 1))))) else (if a3 = true then (if (decide (a4 > 0)) = true then (if (decide (a4 > (IntKind.i64.wrap (p0.room - p0.used)))) = true then (some (71, p0, p2)) else (if (p2 == 0) = true then (some (70, (⟨p0.files, p0.room, p0.used, (), true⟩ : vdisk_Disk), p2)) else (some (0, p0, IntKind.i64.wrap (p2 - 1))))) else (if (p2 == 0) = true then (some (70, (⟨p0.files, p0.room, p0.used, (), true⟩ : vdisk_Disk), p2)) else (some (0, p0, IntKind.i64.wrap (p2 - 1))))) else (some (33, p0, p2))))) else (some (1, p0, p2))
theorem vdisk_Disk_change_31.meets (k : Nat) (p0 : vdisk_Disk) (a1 : Bool) (a2 : ByteArray) (a3 : Bool) (a4 : Int) (p2 : Int) (r : Int × vdisk_Disk × Int) (h : vdisk_Disk_change_31.f k p0 a1 a2 a3 a4 p2 = some r) : Meets Try.prog 31 [(rf 0 0), (sb a1), (st_ a2), (sb a3), (si a4)] [(o_vdisk_Disk_03 false (C.mp 1) (C.ref 2 0) p0), (om_ e_vdisk_file p0.files), (bx p2)] (si r.1) [(o_vdisk_Disk_03 false (C.mp 1) (C.ref 2 0) r.2.1), (om_ e_vdisk_file r.2.1.files), (bx r.2.2)] := by
 unfold vdisk_Disk_change_31.f at h
 refine Meets.of_body (n := 77) Try.func31 rfl rfl (nl rfl) fun x hx => ?_
 replace hx : x.k = 3 := hx
 show AW _ x _ _ ⟨77, fr0 [(rf 0 0), (sb a1), (st_ a2), (sb a3), (si a4)], [(o_vdisk_Disk_03 false (C.mp 1) (C.ref 2 0) p0), (om_ e_vdisk_file p0.files), (bx p2)]⟩
 refine AW.seq (AW.region ?_)
 refine s_assign (d := (si 0)) rfl (AWops.nil (AW.seq (AW.block (AW.seq (AW.region ?_)))))
 refine s_move (d := (rf 0 0)) rfl ?_
 obtain ⟨r1, er1, h⟩ := bnd h
 have kr1 := vdisk_Disk_none_35.const er1
 subst kr1
 refine cc [0, 1, 2] [(o_vdisk_Disk_03 false (C.mp 1) (C.ref 2 0) p0), (om_ e_vdisk_file p0.files), (bx p2)] (sb false) F.ca_35 rfl rfl (ac (.one (.ref rfl)) an) (ac (.cells (ac (.mp rfl) (ac .sc (ac .sc (ac (.ref rfl) (ac .sc an)))))) (ac .map (ac (.cells (ac .sc an)) an))) (vdisk_Disk_none_35.meets _ p0 p2 false er1) (s_assign (d := (sb false)) rfl (AWops.nil ?_))
 refine AW.cond_no rfl rfl (AW.seq (AW.region ?_))
 refine s_move (d := (sb a1)) rfl (s_not rfl (s_assign (d := (sb (!a1))) rfl (AWops.nil ?_)))
 rcases itH h with ⟨c2, h⟩ | ⟨c2, h⟩
 ·refine AW.cond_no rfl (by rw [c2] <;> rfl) (AW.seq (AW.region ?_))
  refine s_move (d := (rf 0 0)) rfl (s_nilCheck (d := (rf 0 0)) rfl (.inl ⟨_, _, rfl⟩) (s_fieldRef F.fo_50_4 (by decide) rfl (s_load1 (c' := (cb p0.dead)) F.ag_4 rfl rfl (s_assign (d := (sb p0.dead)) rfl (AWops.nil ?_)))))
  rcases itH h with ⟨c3, h⟩ | ⟨c3, h⟩
  ·refine AW.cond_yes rfl c3 (AW.seq (AW.region ?_))
   refine s_assign (d := (si 70)) rfl (AWops.nil (AW.ret ?_))
   obtain rfl := Option.some.inj h
   exact ⟨_, rfl, (wg 3 [0, 1, 2] [] rfl (le_upd (le_top _) (o1 .sc)) (ac (qr rfl rfl) (ac .map (ac qb an))))⟩
  ·refine AW.cond_no rfl c3 (AW.skip (AW.seq (AW.seq (AW.region ?_))))
   refine s_move (d := (rf 0 0)) rfl (s_nilCheck (d := (rf 0 0)) rfl (.inl ⟨_, _, rfl⟩) (s_fieldRef F.fo_50_0 (by decide) rfl (s_load1 (c' := (C.mp 1)) F.ag_47 rfl rfl (s_move (d := (st_ a2)) rfl (t_lookupOk (b := true) F.u_47 F.u_9 F.z_65 (z := ((⟨([] : List Int), 0⟩ : vdisk_file) : vdisk_file)) (zs := [(.slice none 0 0), (.int .i64 0)]) rfl (fun h => by cases h) (ac ZRel.n (ac (ZRel.v _ rfl) an)) rfl rfl rfl rfl ?_)))))
   refine s_move (d := (D.tup [(D.agg (c_vdisk_file (lk_vdisk_file a2 p0.files))), (sb ((mget a2 p0.files).isSome))])) rfl (s_extract (d := (D.agg (c_vdisk_file (lk_vdisk_file a2 p0.files)))) rfl rfl (s_extract (d := (sb ((mget a2 p0.files).isSome))) rfl rfl (s_alloc (cs := [(C.p true (.v (.slice none 0 0))), (ci 0)]) F.z_65 rfl rfl (s_store (cs' := (c_vdisk_file (lk_vdisk_file a2 p0.files))) rfl rfl rfl (List.cons_ne_nil _ _) rfl F.sz_65 (nl rfl) rfl (s_assign (d := (sb ((mget a2 p0.files).isSome))) rfl (AWops.nil (AW.seq (AW.region ?_))))))))
   refine s_move (d := (sb ((mget a2 p0.files).isSome))) rfl (s_not rfl (s_move (d := (sb (!((mget a2 p0.files).isSome)))) rfl ?_))
   rcases itH h with ⟨c4, h⟩ | ⟨c4, h⟩
   ·refine AWops.guard_no rfl (nl rfl) rfl (by rw [c4] <;> rfl) ?_
    refine AWops.guard_no rfl (nl rfl) rfl (by rw [c4] <;> rfl) ?_
    refine s_pick_no (d := (sb false)) rfl (by rw [c4] <;> rfl) rfl (AWops.nil ?_)
    refine AW.cond_no rfl rfl (AW.skip (AW.seq (AW.seq ?_)))
    refine AW.weak (st' := ⟨77, (upd 77 (upd 77 topF 0 (rf 0 0)) 4 (si a4)), [(o_vdisk_Disk_03 false (C.mp 1) (C.ref 2 0) p0), (om_ e_vdisk_file p0.files), (bx p2)]⟩) (wg 3 [0, 1, 2] [] hx (le_upd (le_upd (le_top _) (o1 (.ref rfl))) (o1 .sc)) (ac (qr rfl rfl) (ac .map (ac qb an)))) ?_
    rcases itH h with ⟨c5, h⟩ | ⟨c5, h⟩
    ·refine AW.draw (n := 77) (L := 3) [(ft 0 39 (si a4) [(4, (si a4))]), (ft 1 40 (sb (decide (a4 > 0))) [(39, (si a4))]), (ft 2 41 (sb (decide (a4 > 0))) [(40, (sb (decide (a4 > 0))))]), (ft 3 42 (si a4) [(4, (si a4)), (41, (sb (decide (a4 > 0))))]), (ft 4 43 (rf 0 0) [(0, (rf 0 0)), (41, (sb (decide (a4 > 0))))]), (ft 5 44 (rf 0 0) [(41, (sb (decide (a4 > 0)))), (43, (rf 0 0))]), (ft 6 45 (rf 0 1) [(41, (sb (decide (a4 > 0)))), (44, (rf 0 0))]), (7, ⟨some 46, (si p0.room), [(41, (sb (decide (a4 > 0)))), (45, (rf 0 1))], [(0, (o_vdisk_Disk_03 false (C.mp 1) (C.ref 2 0) p0))], [], none⟩), (ft 8 47 (rf 0 0) [(0, (rf 0 0)), (41, (sb (decide (a4 > 0))))]), (ft 9 48 (rf 0 0) [(41, (sb (decide (a4 > 0)))), (47, (rf 0 0))]), (ft 10 49 (rf 0 2) [(41, (sb (decide (a4 > 0)))), (48, (rf 0 0))]), (11, ⟨some 50, (si p0.used), [(41, (sb (decide (a4 > 0)))), (49, (rf 0 2))], [(0, (o_vdisk_Disk_03 false (C.mp 1) (C.ref 2 0) p0))], [], none⟩), (ft 12 51 (si (IntKind.i64.wrap (p0.room - p0.used))) [(41, (sb (decide (a4 > 0)))), (46, (si p0.room)), (50, (si p0.used))]), (ft 13 52 (sb (decide (a4 > (IntKind.i64.wrap (p0.room - p0.used))))) [(41, (sb (decide (a4 > 0)))), (42, (si a4)), (51, (si (IntKind.i64.wrap (p0.room - p0.used))))]), (ft 14 53 (sb (decide (a4 > (IntKind.i64.wrap (p0.room - p0.used))))) [(41, (sb (decide (a4 > 0)))), (52, (sb (decide (a4 > (IntKind.i64.wrap (p0.room - p0.used))))))])] [[], [0], [0, 1], [0, 1, 2], [0, 1, 2], [0, 1, 2, 4], [0, 1, 2, 4, 5], [0, 1, 2, 4, 5, 6], [0, 1, 2], [0, 1, 2, 8], [0, 1, 2, 8, 9], [0, 1, 2, 8, 9, 10], [0, 1, 2, 4, 5, 6, 7, 8, 9, 10, 11], (.range 13), (.range 14)] (nl rfl) [0, 1, 2, 3, 3, 4, 5, 6, 3, 4, 5, 6, 7, 8, 9] rfl (TK := []) rfl AllK.nil' (by repeat (first | refine fC ⟨?_, ?_⟩ ?_ | refine sC rfl ?_ | refine hC rfl ?_ | trivial)) ?_ ?_
     ·refine y8 ?_ ?_ ?_ ?_ ?_ ?_ ?_ ?_ (y4 ?_ ?_ ?_ ?_ (y2 ?_ ?_ (pC ?_ yN)))
      ·intro K _ f w u k
       show Wp K ⟨77, (upd 77 f 4 (si a4)), _⟩
       refine s_move (d := (si a4)) rfl k
      ·intro K _ f w u k
       show Wp K ⟨77, (upd 77 f 39 (si a4)), _⟩
       refine s_binI (v := (.bool (decide (a4 > 0)))) rfl rfl rfl k
      ·intro K _ f w u k
       show Wp K ⟨77, (upd 77 f 40 (sb (decide (a4 > 0)))), _⟩
       refine s_move (d := (sb (decide (a4 > 0)))) rfl k
      ·intro K _ f w u k
       show Wp K ⟨77, (upd 77 (upd 77 f 41 (sb (decide (a4 > 0)))) 4 (si a4)), _⟩
       refine AWops.guard_yes rfl (nl rfl) rfl c5 ?_
       refine s_move (d := (si a4)) rfl k
      ·intro K _ f w u k
       show Wp K ⟨77, (upd 77 (upd 77 f 41 (sb (decide (a4 > 0)))) 0 (rf 0 0)), _⟩
       refine AWops.guard_yes rfl (nl rfl) rfl c5 ?_
       refine s_move (d := (rf 0 0)) rfl k
      ·intro K _ f w u k
       show Wp K ⟨77, (upd 77 (upd 77 f 43 (rf 0 0)) 41 (sb (decide (a4 > 0)))), [_, _, _]⟩
       refine AWops.guard_yes rfl (nl rfl) rfl c5 ?_
       refine s_nilCheck (d := (rf 0 0)) rfl (.inl ⟨_, _, rfl⟩) k
      ·intro K _ f w u k
       show Wp K ⟨77, (upd 77 (upd 77 f 44 (rf 0 0)) 41 (sb (decide (a4 > 0)))), [_, _, _]⟩
       refine AWops.guard_yes rfl (nl rfl) rfl c5 ?_
       refine s_fieldRef F.fo_50_1 (by decide) rfl k
      ·intro K _ f w u k
       show Wp K ⟨77, (upd 77 (upd 77 f 45 (rf 0 1)) 41 (sb (decide (a4 > 0)))), [(o_vdisk_Disk_03 false (C.mp 1) (C.ref 2 0) p0), _, _]⟩
       refine AWops.guard_yes rfl (nl rfl) rfl c5 ?_
       refine s_load1 (c' := (ci p0.room)) F.ag_3 rfl rfl k
      ·intro K _ f w u k
       show Wp K ⟨77, (upd 77 (upd 77 f 41 (sb (decide (a4 > 0)))) 0 (rf 0 0)), _⟩
       refine AWops.guard_yes rfl (nl rfl) rfl c5 ?_
       refine s_move (d := (rf 0 0)) rfl k
      ·intro K _ f w u k
       show Wp K ⟨77, (upd 77 (upd 77 f 47 (rf 0 0)) 41 (sb (decide (a4 > 0)))), [_, _, _]⟩
       refine AWops.guard_yes rfl (nl rfl) rfl c5 ?_
       refine s_nilCheck (d := (rf 0 0)) rfl (.inl ⟨_, _, rfl⟩) k
      ·intro K _ f w u k
       show Wp K ⟨77, (upd 77 (upd 77 f 48 (rf 0 0)) 41 (sb (decide (a4 > 0)))), [_, _, _]⟩
       refine AWops.guard_yes rfl (nl rfl) rfl c5 ?_
       refine s_fieldRef F.fo_50_2 (by decide) rfl k
      ·intro K _ f w u k
       show Wp K ⟨77, (upd 77 (upd 77 f 49 (rf 0 2)) 41 (sb (decide (a4 > 0)))), [(o_vdisk_Disk_03 false (C.mp 1) (C.ref 2 0) p0), _, _]⟩
       refine AWops.guard_yes rfl (nl rfl) rfl c5 ?_
       refine s_load1 (c' := (ci p0.used)) F.ag_3 rfl rfl k
      ·intro K _ f w u k
       show Wp K ⟨77, (upd 77 (upd 77 (upd 77 f 50 (si p0.used)) 46 (si p0.room)) 41 (sb (decide (a4 > 0)))), _⟩
       refine AWops.guard_yes rfl (nl rfl) rfl c5 ?_
       refine s_binI (v := (.int .i64 (IntKind.i64.wrap (p0.room - p0.used)))) rfl rfl rfl k
      ·intro K _ f w u k
       show Wp K ⟨77, (upd 77 (upd 77 (upd 77 f 51 (si (IntKind.i64.wrap (p0.room - p0.used)))) 42 (si a4)) 41 (sb (decide (a4 > 0)))), _⟩
       refine AWops.guard_yes rfl (nl rfl) rfl c5 ?_
       refine s_binI (v := (.bool (decide (a4 > (IntKind.i64.wrap (p0.room - p0.used)))))) rfl rfl rfl k
      ·intro K _ f w u k
       show Wp K ⟨77, (upd 77 (upd 77 f 52 (sb (decide (a4 > (IntKind.i64.wrap (p0.room - p0.used)))))) 41 (sb (decide (a4 > 0)))), _⟩
       refine s_pick_yes (d := (sb (decide (a4 > (IntKind.i64.wrap (p0.room - p0.used)))))) rfl c5 rfl k
     ·refine AWops.weak (st' := ⟨77, (upd 77 (upd 77 topF 0 (rf 0 0)) 53 (sb (decide (a4 > (IntKind.i64.wrap (p0.room - p0.used)))))), [(o_vdisk_Disk_03 false (C.mp 1) (C.ref 2 0) p0), (om_ e_vdisk_file p0.files), (bx p2)]⟩) (wg 3 [0, 1, 2] [] hx (le_upd (le_upd (le_top _) (o1 (.ref rfl))) (o1 .sc)) (ac (qr rfl rfl) (ac .map (ac qb an)))) (AWops.nil ?_)
      rcases itH h with ⟨c6, h⟩ | ⟨c6, h⟩
      ·refine AW.cond_yes rfl c6 (AW.seq (AW.region ?_))
       refine s_assign (d := (si 71)) rfl (AWops.nil (AW.ret ?_))
       obtain rfl := Option.some.inj h
       exact ⟨_, rfl, (wg 3 [0, 1, 2] [] rfl (le_upd (le_top _) (o1 .sc)) (ac (qr rfl rfl) (ac .map (ac qb an))))⟩
      ·refine AW.cond_no rfl c6 (AW.skip (AW.seq (AW.seq (AW.region ?_))))
       refine s_move (d := (rf 0 0)) rfl (s_nilCheck (d := (rf 0 0)) rfl (.inl ⟨_, _, rfl⟩) (s_fieldRef F.fo_50_3 (by decide) rfl (s_load1 (c' := (C.ref 2 0)) F.ag_48 rfl rfl (s_ptrNil (b := false) F.u_48 rfl (.inl ⟨⟨_, _, rfl⟩, rfl⟩) (.inr rfl) (AWops.nil ?_)))))
       refine AW.cond_yes rfl rfl (AW.seq (AW.seq (AW.region ?_)))
       refine s_move (d := (rf 0 0)) rfl (s_nilCheck (d := (rf 0 0)) rfl (.inl ⟨_, _, rfl⟩) (s_fieldRef F.fo_50_3 (by decide) rfl (s_load1 (c' := (C.ref 2 0)) F.ag_48 rfl rfl (s_nilCheck (d := (rf 2 0)) rfl (.inl ⟨_, _, rfl⟩) (s_load1 (c' := (ci p2)) F.ag_3 rfl rfl ?_)))))
       refine s_binI (v := (.bool (p2 == 0))) rfl rfl rfl (AWops.nil ?_)
       rcases itH h with ⟨c7, h⟩ | ⟨c7, h⟩
       ·refine AW.cond_yes rfl c7 (AW.seq (AW.region ?_))
        refine s_move (d := (rf 0 0)) rfl (s_nilCheck (d := (rf 0 0)) rfl (.inl ⟨_, _, rfl⟩) (s_fieldRef F.fo_50_4 (by decide) rfl (s_store (cs' := [(C.mp 1), (ci p0.room), (ci p0.used), (C.ref 2 0), (cb true)]) rfl rfl rfl (List.cons_ne_nil _ _) rfl F.sz_4 (nl rfl) rfl (AWops.nil (AW.seq (AW.region (s_assign (d := (si 70)) rfl (AWops.nil (AW.ret ?_)))))))))
        obtain rfl := Option.some.inj h
        exact ⟨_, rfl, (wg 3 [0, 1, 2] [] rfl (le_upd (le_top _) (o1 .sc)) (ac (qr rfl rfl) (ac .map (ac qb an))))⟩
       ·refine AW.cond_no rfl c7 (AW.skip (AW.region ?_))
        refine s_move (d := (rf 0 0)) rfl (s_nilCheck (d := (rf 0 0)) rfl (.inl ⟨_, _, rfl⟩) (s_fieldRef F.fo_50_3 (by decide) rfl (s_load1 (c' := (C.ref 2 0)) F.ag_48 rfl rfl (s_nilCheck (d := (rf 2 0)) rfl (.inl ⟨_, _, rfl⟩) (s_load1 (c' := (ci p2)) F.ag_3 rfl rfl ?_)))))
        refine s_binI (v := (.int .i64 (IntKind.i64.wrap (p2 - 1)))) rfl rfl rfl (s_nilCheck (d := (rf 2 0)) rfl (.inl ⟨_, _, rfl⟩) (s_store (cs' := [(ci (IntKind.i64.wrap (p2 - 1)))]) rfl rfl rfl (List.cons_ne_nil _ _) rfl F.sz_3 (nl rfl) rfl (AWops.nil (AW.seq (AW.region (s_assign (d := (si 0)) rfl (AWops.nil (AW.ret ?_))))))))
        obtain rfl := Option.some.inj h
        exact ⟨_, rfl, (wg 3 [0, 1, 2] [] rfl (le_upd (le_top _) (o1 .sc)) (ac (qr rfl rfl) (ac .map (ac qb an))))⟩
    ·refine AW.draw (n := 77) (L := 3) [(ft 0 39 (si a4) [(4, (si a4))]), (ft 1 40 (sb (decide (a4 > 0))) [(39, (si a4))]), (ft 2 41 (sb (decide (a4 > 0))) [(40, (sb (decide (a4 > 0))))]), (ft 3 42 (D.tup []) [(4, (si a4)), (41, (sb (decide (a4 > 0))))]), (ft 4 43 (D.tup []) [(41, (sb (decide (a4 > 0))))]), (ft 5 44 (D.tup []) [(41, (sb (decide (a4 > 0))))]), (ft 6 45 (D.tup []) [(41, (sb (decide (a4 > 0))))]), (ft 7 46 (D.tup []) [(41, (sb (decide (a4 > 0))))]), (ft 8 47 (D.tup []) [(41, (sb (decide (a4 > 0))))]), (ft 9 48 (D.tup []) [(41, (sb (decide (a4 > 0))))]), (ft 10 49 (D.tup []) [(41, (sb (decide (a4 > 0))))]), (ft 11 50 (D.tup []) [(41, (sb (decide (a4 > 0))))]), (ft 12 51 (D.tup []) [(41, (sb (decide (a4 > 0))))]), (ft 13 52 (D.tup []) [(41, (sb (decide (a4 > 0))))]), (ft 14 53 (sb false) [(41, (sb (decide (a4 > 0))))])] [[], [0], [0, 1], [0, 1, 2], [0, 1, 2], [0, 1, 2, 4], [0, 1, 2, 4, 5], [0, 1, 2, 4, 5, 6], [0, 1, 2], [0, 1, 2, 8], [0, 1, 2, 8, 9], [0, 1, 2, 8, 9, 10], [0, 1, 2, 4, 5, 6, 7, 8, 9, 10, 11], (.range 13), (.range 14)] (nl rfl) [0, 1, 2, 3, 3, 4, 5, 6, 3, 4, 5, 6, 7, 8, 9] rfl (TK := []) rfl AllK.nil' (by repeat (first | refine fC ⟨?_, ?_⟩ ?_ | refine sC rfl ?_ | refine hC rfl ?_ | trivial)) ?_ ?_
     ·refine y8 ?_ ?_ ?_ ?_ ?_ ?_ ?_ ?_ (y4 ?_ ?_ ?_ ?_ (y2 ?_ ?_ (pC ?_ yN)))
      ·intro K _ f w u k
       show Wp K ⟨77, (upd 77 f 4 (si a4)), _⟩
       refine s_move (d := (si a4)) rfl k
      ·intro K _ f w u k
       show Wp K ⟨77, (upd 77 f 39 (si a4)), _⟩
       refine s_binI (v := (.bool (decide (a4 > 0)))) rfl rfl rfl k
      ·intro K _ f w u k
       show Wp K ⟨77, (upd 77 f 40 (sb (decide (a4 > 0)))), _⟩
       refine s_move (d := (sb (decide (a4 > 0)))) rfl k
      ·intro K _ f w u k
       show Wp K ⟨77, (upd 77 (upd 77 f 41 (sb (decide (a4 > 0)))) 4 (si a4)), _⟩
       refine AWops.guard_no rfl (nl rfl) rfl c5 k
      ·intro K _ f w u k
       show Wp K ⟨77, (upd 77 f 41 (sb (decide (a4 > 0)))), _⟩
       refine AWops.guard_no rfl (nl rfl) rfl c5 k
      ·intro K _ f w u k
       show Wp K ⟨77, (upd 77 f 41 (sb (decide (a4 > 0)))), _⟩
       refine AWops.guard_no rfl (nl rfl) rfl c5 k
      ·intro K _ f w u k
       show Wp K ⟨77, (upd 77 f 41 (sb (decide (a4 > 0)))), _⟩
       refine AWops.guard_no rfl (nl rfl) rfl c5 k
      ·intro K _ f w u k
       show Wp K ⟨77, (upd 77 f 41 (sb (decide (a4 > 0)))), _⟩
       refine AWops.guard_no rfl (nl rfl) rfl c5 k
      ·intro K _ f w u k
       show Wp K ⟨77, (upd 77 f 41 (sb (decide (a4 > 0)))), _⟩
       refine AWops.guard_no rfl (nl rfl) rfl c5 k
      ·intro K _ f w u k
       show Wp K ⟨77, (upd 77 f 41 (sb (decide (a4 > 0)))), _⟩
       refine AWops.guard_no rfl (nl rfl) rfl c5 k
      ·intro K _ f w u k
       show Wp K ⟨77, (upd 77 f 41 (sb (decide (a4 > 0)))), _⟩
       refine AWops.guard_no rfl (nl rfl) rfl c5 k
      ·intro K _ f w u k
       show Wp K ⟨77, (upd 77 f 41 (sb (decide (a4 > 0)))), _⟩
       refine AWops.guard_no rfl (nl rfl) rfl c5 k
      ·intro K _ f w u k
       show Wp K ⟨77, (upd 77 f 41 (sb (decide (a4 > 0)))), _⟩
       refine AWops.guard_no rfl (nl rfl) rfl c5 k
      ·intro K _ f w u k
       show Wp K ⟨77, (upd 77 f 41 (sb (decide (a4 > 0)))), _⟩
       refine AWops.guard_no rfl (nl rfl) rfl c5 k
      ·intro K _ f w u k
       show Wp K ⟨77, (upd 77 f 41 (sb (decide (a4 > 0)))), _⟩
       refine s_pick_no (d := (sb false)) rfl c5 rfl k
     ·refine AWops.weak (st' := ⟨77, (upd 77 (upd 77 topF 0 (rf 0 0)) 53 (sb false)), [(o_vdisk_Disk_03 false (C.mp 1) (C.ref 2 0) p0), (om_ e_vdisk_file p0.files), (bx p2)]⟩) (wg 3 [0, 1, 2] [] hx (le_upd (le_upd (le_top _) (o1 (.ref rfl))) (o1 .sc)) (ac (qr rfl rfl) (ac .map (ac qb an)))) (AWops.nil ?_)
      refine AW.cond_no rfl rfl (AW.skip (AW.seq (AW.seq (AW.region ?_))))
      refine s_move (d := (rf 0 0)) rfl (s_nilCheck (d := (rf 0 0)) rfl (.inl ⟨_, _, rfl⟩) (s_fieldRef F.fo_50_3 (by decide) rfl (s_load1 (c' := (C.ref 2 0)) F.ag_48 rfl rfl (s_ptrNil (b := false) F.u_48 rfl (.inl ⟨⟨_, _, rfl⟩, rfl⟩) (.inr rfl) (AWops.nil ?_)))))
      refine AW.cond_yes rfl rfl (AW.seq (AW.seq (AW.region ?_)))
      refine s_move (d := (rf 0 0)) rfl (s_nilCheck (d := (rf 0 0)) rfl (.inl ⟨_, _, rfl⟩) (s_fieldRef F.fo_50_3 (by decide) rfl (s_load1 (c' := (C.ref 2 0)) F.ag_48 rfl rfl (s_nilCheck (d := (rf 2 0)) rfl (.inl ⟨_, _, rfl⟩) (s_load1 (c' := (ci p2)) F.ag_3 rfl rfl ?_)))))
      refine s_binI (v := (.bool (p2 == 0))) rfl rfl rfl (AWops.nil ?_)
      rcases itH h with ⟨c8, h⟩ | ⟨c8, h⟩
      ·refine AW.cond_yes rfl c8 (AW.seq (AW.region ?_))
       refine s_move (d := (rf 0 0)) rfl (s_nilCheck (d := (rf 0 0)) rfl (.inl ⟨_, _, rfl⟩) (s_fieldRef F.fo_50_4 (by decide) rfl (s_store (cs' := [(C.mp 1), (ci p0.room), (ci p0.used), (C.ref 2 0), (cb true)]) rfl rfl rfl (List.cons_ne_nil _ _) rfl F.sz_4 (nl rfl) rfl (AWops.nil (AW.seq (AW.region (s_assign (d := (si 70)) rfl (AWops.nil (AW.ret ?_)))))))))
       obtain rfl := Option.some.inj h
       exact ⟨_, rfl, (wg 3 [0, 1, 2] [] rfl (le_upd (le_top _) (o1 .sc)) (ac (qr rfl rfl) (ac .map (ac qb an))))⟩
      ·refine AW.cond_no rfl c8 (AW.skip (AW.region ?_))
       refine s_move (d := (rf 0 0)) rfl (s_nilCheck (d := (rf 0 0)) rfl (.inl ⟨_, _, rfl⟩) (s_fieldRef F.fo_50_3 (by decide) rfl (s_load1 (c' := (C.ref 2 0)) F.ag_48 rfl rfl (s_nilCheck (d := (rf 2 0)) rfl (.inl ⟨_, _, rfl⟩) (s_load1 (c' := (ci p2)) F.ag_3 rfl rfl ?_)))))
       refine s_binI (v := (.int .i64 (IntKind.i64.wrap (p2 - 1)))) rfl rfl rfl (s_nilCheck (d := (rf 2 0)) rfl (.inl ⟨_, _, rfl⟩) (s_store (cs' := [(ci (IntKind.i64.wrap (p2 - 1)))]) rfl rfl rfl (List.cons_ne_nil _ _) rfl F.sz_3 (nl rfl) rfl (AWops.nil (AW.seq (AW.region (s_assign (d := (si 0)) rfl (AWops.nil (AW.ret ?_))))))))
       obtain rfl := Option.some.inj h
       exact ⟨_, rfl, (wg 3 [0, 1, 2] [] rfl (le_upd (le_top _) (o1 .sc)) (ac (qr rfl rfl) (ac .map (ac qb an))))⟩
   ·refine AWops.guard_yes rfl (nl rfl) rfl (by rw [c4] <;> rfl) ?_
    refine s_move (d := (sb a3)) rfl ?_
    refine AWops.guard_yes rfl (nl rfl) rfl (by rw [c4] <;> rfl) ?_
    refine s_not rfl (s_pick_yes (d := (sb (!a3))) rfl (by rw [c4] <;> rfl) rfl (AWops.nil ?_))
    rcases itH h with ⟨c9, h⟩ | ⟨c9, h⟩
    ·refine AW.cond_no rfl (by rw [c9] <;> rfl) (AW.skip (AW.seq (AW.seq ?_)))
     refine AW.weak (st' := ⟨77, (upd 77 (upd 77 topF 0 (rf 0 0)) 4 (si a4)), [(o_vdisk_Disk_03 false (C.mp 1) (C.ref 2 0) p0), (om_ e_vdisk_file p0.files), (bx p2)]⟩) (wg 3 [0, 1, 2] [] hx (le_upd (le_upd (le_top _) (o1 (.ref rfl))) (o1 .sc)) (ac (qr rfl rfl) (ac .map (ac qb an)))) ?_
     rcases itH h with ⟨c10, h⟩ | ⟨c10, h⟩
     ·refine AW.draw (n := 77) (L := 3) [(ft 0 39 (si a4) [(4, (si a4))]), (ft 1 40 (sb (decide (a4 > 0))) [(39, (si a4))]), (ft 2 41 (sb (decide (a4 > 0))) [(40, (sb (decide (a4 > 0))))]), (ft 3 42 (si a4) [(4, (si a4)), (41, (sb (decide (a4 > 0))))]), (ft 4 43 (rf 0 0) [(0, (rf 0 0)), (41, (sb (decide (a4 > 0))))]), (ft 5 44 (rf 0 0) [(41, (sb (decide (a4 > 0)))), (43, (rf 0 0))]), (ft 6 45 (rf 0 1) [(41, (sb (decide (a4 > 0)))), (44, (rf 0 0))]), (7, ⟨some 46, (si p0.room), [(41, (sb (decide (a4 > 0)))), (45, (rf 0 1))], [(0, (o_vdisk_Disk_03 false (C.mp 1) (C.ref 2 0) p0))], [], none⟩), (ft 8 47 (rf 0 0) [(0, (rf 0 0)), (41, (sb (decide (a4 > 0))))]), (ft 9 48 (rf 0 0) [(41, (sb (decide (a4 > 0)))), (47, (rf 0 0))]), (ft 10 49 (rf 0 2) [(41, (sb (decide (a4 > 0)))), (48, (rf 0 0))]), (11, ⟨some 50, (si p0.used), [(41, (sb (decide (a4 > 0)))), (49, (rf 0 2))], [(0, (o_vdisk_Disk_03 false (C.mp 1) (C.ref 2 0) p0))], [], none⟩), (ft 12 51 (si (IntKind.i64.wrap (p0.room - p0.used))) [(41, (sb (decide (a4 > 0)))), (46, (si p0.room)), (50, (si p0.used))]), (ft 13 52 (sb (decide (a4 > (IntKind.i64.wrap (p0.room - p0.used))))) [(41, (sb (decide (a4 > 0)))), (42, (si a4)), (51, (si (IntKind.i64.wrap (p0.room - p0.used))))]), (ft 14 53 (sb (decide (a4 > (IntKind.i64.wrap (p0.room - p0.used))))) [(41, (sb (decide (a4 > 0)))), (52, (sb (decide (a4 > (IntKind.i64.wrap (p0.room - p0.used))))))])] [[], [0], [0, 1], [0, 1, 2], [0, 1, 2], [0, 1, 2, 4], [0, 1, 2, 4, 5], [0, 1, 2, 4, 5, 6], [0, 1, 2], [0, 1, 2, 8], [0, 1, 2, 8, 9], [0, 1, 2, 8, 9, 10], [0, 1, 2, 4, 5, 6, 7, 8, 9, 10, 11], (.range 13), (.range 14)] (nl rfl) [0, 1, 2, 3, 3, 4, 5, 6, 3, 4, 5, 6, 7, 8, 9] rfl (TK := []) rfl AllK.nil' (by repeat (first | refine fC ⟨?_, ?_⟩ ?_ | refine sC rfl ?_ | refine hC rfl ?_ | trivial)) ?_ ?_
      ·refine y8 ?_ ?_ ?_ ?_ ?_ ?_ ?_ ?_ (y4 ?_ ?_ ?_ ?_ (y2 ?_ ?_ (pC ?_ yN)))
       ·intro K _ f w u k
        show Wp K ⟨77, (upd 77 f 4 (si a4)), _⟩
        refine s_move (d := (si a4)) rfl k
       ·intro K _ f w u k
        show Wp K ⟨77, (upd 77 f 39 (si a4)), _⟩
        refine s_binI (v := (.bool (decide (a4 > 0)))) rfl rfl rfl k
       ·intro K _ f w u k
        show Wp K ⟨77, (upd 77 f 40 (sb (decide (a4 > 0)))), _⟩
        refine s_move (d := (sb (decide (a4 > 0)))) rfl k
       ·intro K _ f w u k
        show Wp K ⟨77, (upd 77 (upd 77 f 41 (sb (decide (a4 > 0)))) 4 (si a4)), _⟩
        refine AWops.guard_yes rfl (nl rfl) rfl c10 ?_
        refine s_move (d := (si a4)) rfl k
       ·intro K _ f w u k
        show Wp K ⟨77, (upd 77 (upd 77 f 41 (sb (decide (a4 > 0)))) 0 (rf 0 0)), _⟩
        refine AWops.guard_yes rfl (nl rfl) rfl c10 ?_
        refine s_move (d := (rf 0 0)) rfl k
       ·intro K _ f w u k
        show Wp K ⟨77, (upd 77 (upd 77 f 43 (rf 0 0)) 41 (sb (decide (a4 > 0)))), [_, _, _]⟩
        refine AWops.guard_yes rfl (nl rfl) rfl c10 ?_
        refine s_nilCheck (d := (rf 0 0)) rfl (.inl ⟨_, _, rfl⟩) k
       ·intro K _ f w u k
        show Wp K ⟨77, (upd 77 (upd 77 f 44 (rf 0 0)) 41 (sb (decide (a4 > 0)))), [_, _, _]⟩
        refine AWops.guard_yes rfl (nl rfl) rfl c10 ?_
        refine s_fieldRef F.fo_50_1 (by decide) rfl k
       ·intro K _ f w u k
        show Wp K ⟨77, (upd 77 (upd 77 f 45 (rf 0 1)) 41 (sb (decide (a4 > 0)))), [(o_vdisk_Disk_03 false (C.mp 1) (C.ref 2 0) p0), _, _]⟩
        refine AWops.guard_yes rfl (nl rfl) rfl c10 ?_
        refine s_load1 (c' := (ci p0.room)) F.ag_3 rfl rfl k
       ·intro K _ f w u k
        show Wp K ⟨77, (upd 77 (upd 77 f 41 (sb (decide (a4 > 0)))) 0 (rf 0 0)), _⟩
        refine AWops.guard_yes rfl (nl rfl) rfl c10 ?_
        refine s_move (d := (rf 0 0)) rfl k
       ·intro K _ f w u k
        show Wp K ⟨77, (upd 77 (upd 77 f 47 (rf 0 0)) 41 (sb (decide (a4 > 0)))), [_, _, _]⟩
        refine AWops.guard_yes rfl (nl rfl) rfl c10 ?_
        refine s_nilCheck (d := (rf 0 0)) rfl (.inl ⟨_, _, rfl⟩) k
       ·intro K _ f w u k
        show Wp K ⟨77, (upd 77 (upd 77 f 48 (rf 0 0)) 41 (sb (decide (a4 > 0)))), [_, _, _]⟩
        refine AWops.guard_yes rfl (nl rfl) rfl c10 ?_
        refine s_fieldRef F.fo_50_2 (by decide) rfl k
       ·intro K _ f w u k
        show Wp K ⟨77, (upd 77 (upd 77 f 49 (rf 0 2)) 41 (sb (decide (a4 > 0)))), [(o_vdisk_Disk_03 false (C.mp 1) (C.ref 2 0) p0), _, _]⟩
        refine AWops.guard_yes rfl (nl rfl) rfl c10 ?_
        refine s_load1 (c' := (ci p0.used)) F.ag_3 rfl rfl k
       ·intro K _ f w u k
        show Wp K ⟨77, (upd 77 (upd 77 (upd 77 f 50 (si p0.used)) 46 (si p0.room)) 41 (sb (decide (a4 > 0)))), _⟩
        refine AWops.guard_yes rfl (nl rfl) rfl c10 ?_
        refine s_binI (v := (.int .i64 (IntKind.i64.wrap (p0.room - p0.used)))) rfl rfl rfl k
       ·intro K _ f w u k
        show Wp K ⟨77, (upd 77 (upd 77 (upd 77 f 51 (si (IntKind.i64.wrap (p0.room - p0.used)))) 42 (si a4)) 41 (sb (decide (a4 > 0)))), _⟩
        refine AWops.guard_yes rfl (nl rfl) rfl c10 ?_
        refine s_binI (v := (.bool (decide (a4 > (IntKind.i64.wrap (p0.room - p0.used)))))) rfl rfl rfl k
       ·intro K _ f w u k
        show Wp K ⟨77, (upd 77 (upd 77 f 52 (sb (decide (a4 > (IntKind.i64.wrap (p0.room - p0.used)))))) 41 (sb (decide (a4 > 0)))), _⟩
        refine s_pick_yes (d := (sb (decide (a4 > (IntKind.i64.wrap (p0.room - p0.used)))))) rfl c10 rfl k
      ·refine AWops.weak (st' := ⟨77, (upd 77 (upd 77 topF 0 (rf 0 0)) 53 (sb (decide (a4 > (IntKind.i64.wrap (p0.room - p0.used)))))), [(o_vdisk_Disk_03 false (C.mp 1) (C.ref 2 0) p0), (om_ e_vdisk_file p0.files), (bx p2)]⟩) (wg 3 [0, 1, 2] [] hx (le_upd (le_upd (le_top _) (o1 (.ref rfl))) (o1 .sc)) (ac (qr rfl rfl) (ac .map (ac qb an)))) (AWops.nil ?_)
       rcases itH h with ⟨c11, h⟩ | ⟨c11, h⟩
       ·refine AW.cond_yes rfl c11 (AW.seq (AW.region ?_))
        refine s_assign (d := (si 71)) rfl (AWops.nil (AW.ret ?_))
        obtain rfl := Option.some.inj h
        exact ⟨_, rfl, (wg 3 [0, 1, 2] [] rfl (le_upd (le_top _) (o1 .sc)) (ac (qr rfl rfl) (ac .map (ac qb an))))⟩
       ·refine AW.cond_no rfl c11 (AW.skip (AW.seq (AW.seq (AW.region ?_))))
        refine s_move (d := (rf 0 0)) rfl (s_nilCheck (d := (rf 0 0)) rfl (.inl ⟨_, _, rfl⟩) (s_fieldRef F.fo_50_3 (by decide) rfl (s_load1 (c' := (C.ref 2 0)) F.ag_48 rfl rfl (s_ptrNil (b := false) F.u_48 rfl (.inl ⟨⟨_, _, rfl⟩, rfl⟩) (.inr rfl) (AWops.nil ?_)))))
        refine AW.cond_yes rfl rfl (AW.seq (AW.seq (AW.region ?_)))
        refine s_move (d := (rf 0 0)) rfl (s_nilCheck (d := (rf 0 0)) rfl (.inl ⟨_, _, rfl⟩) (s_fieldRef F.fo_50_3 (by decide) rfl (s_load1 (c' := (C.ref 2 0)) F.ag_48 rfl rfl (s_nilCheck (d := (rf 2 0)) rfl (.inl ⟨_, _, rfl⟩) (s_load1 (c' := (ci p2)) F.ag_3 rfl rfl ?_)))))
        refine s_binI (v := (.bool (p2 == 0))) rfl rfl rfl (AWops.nil ?_)
        rcases itH h with ⟨c12, h⟩ | ⟨c12, h⟩
        ·refine AW.cond_yes rfl c12 (AW.seq (AW.region ?_))
         refine s_move (d := (rf 0 0)) rfl (s_nilCheck (d := (rf 0 0)) rfl (.inl ⟨_, _, rfl⟩) (s_fieldRef F.fo_50_4 (by decide) rfl (s_store (cs' := [(C.mp 1), (ci p0.room), (ci p0.used), (C.ref 2 0), (cb true)]) rfl rfl rfl (List.cons_ne_nil _ _) rfl F.sz_4 (nl rfl) rfl (AWops.nil (AW.seq (AW.region (s_assign (d := (si 70)) rfl (AWops.nil (AW.ret ?_)))))))))
         obtain rfl := Option.some.inj h
         exact ⟨_, rfl, (wg 3 [0, 1, 2] [] rfl (le_upd (le_top _) (o1 .sc)) (ac (qr rfl rfl) (ac .map (ac qb an))))⟩
        ·refine AW.cond_no rfl c12 (AW.skip (AW.region ?_))
         refine s_move (d := (rf 0 0)) rfl (s_nilCheck (d := (rf 0 0)) rfl (.inl ⟨_, _, rfl⟩) (s_fieldRef F.fo_50_3 (by decide) rfl (s_load1 (c' := (C.ref 2 0)) F.ag_48 rfl rfl (s_nilCheck (d := (rf 2 0)) rfl (.inl ⟨_, _, rfl⟩) (s_load1 (c' := (ci p2)) F.ag_3 rfl rfl ?_)))))
         refine s_binI (v := (.int .i64 (IntKind.i64.wrap (p2 - 1)))) rfl rfl rfl (s_nilCheck (d := (rf 2 0)) rfl (.inl ⟨_, _, rfl⟩) (s_store (cs' := [(ci (IntKind.i64.wrap (p2 - 1)))]) rfl rfl rfl (List.cons_ne_nil _ _) rfl F.sz_3 (nl rfl) rfl (AWops.nil (AW.seq (AW.region (s_assign (d := (si 0)) rfl (AWops.nil (AW.ret ?_))))))))
         obtain rfl := Option.some.inj h
         exact ⟨_, rfl, (wg 3 [0, 1, 2] [] rfl (le_upd (le_top _) (o1 .sc)) (ac (qr rfl rfl) (ac .map (ac qb an))))⟩
     ·refine AW.draw (n := 77) (L := 3) [(ft 0 39 (si a4) [(4, (si a4))]), (ft 1 40 (sb (decide (a4 > 0))) [(39, (si a4))]), (ft 2 41 (sb (decide (a4 > 0))) [(40, (sb (decide (a4 > 0))))]), (ft 3 42 (D.tup []) [(4, (si a4)), (41, (sb (decide (a4 > 0))))]), (ft 4 43 (D.tup []) [(41, (sb (decide (a4 > 0))))]), (ft 5 44 (D.tup []) [(41, (sb (decide (a4 > 0))))]), (ft 6 45 (D.tup []) [(41, (sb (decide (a4 > 0))))]), (ft 7 46 (D.tup []) [(41, (sb (decide (a4 > 0))))]), (ft 8 47 (D.tup []) [(41, (sb (decide (a4 > 0))))]), (ft 9 48 (D.tup []) [(41, (sb (decide (a4 > 0))))]), (ft 10 49 (D.tup []) [(41, (sb (decide (a4 > 0))))]), (ft 11 50 (D.tup []) [(41, (sb (decide (a4 > 0))))]), (ft 12 51 (D.tup []) [(41, (sb (decide (a4 > 0))))]), (ft 13 52 (D.tup []) [(41, (sb (decide (a4 > 0))))]), (ft 14 53 (sb false) [(41, (sb (decide (a4 > 0))))])] [[], [0], [0, 1], [0, 1, 2], [0, 1, 2], [0, 1, 2, 4], [0, 1, 2, 4, 5], [0, 1, 2, 4, 5, 6], [0, 1, 2], [0, 1, 2, 8], [0, 1, 2, 8, 9], [0, 1, 2, 8, 9, 10], [0, 1, 2, 4, 5, 6, 7, 8, 9, 10, 11], (.range 13), (.range 14)] (nl rfl) [0, 1, 2, 3, 3, 4, 5, 6, 3, 4, 5, 6, 7, 8, 9] rfl (TK := []) rfl AllK.nil' (by repeat (first | refine fC ⟨?_, ?_⟩ ?_ | refine sC rfl ?_ | refine hC rfl ?_ | trivial)) ?_ ?_
      ·refine y8 ?_ ?_ ?_ ?_ ?_ ?_ ?_ ?_ (y4 ?_ ?_ ?_ ?_ (y2 ?_ ?_ (pC ?_ yN)))
       ·intro K _ f w u k
        show Wp K ⟨77, (upd 77 f 4 (si a4)), _⟩
        refine s_move (d := (si a4)) rfl k
       ·intro K _ f w u k
        show Wp K ⟨77, (upd 77 f 39 (si a4)), _⟩
        refine s_binI (v := (.bool (decide (a4 > 0)))) rfl rfl rfl k
       ·intro K _ f w u k
        show Wp K ⟨77, (upd 77 f 40 (sb (decide (a4 > 0)))), _⟩
        refine s_move (d := (sb (decide (a4 > 0)))) rfl k
       ·intro K _ f w u k
        show Wp K ⟨77, (upd 77 (upd 77 f 41 (sb (decide (a4 > 0)))) 4 (si a4)), _⟩
        refine AWops.guard_no rfl (nl rfl) rfl c10 k
       ·intro K _ f w u k
        show Wp K ⟨77, (upd 77 f 41 (sb (decide (a4 > 0)))), _⟩
        refine AWops.guard_no rfl (nl rfl) rfl c10 k
       ·intro K _ f w u k
        show Wp K ⟨77, (upd 77 f 41 (sb (decide (a4 > 0)))), _⟩
        refine AWops.guard_no rfl (nl rfl) rfl c10 k
       ·intro K _ f w u k
        show Wp K ⟨77, (upd 77 f 41 (sb (decide (a4 > 0)))), _⟩
        refine AWops.guard_no rfl (nl rfl) rfl c10 k
       ·intro K _ f w u k
        show Wp K ⟨77, (upd 77 f 41 (sb (decide (a4 > 0)))), _⟩
        refine AWops.guard_no rfl (nl rfl) rfl c10 k
       ·intro K _ f w u k
        show Wp K ⟨77, (upd 77 f 41 (sb (decide (a4 > 0)))), _⟩
        refine AWops.guard_no rfl (nl rfl) rfl c10 k
       ·intro K _ f w u k
        show Wp K ⟨77, (upd 77 f 41 (sb (decide (a4 > 0)))), _⟩
        refine AWops.guard_no rfl (nl rfl) rfl c10 k
       ·intro K _ f w u k
        show Wp K ⟨77, (upd 77 f 41 (sb (decide (a4 > 0)))), _⟩
        refine AWops.guard_no rfl (nl rfl) rfl c10 k
       ·intro K _ f w u k
        show Wp K ⟨77, (upd 77 f 41 (sb (decide (a4 > 0)))), _⟩
        refine AWops.guard_no rfl (nl rfl) rfl c10 k
       ·intro K _ f w u k
        show Wp K ⟨77, (upd 77 f 41 (sb (decide (a4 > 0)))), _⟩
        refine AWops.guard_no rfl (nl rfl) rfl c10 k
       ·intro K _ f w u k
        show Wp K ⟨77, (upd 77 f 41 (sb (decide (a4 > 0)))), _⟩
        refine AWops.guard_no rfl (nl rfl) rfl c10 k
       ·intro K _ f w u k
        show Wp K ⟨77, (upd 77 f 41 (sb (decide (a4 > 0)))), _⟩
        refine s_pick_no (d := (sb false)) rfl c10 rfl k
      ·refine AWops.weak (st' := ⟨77, (upd 77 (upd 77 topF 0 (rf 0 0)) 53 (sb false)), [(o_vdisk_Disk_03 false (C.mp 1) (C.ref 2 0) p0), (om_ e_vdisk_file p0.files), (bx p2)]⟩) (wg 3 [0, 1, 2] [] hx (le_upd (le_upd (le_top _) (o1 (.ref rfl))) (o1 .sc)) (ac (qr rfl rfl) (ac .map (ac qb an)))) (AWops.nil ?_)
       refine AW.cond_no rfl rfl (AW.skip (AW.seq (AW.seq (AW.region ?_))))
       refine s_move (d := (rf 0 0)) rfl (s_nilCheck (d := (rf 0 0)) rfl (.inl ⟨_, _, rfl⟩) (s_fieldRef F.fo_50_3 (by decide) rfl (s_load1 (c' := (C.ref 2 0)) F.ag_48 rfl rfl (s_ptrNil (b := false) F.u_48 rfl (.inl ⟨⟨_, _, rfl⟩, rfl⟩) (.inr rfl) (AWops.nil ?_)))))
       refine AW.cond_yes rfl rfl (AW.seq (AW.seq (AW.region ?_)))
       refine s_move (d := (rf 0 0)) rfl (s_nilCheck (d := (rf 0 0)) rfl (.inl ⟨_, _, rfl⟩) (s_fieldRef F.fo_50_3 (by decide) rfl (s_load1 (c' := (C.ref 2 0)) F.ag_48 rfl rfl (s_nilCheck (d := (rf 2 0)) rfl (.inl ⟨_, _, rfl⟩) (s_load1 (c' := (ci p2)) F.ag_3 rfl rfl ?_)))))
       refine s_binI (v := (.bool (p2 == 0))) rfl rfl rfl (AWops.nil ?_)
       rcases itH h with ⟨c13, h⟩ | ⟨c13, h⟩
       ·refine AW.cond_yes rfl c13 (AW.seq (AW.region ?_))
        refine s_move (d := (rf 0 0)) rfl (s_nilCheck (d := (rf 0 0)) rfl (.inl ⟨_, _, rfl⟩) (s_fieldRef F.fo_50_4 (by decide) rfl (s_store (cs' := [(C.mp 1), (ci p0.room), (ci p0.used), (C.ref 2 0), (cb true)]) rfl rfl rfl (List.cons_ne_nil _ _) rfl F.sz_4 (nl rfl) rfl (AWops.nil (AW.seq (AW.region (s_assign (d := (si 70)) rfl (AWops.nil (AW.ret ?_)))))))))
        obtain rfl := Option.some.inj h
        exact ⟨_, rfl, (wg 3 [0, 1, 2] [] rfl (le_upd (le_top _) (o1 .sc)) (ac (qr rfl rfl) (ac .map (ac qb an))))⟩
       ·refine AW.cond_no rfl c13 (AW.skip (AW.region ?_))
        refine s_move (d := (rf 0 0)) rfl (s_nilCheck (d := (rf 0 0)) rfl (.inl ⟨_, _, rfl⟩) (s_fieldRef F.fo_50_3 (by decide) rfl (s_load1 (c' := (C.ref 2 0)) F.ag_48 rfl rfl (s_nilCheck (d := (rf 2 0)) rfl (.inl ⟨_, _, rfl⟩) (s_load1 (c' := (ci p2)) F.ag_3 rfl rfl ?_)))))
        refine s_binI (v := (.int .i64 (IntKind.i64.wrap (p2 - 1)))) rfl rfl rfl (s_nilCheck (d := (rf 2 0)) rfl (.inl ⟨_, _, rfl⟩) (s_store (cs' := [(ci (IntKind.i64.wrap (p2 - 1)))]) rfl rfl rfl (List.cons_ne_nil _ _) rfl F.sz_3 (nl rfl) rfl (AWops.nil (AW.seq (AW.region (s_assign (d := (si 0)) rfl (AWops.nil (AW.ret ?_))))))))
        obtain rfl := Option.some.inj h
        exact ⟨_, rfl, (wg 3 [0, 1, 2] [] rfl (le_upd (le_top _) (o1 .sc)) (ac (qr rfl rfl) (ac .map (ac qb an))))⟩
    ·refine AW.cond_yes rfl (by rw [c9] <;> rfl) (AW.seq (AW.region ?_))
     refine s_assign (d := (si 33)) rfl (AWops.nil (AW.ret ?_))
     obtain rfl := Option.some.inj h
     exact ⟨_, rfl, (wg 3 [0, 1, 2] [] rfl (le_upd (le_top _) (o1 .sc)) (ac (qr rfl rfl) (ac .map (ac qb an))))⟩
 ·refine AW.cond_yes rfl (by rw [c2] <;> rfl) (AW.seq (AW.region ?_))
  refine s_assign (d := (si 1)) rfl (AWops.nil (AW.ret ?_))
  obtain rfl := Option.some.inj h
  exact ⟨_, rfl, (wg 3 [0, 1, 2] [] rfl (le_upd (le_top _) (o1 .sc)) (ac (qr rfl rfl) (ac .map (ac qb an))))⟩
def vdisk_Disk_set_33.f (k : Nat) (p0 : vdisk_Disk) (a1 : ByteArray) (a2 : vdisk_file) (p2 : Int) : Option vdisk_Disk := some (⟨mset a1 a2 p0.files, p0.room, IntKind.i64.wrap (p0.used + (IntKind.i64.wrap ((a2.b.length : Int) - (((lk_vdisk_file a1 p0.files).b).length : Int)))), (), p0.dead⟩ : vdisk_Disk)
theorem vdisk_Disk_set_33.meets (k : Nat) (p0 : vdisk_Disk) (a1 : ByteArray) (a2 : vdisk_file) (p2 : Int) (r : vdisk_Disk) (h : vdisk_Disk_set_33.f k p0 a1 a2 p2 = some r) : Meets Try.prog 33 [(rf 0 0), (st_ a1), (D.agg (c_vdisk_file a2))] [(o_vdisk_Disk_03 false (C.mp 1) (C.ref 2 0) p0), (om_ e_vdisk_file p0.files), (bx p2)] (D.tup []) [(o_vdisk_Disk_03 false (C.mp 1) (C.ref 2 0) r), (om_ e_vdisk_file r.files), (bx p2)] := by
 unfold vdisk_Disk_set_33.f at h
 refine Meets.of_body (n := 31) Try.func33 rfl rfl (nl rfl) fun x hx => ?_
 replace hx : x.k = 3 := hx
 show AW _ x _ _ ⟨31, fr0 [(rf 0 0), (st_ a1), (D.agg (c_vdisk_file a2))], [(o_vdisk_Disk_03 false (C.mp 1) (C.ref 2 0) p0), (om_ e_vdisk_file p0.files), (bx p2)]⟩
 refine AW.seq (AW.region ?_)
 refine s_box (cs := (c_vdisk_file a2)) rfl (List.cons_ne_nil _ _) rfl (AWops.nil (AW.seq ?_))
 refine AW.weak (st' := ⟨31, (upd 31 (upd 31 (upd 31 topF 0 (rf 0 0)) 1 (st_ a1)) 5 (rf 3 0)), [(o_vdisk_Disk_03 false (C.mp 1) (C.ref 2 0) p0), (om_ e_vdisk_file p0.files), (bx p2), (some (AObj.cells true (c_vdisk_file a2)))]⟩) (wg 3 [0, 1, 2, 3] [] hx (le_upd (le_upd (le_upd (le_top _) (o1 (.ref rfl))) (o1 .sc)) (o1 (.ref rfl))) (ac (qr rfl rfl) (ac .map (ac qb (ac (.cells (fun _ => rfl) (ac .same (ac .sc an))) an))))) ?_
 refine AW.draw (n := 31) (L := 4) [(ft 0 6 (rf 0 0) [(0, (rf 0 0))]), (ft 1 7 (rf 0 0) [(6, (rf 0 0))]), (ft 2 8 (rf 0 2) [(7, (rf 0 0))]), (3, ⟨some 9, (si p0.used), [(8, (rf 0 2))], [(0, (o_vdisk_Disk_03 false (C.mp 1) (C.ref 2 0) p0))], [], none⟩), (ft 4 10 (rf 3 0) [(5, (rf 3 0))]), (5, ⟨some 11, (D.one (C.p false (.sl a2.b.length (a2.b.flatMap e_u8)))), [(10, (rf 3 0))], [(3, (some (AObj.cells true (c_vdisk_file a2))))], [], none⟩), (ft 6 12 (si (a2.b.length : Int)) [(11, (D.one (C.p false (.sl a2.b.length (a2.b.flatMap e_u8)))))]), (ft 7 13 (rf 0 0) [(0, (rf 0 0))]), (ft 8 14 (rf 0 0) [(13, (rf 0 0))]), (ft 9 15 (rf 0 0) [(14, (rf 0 0))]), (10, ⟨some 16, (D.one (C.mp 1)), [(15, (rf 0 0))], [(0, (o_vdisk_Disk_03 false (C.mp 1) (C.ref 2 0) p0))], [], none⟩), (ft 11 17 (st_ a1) [(1, (st_ a1))]), (12, ⟨some 18, (D.agg (c_vdisk_file (lk_vdisk_file a1 p0.files))), [(16, (D.one (C.mp 1))), (17, (st_ a1))], [(1, (om_ e_vdisk_file p0.files))], [], none⟩), (ft 13 19 (D.one (C.p false (.sl ((lk_vdisk_file a1 p0.files).b).length (((lk_vdisk_file a1 p0.files).b).flatMap e_u8)))) [(18, (D.agg (c_vdisk_file (lk_vdisk_file a1 p0.files))))]), (ft 14 20 (si (((lk_vdisk_file a1 p0.files).b).length : Int)) [(19, (D.one (C.p false (.sl ((lk_vdisk_file a1 p0.files).b).length (((lk_vdisk_file a1 p0.files).b).flatMap e_u8)))))]), (ft 15 21 (si (IntKind.i64.wrap ((a2.b.length : Int) - (((lk_vdisk_file a1 p0.files).b).length : Int)))) [(12, (si (a2.b.length : Int))), (20, (si (((lk_vdisk_file a1 p0.files).b).length : Int)))]), (ft 16 22 (si (IntKind.i64.wrap (p0.used + (IntKind.i64.wrap ((a2.b.length : Int) - (((lk_vdisk_file a1 p0.files).b).length : Int)))))) [(9, (si p0.used)), (21, (si (IntKind.i64.wrap ((a2.b.length : Int) - (((lk_vdisk_file a1 p0.files).b).length : Int)))))]), (ft 17 23 (rf 0 0) [(6, (rf 0 0))]), (ft 18 24 (rf 0 2) [(23, (rf 0 0))]), (19, ⟨none, (D.one C.top), [(22, (si (IntKind.i64.wrap (p0.used + (IntKind.i64.wrap ((a2.b.length : Int) - (((lk_vdisk_file a1 p0.files).b).length : Int))))))), (24, (rf 0 2))], [(0, (o_vdisk_Disk_03 false (C.mp 1) (C.ref 2 0) p0))], [(0, (some (AObj.cells false [(C.mp 1), (ci p0.room), (ci (IntKind.i64.wrap (p0.used + (IntKind.i64.wrap ((a2.b.length : Int) - (((lk_vdisk_file a1 p0.files).b).length : Int)))))), (C.ref 2 0), (cb p0.dead)])))], none⟩)] [[], [0], [0, 1], [0, 1, 2], [], [4], [4, 5], [], [7], [7, 8], [7, 8, 9], [], [7, 8, 9, 10, 11], [7, 8, 9, 10, 11, 12], [7, 8, 9, 10, 11, 12, 13], [4, 5, 6, 7, 8, 9, 10, 11, 12, 13, 14], (.range 16), (.range 17), (.range 18), (.range 19)] (nl rfl) [0, 1, 2, 3, 0, 1, 2, 0, 1, 2, 3, 0, 4, 5, 6, 7, 8, 9, 10, 11] rfl (TK := []) rfl AllK.nil' (by repeat (first | refine fC ⟨?_, ?_⟩ ?_ | refine sC rfl ?_ | refine hC rfl ?_ | trivial)) ?_ ?_
 ·refine y8 ?_ ?_ ?_ ?_ ?_ ?_ ?_ ?_ (y8 ?_ ?_ ?_ ?_ ?_ ?_ ?_ ?_ (y4 ?_ ?_ ?_ ?_ yN))
  ·intro K _ f w u k
   show Wp K ⟨31, (upd 31 f 0 (rf 0 0)), _⟩
   refine s_move (d := (rf 0 0)) rfl k
  ·intro K _ f w u k
   show Wp K ⟨31, (upd 31 f 6 (rf 0 0)), [_, _, _, _]⟩
   refine s_nilCheck (d := (rf 0 0)) rfl (.inl ⟨_, _, rfl⟩) k
  ·intro K _ f w u k
   show Wp K ⟨31, (upd 31 f 7 (rf 0 0)), [_, _, _, _]⟩
   refine s_fieldRef F.fo_50_2 (by decide) rfl k
  ·intro K _ f w u k
   show Wp K ⟨31, (upd 31 f 8 (rf 0 2)), [(o_vdisk_Disk_03 false (C.mp 1) (C.ref 2 0) p0), _, _, _]⟩
   refine s_load1 (c' := (ci p0.used)) F.ag_3 rfl rfl k
  ·intro K _ f w u k
   show Wp K ⟨31, (upd 31 f 5 (rf 3 0)), [_, _, _, _]⟩
   refine s_fieldRef F.fo_65_0 (by decide) rfl k
  ·intro K _ f w u k
   show Wp K ⟨31, (upd 31 f 10 (rf 3 0)), [_, _, _, (some (AObj.cells true (c_vdisk_file a2)))]⟩
   refine s_load1 (c' := (C.p false (.sl a2.b.length (a2.b.flatMap e_u8)))) F.ag_22 rfl rfl k
  ·intro K _ f w u k
   show Wp K ⟨31, (upd 31 f 11 (D.one (C.p false (.sl a2.b.length (a2.b.flatMap e_u8))))), [_, _, _, _]⟩
   refine s_len (n := a2.b.length) F.u_22 rfl (.inr ⟨(fun _ _ h => by cases h), ⟨_, rfl⟩⟩) k
  ·intro K _ f w u k
   show Wp K ⟨31, (upd 31 f 0 (rf 0 0)), _⟩
   refine s_move (d := (rf 0 0)) rfl k
  ·intro K _ f w u k
   show Wp K ⟨31, (upd 31 f 13 (rf 0 0)), [_, _, _, _]⟩
   refine s_nilCheck (d := (rf 0 0)) rfl (.inl ⟨_, _, rfl⟩) k
  ·intro K _ f w u k
   show Wp K ⟨31, (upd 31 f 14 (rf 0 0)), [_, _, _, _]⟩
   refine s_fieldRef F.fo_50_0 (by decide) rfl k
  ·intro K _ f w u k
   show Wp K ⟨31, (upd 31 f 15 (rf 0 0)), [(o_vdisk_Disk_03 false (C.mp 1) (C.ref 2 0) p0), _, _, _]⟩
   refine s_load1 (c' := (C.mp 1)) F.ag_47 rfl rfl k
  ·intro K _ f w u k
   show Wp K ⟨31, (upd 31 f 1 (st_ a1)), _⟩
   refine s_move (d := (st_ a1)) rfl k
  ·intro K _ f w u k
   show Wp K ⟨31, (upd 31 (upd 31 f 17 (st_ a1)) 16 (D.one (C.mp 1))), [_, (om_ e_vdisk_file p0.files), _, _]⟩
   refine t_lookup (b := true) F.u_47 F.u_9 F.z_65 (z := ((⟨([] : List Int), 0⟩ : vdisk_file) : vdisk_file)) (zs := [(.slice none 0 0), (.int .i64 0)]) rfl (fun h => by cases h) (ac ZRel.n (ac (ZRel.v _ rfl) an)) rfl rfl rfl rfl k
  ·intro K _ f w u k
   show Wp K ⟨31, (upd 31 f 18 (D.agg (c_vdisk_file (lk_vdisk_file a1 p0.files)))), [_, _, _, _]⟩
   refine s_field1 (c := (C.p false (.sl ((lk_vdisk_file a1 p0.files).b).length (((lk_vdisk_file a1 p0.files).b).flatMap e_u8)))) F.fo_65_0 rfl rfl k
  ·intro K _ f w u k
   show Wp K ⟨31, (upd 31 f 19 (D.one (C.p false (.sl ((lk_vdisk_file a1 p0.files).b).length (((lk_vdisk_file a1 p0.files).b).flatMap e_u8))))), [_, _, _, _]⟩
   refine s_len (n := ((lk_vdisk_file a1 p0.files).b).length) F.u_22 rfl (.inr ⟨(fun _ _ h => by cases h), ⟨_, rfl⟩⟩) k
  ·intro K _ f w u k
   show Wp K ⟨31, (upd 31 (upd 31 f 20 (si (((lk_vdisk_file a1 p0.files).b).length : Int))) 12 (si (a2.b.length : Int))), _⟩
   refine s_binI (v := (.int .i64 (IntKind.i64.wrap ((a2.b.length : Int) - (((lk_vdisk_file a1 p0.files).b).length : Int))))) rfl rfl rfl k
  ·intro K _ f w u k
   show Wp K ⟨31, (upd 31 (upd 31 f 21 (si (IntKind.i64.wrap ((a2.b.length : Int) - (((lk_vdisk_file a1 p0.files).b).length : Int))))) 9 (si p0.used)), _⟩
   refine s_binI (v := (.int .i64 (IntKind.i64.wrap (p0.used + (IntKind.i64.wrap ((a2.b.length : Int) - (((lk_vdisk_file a1 p0.files).b).length : Int))))))) rfl rfl rfl k
  ·intro K _ f w u k
   show Wp K ⟨31, (upd 31 f 6 (rf 0 0)), [_, _, _, _]⟩
   refine s_nilCheck (d := (rf 0 0)) rfl (.inl ⟨_, _, rfl⟩) k
  ·intro K _ f w u k
   show Wp K ⟨31, (upd 31 f 23 (rf 0 0)), [_, _, _, _]⟩
   refine s_fieldRef F.fo_50_2 (by decide) rfl k
  ·intro K _ f w u k
   show Wp K ⟨31, (upd 31 (upd 31 f 24 (rf 0 2)) 22 (si (IntKind.i64.wrap (p0.used + (IntKind.i64.wrap ((a2.b.length : Int) - (((lk_vdisk_file a1 p0.files).b).length : Int))))))), [(o_vdisk_Disk_03 false (C.mp 1) (C.ref 2 0) p0), _, _, _]⟩
   refine s_store (cs' := [(C.mp 1), (ci p0.room), (ci (IntKind.i64.wrap (p0.used + (IntKind.i64.wrap ((a2.b.length : Int) - (((lk_vdisk_file a1 p0.files).b).length : Int)))))), (C.ref 2 0), (cb p0.dead)]) rfl rfl rfl (List.cons_ne_nil _ _) rfl F.sz_3 (nl rfl) rfl k
 ·refine AWops.weak (st' := ⟨31, (upd 31 (upd 31 (upd 31 topF 0 (rf 0 0)) 1 (st_ a1)) 5 (rf 3 0)), [(some (AObj.cells false [(C.mp 1), (ci p0.room), (ci (IntKind.i64.wrap (p0.used + (IntKind.i64.wrap ((a2.b.length : Int) - (((lk_vdisk_file a1 p0.files).b).length : Int)))))), (C.ref 2 0), (cb p0.dead)])), (om_ e_vdisk_file p0.files), (bx p2), (some (AObj.cells true (c_vdisk_file a2)))]⟩) (wg 3 [0, 1, 2, 3] [] hx (le_upd (le_upd (le_upd (le_top _) (o1 (.ref rfl))) (o1 .sc)) (o1 (.ref rfl))) (ac (qr rfl rfl) (ac .map (ac qb (ac (.cells (fun _ => rfl) (ac .same (ac .sc an))) an))))) (AWops.nil ?_)
  refine AW.weak (st' := ⟨31, (upd 31 (upd 31 (upd 31 topF 0 (rf 0 0)) 1 (st_ a1)) 5 (rf 3 0)), [(some (AObj.cells false [(C.mp 1), (ci p0.room), (ci (IntKind.i64.wrap (p0.used + (IntKind.i64.wrap ((a2.b.length : Int) - (((lk_vdisk_file a1 p0.files).b).length : Int)))))), (C.ref 2 0), (cb p0.dead)])), (om_ e_vdisk_file p0.files), (bx p2), (some (AObj.cells true (c_vdisk_file a2)))]⟩) (wg 3 [0, 1, 2, 3] [] hx (le_upd (le_upd (le_upd (le_top _) (o1 (.ref rfl))) (o1 .sc)) (o1 (.ref rfl))) (ac (qr rfl rfl) (ac .map (ac qb (ac (.cells (fun _ => rfl) (ac .same (ac .sc an))) an))))) ?_
  refine AW.draw (n := 31) (L := 4) [(ft 0 25 (rf 0 0) [(0, (rf 0 0))]), (ft 1 26 (rf 0 0) [(25, (rf 0 0))]), (ft 2 27 (rf 0 0) [(26, (rf 0 0))]), (3, ⟨some 28, (D.one (C.mp 1)), [(27, (rf 0 0))], [(0, (some (AObj.cells false [(C.mp 1), (ci p0.room), (ci (IntKind.i64.wrap (p0.used + (IntKind.i64.wrap ((a2.b.length : Int) - (((lk_vdisk_file a1 p0.files).b).length : Int)))))), (C.ref 2 0), (cb p0.dead)])))], [], none⟩), (ft 4 29 (st_ a1) [(1, (st_ a1))]), (5, ⟨some 30, (D.agg (c_vdisk_file a2)), [(5, (rf 3 0))], [(3, (some (AObj.cells true (c_vdisk_file a2))))], [], none⟩), (6, ⟨none, (D.one C.top), [(28, (D.one (C.mp 1))), (29, (st_ a1)), (30, (D.agg (c_vdisk_file a2)))], [(1, (om_ e_vdisk_file p0.files))], [(1, (some (AObj.map false (mapE true e_vdisk_file (mset a1 a2 p0.files)))))], none⟩)] [[], [0], [0, 1], [0, 1, 2], [], [], (.range 6)] (nl rfl) [0, 1, 2, 3, 0, 0, 4] rfl (TK := []) rfl AllK.nil' (by repeat (first | refine fC ⟨?_, ?_⟩ ?_ | refine sC rfl ?_ | refine hC rfl ?_ | trivial)) ?_ ?_
  ·refine y4 ?_ ?_ ?_ ?_ (y2 ?_ ?_ (pC ?_ yN))
   ·intro K _ f w u k
    show Wp K ⟨31, (upd 31 f 0 (rf 0 0)), _⟩
    refine s_move (d := (rf 0 0)) rfl k
   ·intro K _ f w u k
    show Wp K ⟨31, (upd 31 f 25 (rf 0 0)), [_, _, _, _]⟩
    refine s_nilCheck (d := (rf 0 0)) rfl (.inl ⟨_, _, rfl⟩) k
   ·intro K _ f w u k
    show Wp K ⟨31, (upd 31 f 26 (rf 0 0)), [_, _, _, _]⟩
    refine s_fieldRef F.fo_50_0 (by decide) rfl k
   ·intro K _ f w u k
    show Wp K ⟨31, (upd 31 f 27 (rf 0 0)), [(some (AObj.cells false [(C.mp 1), (ci p0.room), (ci (IntKind.i64.wrap (p0.used + (IntKind.i64.wrap ((a2.b.length : Int) - (((lk_vdisk_file a1 p0.files).b).length : Int)))))), (C.ref 2 0), (cb p0.dead)])), _, _, _]⟩
    refine s_load1 (c' := (C.mp 1)) F.ag_47 rfl rfl k
   ·intro K _ f w u k
    show Wp K ⟨31, (upd 31 f 1 (st_ a1)), _⟩
    refine s_move (d := (st_ a1)) rfl k
   ·intro K _ f w u k
    show Wp K ⟨31, (upd 31 f 5 (rf 3 0)), [_, _, _, (some (AObj.cells true (c_vdisk_file a2)))]⟩
    refine s_loadN (ds := (c_vdisk_file a2)) F.ag_65 F.sz_65 rfl rfl rfl k
   ·intro K _ f w u k
    show Wp K ⟨31, (upd 31 (upd 31 (upd 31 f 30 (D.agg (c_vdisk_file a2))) 29 (st_ a1)) 28 (D.one (C.mp 1))), [_, (om_ e_vdisk_file p0.files), _, _]⟩
    refine t_mapSet (b := true) (u := a2) F.u_47 F.u_9 (fun h => by cases h) rfl rfl rfl rfl rfl k
  ·refine AWops.weak (st' := ⟨31, topF, [(some (AObj.cells false [(C.mp 1), (ci p0.room), (ci (IntKind.i64.wrap (p0.used + (IntKind.i64.wrap ((a2.b.length : Int) - (((lk_vdisk_file a1 p0.files).b).length : Int)))))), (C.ref 2 0), (cb p0.dead)])), (some (AObj.map false (mapE true e_vdisk_file (mset a1 a2 p0.files)))), (bx p2)]⟩) (wg 3 [0, 1, 2] [] hx (le_top _) (ac (qr rfl rfl) (ac .map (ac qb an)))) (AWops.nil ?_)
   obtain rfl := Option.some.inj h
   exact ⟨_, rfl, (wg 3 [0, 1, 2] [] rfl (le_upd (le_top _) (DLe.tup an)) (ac (qr rfl rfl) (ac .map (ac qb an))))⟩
def vdisk_Disk_Append_9.f (k : Nat) (p0 : vdisk_Disk) (a1 : ByteArray) (p1 : List Int) (p3 : Int) : Option (Int × vdisk_Disk × Int) := (vdisk_named.f k a1).bind fun r1 => (vdisk_Disk_change_31.f k p0 r1 a1 true (p1.length : Int) p3).bind fun r2 => if (r2.1 == 0) = true then ((slices_Concat_byte_byte.f k ((lk_vdisk_file a1 r2.2.1.files).b) p1).bind fun r4 => (vdisk_Disk_set_33.f k r2.2.1 a1 (⟨r4, (lk_vdisk_file a1 r2.2.1.files).sure⟩ : vdisk_file) r2.2.2).bind fun r5 => some (r2.1, r5, r2.2.2)) else (some (r2.1, r2.2.1, r2.2.2))
theorem vdisk_Disk_Append_9.meets (k : Nat) (p0 : vdisk_Disk) (a1 : ByteArray) (p1 : List Int) (p3 : Int) (r : Int × vdisk_Disk × Int) (h : vdisk_Disk_Append_9.f k p0 a1 p1 p3 = some r) : Meets Try.prog 9 [(rf 0 0), (st_ a1), (D.one (C.own 1 0 p1.length 1))] [(o_vdisk_Disk_03 false (C.mp 2) (C.ref 3 0) p0), (or_ e_u8 p1), (om_ e_vdisk_file p0.files), (bx p3)] (si r.1) [(o_vdisk_Disk_03 false (C.mp 2) (C.ref 3 0) r.2.1), (or_ e_u8 p1), (om_ e_vdisk_file r.2.1.files), (bx r.2.2)] := by
 unfold vdisk_Disk_Append_9.f at h
 refine Meets.of_body (n := 36) Try.func9 rfl rfl (nl rfl) fun x hx => ?_
 replace hx : x.k = 4 := hx
 show AW _ x _ _ ⟨36, fr0 [(rf 0 0), (st_ a1), (D.one (C.own 1 0 p1.length 1))], [(o_vdisk_Disk_03 false (C.mp 2) (C.ref 3 0) p0), (or_ e_u8 p1), (om_ e_vdisk_file p0.files), (bx p3)]⟩
 refine AW.seq (AW.region ?_)
 refine s_assign (d := (si 0)) rfl (AWops.nil (AW.seq (AW.region ?_)))
 refine s_move (d := (rf 0 0)) rfl (s_move (d := (st_ a1)) rfl ?_)
 obtain ⟨r1, er1, h⟩ := bnd h
 refine cc [] [(o_vdisk_Disk_03 false (C.mp 2) (C.ref 3 0) p0), (or_ e_u8 p1), (om_ e_vdisk_file p0.files), (bx p3)] (sb r1) F.ca_32 rfl rfl (ac (.one .sc) an) an (vdisk_named.meets _ a1 r1 er1) (s_move (d := (st_ a1)) rfl (s_move (d := (D.one (C.own 1 0 p1.length 1))) rfl (s_len (n := p1.length) F.u_22 rfl (.inr ⟨(fun _ _ h => by cases h), ⟨_, rfl⟩⟩) ?_)))
 obtain ⟨r2, er2, h⟩ := bnd h
 refine cc [0, 2, 3] [(o_vdisk_Disk_03 false (C.mp 2) (C.ref 3 0) r2.2.1), (or_ e_u8 p1), (om_ e_vdisk_file r2.2.1.files), (bx r2.2.2)] (si r2.1) F.ca_31 rfl rfl (ac (.one (.ref rfl)) (ac (.one .sc) (ac (.one .sc) (ac (.one .sc) (ac (.one .sc) an))))) (ac (.cells (ac (.mp rfl) (ac .sc (ac .sc (ac (.ref rfl) (ac .sc an)))))) (ac .map (ac (.cells (ac .sc an)) an))) (vdisk_Disk_change_31.meets _ p0 r1 a1 true (p1.length : Int) p3 r2 er2) (s_assign (d := (si r2.1)) rfl (AWops.nil (AW.seq (AW.seq (AW.region (s_move (d := (si r2.1)) rfl (s_binI (v := (.bool (r2.1 == 0))) rfl rfl rfl (AWops.nil ?_))))))))
 rcases itH h with ⟨c3, h⟩ | ⟨c3, h⟩
 ·refine AW.cond_yes rfl c3 (AW.seq (AW.region ?_))
  refine s_move (d := (rf 0 0)) rfl (s_nilCheck (d := (rf 0 0)) rfl (.inl ⟨_, _, rfl⟩) (s_fieldRef F.fo_50_0 (by decide) rfl (s_load1 (c' := (C.mp 2)) F.ag_47 rfl rfl (s_move (d := (st_ a1)) rfl (t_lookup (b := true) F.u_47 F.u_9 F.z_65 (z := ((⟨([] : List Int), 0⟩ : vdisk_file) : vdisk_file)) (zs := [(.slice none 0 0), (.int .i64 0)]) rfl (fun h => by cases h) (ac ZRel.n (ac (ZRel.v _ rfl) an)) rfl rfl rfl rfl ?_)))))
  refine s_alloc (cs := [(C.p true (.v (.slice none 0 0))), (ci 0)]) F.z_65 rfl rfl (s_store (cs' := (c_vdisk_file (lk_vdisk_file a1 r2.2.1.files))) rfl rfl rfl (List.cons_ne_nil _ _) rfl F.sz_65 (nl rfl) rfl (AWops.nil ?_))
  refine AW.weak (st' := ⟨36, (upd 36 (upd 36 (upd 36 (upd 36 (upd 36 topF 0 (rf 0 0)) 1 (st_ a1)) 2 (D.one (C.own 1 0 p1.length 1))) 7 (si r2.1)) 8 (rf 4 0)), [(o_vdisk_Disk_03 false (C.mp 2) (C.ref 3 0) r2.2.1), (or_ e_u8 p1), (om_ e_vdisk_file r2.2.1.files), (bx r2.2.2), (some (AObj.cells true (c_vdisk_file (lk_vdisk_file a1 r2.2.1.files))))]⟩) (wg 4 [0, 1, 2, 3, 4] [] hx (le_upd (le_upd (le_upd (le_upd (le_upd (le_top _) (o1 (.ref rfl))) (o1 .sc)) (o1 (.own rfl))) (o1 .sc)) (o1 (.ref rfl))) (ac (qr rfl rfl) (ac (.cells id (all2_row _)) (ac .map (ac qb (ac (.cells (fun _ => rfl) (ac .same (ac .sc an))) an)))))) ?_
  obtain ⟨r4, er4, h⟩ := bnd h
  obtain ⟨r5, er5, h⟩ := bnd h
  refine AW.draw (n := 36) (L := 8) [(ft 0 24 (rf 0 0) [(0, (rf 0 0))]), (ft 1 25 (st_ a1) [(1, (st_ a1))]), (ft 2 26 (rf 4 0) [(8, (rf 4 0))]), (3, ⟨some 27, (D.one (C.p false (.sl ((lk_vdisk_file a1 r2.2.1.files).b).length (((lk_vdisk_file a1 r2.2.1.files).b).flatMap e_u8)))), [(26, (rf 4 0))], [(4, (some (AObj.cells true (c_vdisk_file (lk_vdisk_file a1 r2.2.1.files)))))], [], none⟩), (ft 4 28 (D.one (C.own 1 0 p1.length 1)) [(2, (D.one (C.own 1 0 p1.length 1)))]), (5, ⟨some 29, (D.one (C.own 5 0 2 1)), [(27, (D.one (C.p false (.sl ((lk_vdisk_file a1 r2.2.1.files).b).length (((lk_vdisk_file a1 r2.2.1.files).b).flatMap e_u8))))), (28, (D.one (C.own 1 0 p1.length 1)))], [], [(5, (some (AObj.cells true [(C.p false (.sl ((lk_vdisk_file a1 r2.2.1.files).b).length (((lk_vdisk_file a1 r2.2.1.files).b).flatMap e_u8))), (C.own 1 0 p1.length 1)])))], some 5⟩), (6, ⟨some 30, (D.one (C.p false (.sl r4.length (r4.flatMap e_u8)))), [(29, (D.one (C.own 5 0 2 1)))], [(1, (or_ e_u8 p1)), (5, (some (AObj.cells true [(C.p false (.sl ((lk_vdisk_file a1 r2.2.1.files).b).length (((lk_vdisk_file a1 r2.2.1.files).b).flatMap e_u8))), (C.own 1 0 p1.length 1)])))], [(5, (some (AObj.cells true [(C.p false (.sl ((lk_vdisk_file a1 r2.2.1.files).b).length (((lk_vdisk_file a1 r2.2.1.files).b).flatMap e_u8))), (C.own 1 0 p1.length 1)])))], some 6⟩), (ft 7 31 (rf 4 1) [(8, (rf 4 0))]), (8, ⟨some 32, (si ((lk_vdisk_file a1 r2.2.1.files).sure)), [(31, (rf 4 1))], [(4, (some (AObj.cells true (c_vdisk_file (lk_vdisk_file a1 r2.2.1.files)))))], [], none⟩), (ft 9 33 (D.agg [(C.p false (.sl r4.length (r4.flatMap e_u8))), (ci ((lk_vdisk_file a1 r2.2.1.files).sure))]) [(30, (D.one (C.p false (.sl r4.length (r4.flatMap e_u8))))), (32, (si ((lk_vdisk_file a1 r2.2.1.files).sure)))]), (10, ⟨some 34, (D.tup []), [(24, (rf 0 0)), (25, (st_ a1)), (33, (D.agg [(C.p false (.sl r4.length (r4.flatMap e_u8))), (ci ((lk_vdisk_file a1 r2.2.1.files).sure))]))], [(0, (o_vdisk_Disk_03 false (C.mp 2) (C.ref 3 0) r2.2.1)), (2, (om_ e_vdisk_file r2.2.1.files)), (3, (bx r2.2.2))], [(0, (o_vdisk_Disk_03 false (C.mp 2) (C.ref 3 0) r5)), (2, (om_ e_vdisk_file r5.files))], none⟩)] [[], [], [], [2], [], [2, 3, 4], [2, 3, 4, 5], [], [7], [2, 3, 4, 5, 6, 7, 8], (.range 10)] (nl rfl) [0, 0, 0, 1, 0, 2, 3, 0, 1, 4, 5] rfl (TK := [(5, 5), (6, 6)]) rfl (AllK.cons' ⟨(tk_upd (tk_upd (tk_upd (tk_upd (tk_upd tk_top rfl) rfl) rfl) rfl) rfl), (tC rfl (tC (tkO_row _) (tC rfl (tC rfl (tC rfl AllT.nil'))))), (fC (.inr rfl) (fC (.inr rfl) (fC (.inr rfl) (fC (.inr rfl) (fC (.inr rfl) (fC (.inl rfl) (fC (.inl rfl) (fC (.inr rfl) (fC (.inr rfl) (fC (.inl rfl) (fC (.inl rfl) AllF.nil')))))))))))⟩ (AllK.cons' ⟨(tk_upd (tk_upd (tk_upd (tk_upd (tk_upd tk_top rfl) rfl) rfl) rfl) rfl), (tC rfl (tC (tkO_row _) (tC rfl (tC rfl (tC rfl AllT.nil'))))), (fC (.inr rfl) (fC (.inr rfl) (fC (.inr rfl) (fC (.inr rfl) (fC (.inr rfl) (fC (.inr rfl) (fC (.inl rfl) (fC (.inr rfl) (fC (.inr rfl) (fC (.inl rfl) (fC (.inl rfl) AllF.nil')))))))))))⟩ AllK.nil')) (by repeat (first | refine fC ⟨?_, ?_⟩ ?_ | refine sC rfl ?_ | refine hC rfl ?_ | trivial)) ?_ ?_
  ·refine y8 ?_ ?_ ?_ ?_ ?_ ?_ ?_ ?_ (y2 ?_ ?_ (pC ?_ yN))
   ·intro K _ f w u k
    show Wp K ⟨36, (upd 36 f 0 (rf 0 0)), _⟩
    refine s_move (d := (rf 0 0)) rfl k
   ·intro K _ f w u k
    show Wp K ⟨36, (upd 36 f 1 (st_ a1)), _⟩
    refine s_move (d := (st_ a1)) rfl k
   ·intro K _ f w u k
    show Wp K ⟨36, (upd 36 f 8 (rf 4 0)), [_, _, _, _, _, _, _, _]⟩
    refine s_fieldRef F.fo_65_0 (by decide) rfl k
   ·intro K _ f w u k
    show Wp K ⟨36, (upd 36 f 26 (rf 4 0)), [_, _, _, _, (some (AObj.cells true (c_vdisk_file (lk_vdisk_file a1 r2.2.1.files)))), _, _, _]⟩
    refine s_load1 (c' := (C.p false (.sl ((lk_vdisk_file a1 r2.2.1.files).b).length (((lk_vdisk_file a1 r2.2.1.files).b).flatMap e_u8)))) F.ag_22 rfl rfl k
   ·intro K _ f w u k
    show Wp K ⟨36, (upd 36 f 2 (D.one (C.own 1 0 p1.length 1))), _⟩
    refine s_move (d := (D.one (C.own 1 0 p1.length 1))) rfl k
   ·intro K _ f w u k
    show Wp K ⟨36, (upd 36 (upd 36 f 28 (D.one (C.own 1 0 p1.length 1))) 27 (D.one (C.p false (.sl ((lk_vdisk_file a1 r2.2.1.files).b).length (((lk_vdisk_file a1 r2.2.1.files).b).flatMap e_u8))))), [_, _, _, _, _, _, _, _]⟩
    refine s_buildSlice (n := 2) (ps := [(0, (D.one (C.p false (.sl ((lk_vdisk_file a1 r2.2.1.files).b).length (((lk_vdisk_file a1 r2.2.1.files).b).flatMap e_u8))))), (1, (D.one (C.own 1 0 p1.length 1)))]) (cs := [(C.p false (.sl ((lk_vdisk_file a1 r2.2.1.files).b).length (((lk_vdisk_file a1 r2.2.1.files).b).flatMap e_u8))), (C.own 1 0 p1.length 1)]) F.u_23 F.sz_22 F.z_22 rfl rfl (by decide) (by decide) rfl rfl ?_
    refine AWops.weak (st' := ⟨36, (upd 36 (upd 36 (upd 36 f 28 (D.one (C.own 1 0 p1.length 1))) 27 (D.one (C.p false (.sl ((lk_vdisk_file a1 r2.2.1.files).b).length (((lk_vdisk_file a1 r2.2.1.files).b).flatMap e_u8))))) 29 (D.one (C.own 5 0 2 1))), [(w 0), (w 1), (w 2), (w 3), (w 4), (some (AObj.cells true [(C.p false (.sl ((lk_vdisk_file a1 r2.2.1.files).b).length (((lk_vdisk_file a1 r2.2.1.files).b).flatMap e_u8))), (C.own 1 0 p1.length 1)])), (w 6), (w 7)]⟩) (wg 4 [0, 1, 2, 3, 4, 8, 6, 7] [] hx (le_upd2 (le_ok (p := 5) (L := 8) rfl (u 5 rfl).1) (o1 (.own rfl))) (ac (oq 5 8 (u 5 rfl) 0) (ac (oq 5 8 (u 5 rfl) 1) (ac (oq 5 8 (u 5 rfl) 2) (ac (oq 5 8 (u 5 rfl) 3) (ac (oq 5 8 (u 5 rfl) 4) (ac (.cells (fun _ => rfl) (ac .same (ac (.own rfl) an))) (ac (oq 5 8 (u 5 rfl) 6) (ac (oq 5 8 (u 5 rfl) 7) an))))))))) k
   ·intro K _ f w u k
    show Wp K ⟨36, (upd 36 f 29 (D.one (C.own 5 0 2 1))), [_, (or_ e_u8 p1), _, _, _, (some (AObj.cells true [(C.p false (.sl ((lk_vdisk_file a1 r2.2.1.files).b).length (((lk_vdisk_file a1 r2.2.1.files).b).flatMap e_u8))), (C.own 1 0 p1.length 1)])), _, _]⟩
    refine cc [5, 1] [(w 0), (or_ e_u8 p1), (w 2), (w 3), (w 4), (some (AObj.cells true [(C.p false (.sl ((lk_vdisk_file a1 r2.2.1.files).b).length (((lk_vdisk_file a1 r2.2.1.files).b).flatMap e_u8))), (C.own 1 0 p1.length 1)])), (w 6), (w 7), (ow_ e_u8 r4)] (D.one (C.own 8 0 r4.length 1)) F.ca_34 rfl rfl (ac (.one (.own rfl)) an) (ac (.cells (ac .imm (ac (.own rfl) an))) (ac (.cells (lend_row _)) an)) (slices_Concat_byte_byte.meets _ ((lk_vdisk_file a1 r2.2.1.files).b) p1 r4 er4) ?_
    refine AWops.weak (st' := ⟨36, (upd 36 (upd 36 f 29 (D.one (C.own 5 0 2 1))) 30 (D.one (C.p false (.sl r4.length (r4.flatMap e_u8))))), [(w 0), (or_ e_u8 p1), (w 2), (w 3), (w 4), (some (AObj.cells true [(C.p false (.sl ((lk_vdisk_file a1 r2.2.1.files).b).length (((lk_vdisk_file a1 r2.2.1.files).b).flatMap e_u8))), (C.own 1 0 p1.length 1)])), (w 6), (w 7)]⟩) (wg 4 [0, 1, 2, 3, 4, 5, 6, 7] [8] hx (le_upd2 (le_ok (p := 6) (L := 8) rfl (u 6 rfl).1) (o1 (CLe.frz e_u8_len rfl rfl rfl))) (ac (oq 6 8 (u 6 rfl) 0) (ac (.cells id (all2_row _)) (ac (oq 6 8 (u 6 rfl) 2) (ac (oq 6 8 (u 6 rfl) 3) (ac (oq 6 8 (u 6 rfl) 4) (ac (.cells (fun _ => rfl) (ac .same (ac (.own rfl) an))) (ac (oq 6 8 (u 6 rfl) 6) (ac (oq 6 8 (u 6 rfl) 7) an))))))))) k
   ·intro K _ f w u k
    show Wp K ⟨36, (upd 36 f 8 (rf 4 0)), [_, _, _, _, _, _, _, _]⟩
    refine s_fieldRef F.fo_65_1 (by decide) rfl k
   ·intro K _ f w u k
    show Wp K ⟨36, (upd 36 f 31 (rf 4 1)), [_, _, _, _, (some (AObj.cells true (c_vdisk_file (lk_vdisk_file a1 r2.2.1.files)))), _, _, _]⟩
    refine s_load1 (c' := (ci ((lk_vdisk_file a1 r2.2.1.files).sure))) F.ag_3 rfl rfl k
   ·intro K _ f w u k
    show Wp K ⟨36, (upd 36 (upd 36 f 32 (si ((lk_vdisk_file a1 r2.2.1.files).sure))) 30 (D.one (C.p false (.sl r4.length (r4.flatMap e_u8))))), [_, _, _, _, _, _, _, _]⟩
    refine s_build (ps := [(0, (D.one (C.p false (.sl r4.length (r4.flatMap e_u8))))), (1, (si ((lk_vdisk_file a1 r2.2.1.files).sure)))]) (cs := [(C.p false (.sl r4.length (r4.flatMap e_u8))), (ci ((lk_vdisk_file a1 r2.2.1.files).sure))]) F.z_65 rfl F.so_65 rfl rfl k
   ·intro K _ f w u k
    show Wp K ⟨36, (upd 36 (upd 36 (upd 36 f 33 (D.agg [(C.p false (.sl r4.length (r4.flatMap e_u8))), (ci ((lk_vdisk_file a1 r2.2.1.files).sure))])) 25 (st_ a1)) 24 (rf 0 0)), [(o_vdisk_Disk_03 false (C.mp 2) (C.ref 3 0) r2.2.1), _, (om_ e_vdisk_file r2.2.1.files), (bx r2.2.2), _, _, _, _]⟩
    refine cc [0, 2, 3] [(o_vdisk_Disk_03 false (C.mp 2) (C.ref 3 0) r5), (w 1), (om_ e_vdisk_file r5.files), (bx r2.2.2), (w 4), (w 5), (w 6), (w 7)] (D.tup []) F.ca_33 rfl rfl (ac (.one (.ref rfl)) (ac (.one .sc) (ac (LendT.aggL (ac .imm (ac .sc an))) an))) (ac (.cells (ac (.mp rfl) (ac .sc (ac .sc (ac (.ref rfl) (ac .sc an)))))) (ac .map (ac (.cells (ac .sc an)) an))) (vdisk_Disk_set_33.meets _ r2.2.1 a1 (⟨r4, (lk_vdisk_file a1 r2.2.1.files).sure⟩ : vdisk_file) r2.2.2 r5 er5) k
  ·refine AWops.weak (st' := ⟨36, (upd 36 topF 7 (si r2.1)), [(o_vdisk_Disk_03 false (C.mp 2) (C.ref 3 0) r5), (or_ e_u8 p1), (om_ e_vdisk_file r5.files), (bx r2.2.2)]⟩) (wg 4 [0, 1, 2, 3] [] hx (le_upd (le_top _) (o1 .sc)) (ac (qr rfl rfl) (ac (.cells id (all2_row _)) (ac .map (ac qb an))))) (AWops.nil (AW.seq (AW.region ?_)))
   refine s_move (d := (si r2.1)) rfl (s_assign (d := (si r2.1)) rfl (AWops.nil (AW.ret ?_)))
   obtain rfl := Option.some.inj h
   exact ⟨_, rfl, (wg 4 [0, 1, 2, 3] [] rfl (le_upd (le_top _) (o1 .sc)) (ac (qr rfl rfl) (ac (.cells id (all2_row _)) (ac .map (ac qb an)))))⟩
 ·refine AW.cond_no rfl c3 (AW.skip (AW.seq (AW.region ?_)))
  refine s_move (d := (si r2.1)) rfl (s_assign (d := (si r2.1)) rfl (AWops.nil (AW.ret ?_)))
  obtain rfl := Option.some.inj h
  exact ⟨_, rfl, (wg 4 [0, 1, 2, 3] [] rfl (le_upd (le_top _) (o1 .sc)) (ac (qr rfl rfl) (ac (.cells id (all2_row _)) (ac .map (ac qb an)))))⟩
def vdisk_Disk_Sync_10.f (k : Nat) (p0 : vdisk_Disk) (a1 : ByteArray) (p2 : Int) : Option (Int × vdisk_Disk × Int) := (vdisk_Disk_change_31.f k p0 true a1 false 0 p2).bind fun r1 => if (r1.1 == 0) = true then ((vdisk_Disk_set_33.f k r1.2.1 a1 (⟨(lk_vdisk_file a1 r1.2.1.files).b, (((lk_vdisk_file a1 r1.2.1.files).b).length : Int)⟩ : vdisk_file) r1.2.2).bind fun r3 => some (r1.1, r3, r1.2.2)) else (some (r1.1, r1.2.1, r1.2.2))
theorem vdisk_Disk_Sync_10.meets (k : Nat) (p0 : vdisk_Disk) (a1 : ByteArray) (p2 : Int) (r : Int × vdisk_Disk × Int) (h : vdisk_Disk_Sync_10.f k p0 a1 p2 = some r) : Meets Try.prog 10 [(rf 0 0), (st_ a1)] [(o_vdisk_Disk_03 false (C.mp 1) (C.ref 2 0) p0), (om_ e_vdisk_file p0.files), (bx p2)] (si r.1) [(o_vdisk_Disk_03 false (C.mp 1) (C.ref 2 0) r.2.1), (om_ e_vdisk_file r.2.1.files), (bx r.2.2)] := by
 unfold vdisk_Disk_Sync_10.f at h
 refine Meets.of_body (n := 27) Try.func10 rfl rfl (nl rfl) fun x hx => ?_
 replace hx : x.k = 3 := hx
 show AW _ x _ _ ⟨27, fr0 [(rf 0 0), (st_ a1)], [(o_vdisk_Disk_03 false (C.mp 1) (C.ref 2 0) p0), (om_ e_vdisk_file p0.files), (bx p2)]⟩
 refine AW.seq (AW.region ?_)
 refine s_assign (d := (si 0)) rfl (AWops.nil (AW.seq (AW.region ?_)))
 refine s_move (d := (rf 0 0)) rfl (s_move (d := (st_ a1)) rfl ?_)
 obtain ⟨r1, er1, h⟩ := bnd h
 refine cc [0, 1, 2] [(o_vdisk_Disk_03 false (C.mp 1) (C.ref 2 0) r1.2.1), (om_ e_vdisk_file r1.2.1.files), (bx r1.2.2)] (si r1.1) F.ca_31 rfl rfl (ac (.one (.ref rfl)) (ac (.one .sc) (ac (.one .sc) (ac (.one .sc) (ac (.one .sc) an))))) (ac (.cells (ac (.mp rfl) (ac .sc (ac .sc (ac (.ref rfl) (ac .sc an)))))) (ac .map (ac (.cells (ac .sc an)) an))) (vdisk_Disk_change_31.meets _ p0 true a1 false 0 p2 r1 er1) (s_assign (d := (si r1.1)) rfl (AWops.nil (AW.seq (AW.seq (AW.region (s_move (d := (si r1.1)) rfl (s_binI (v := (.bool (r1.1 == 0))) rfl rfl rfl (AWops.nil ?_))))))))
 rcases itH h with ⟨c2, h⟩ | ⟨c2, h⟩
 ·refine AW.cond_yes rfl c2 (AW.seq (AW.region ?_))
  refine s_move (d := (rf 0 0)) rfl (s_nilCheck (d := (rf 0 0)) rfl (.inl ⟨_, _, rfl⟩) (s_fieldRef F.fo_50_0 (by decide) rfl (s_load1 (c' := (C.mp 1)) F.ag_47 rfl rfl (s_move (d := (st_ a1)) rfl (t_lookup (b := true) F.u_47 F.u_9 F.z_65 (z := ((⟨([] : List Int), 0⟩ : vdisk_file) : vdisk_file)) (zs := [(.slice none 0 0), (.int .i64 0)]) rfl (fun h => by cases h) (ac ZRel.n (ac (ZRel.v _ rfl) an)) rfl rfl rfl rfl ?_)))))
  refine s_field1 (c := (C.p false (.sl ((lk_vdisk_file a1 r1.2.1.files).b).length (((lk_vdisk_file a1 r1.2.1.files).b).flatMap e_u8)))) F.fo_65_0 rfl rfl (s_assign (d := (D.one (C.p false (.sl ((lk_vdisk_file a1 r1.2.1.files).b).length (((lk_vdisk_file a1 r1.2.1.files).b).flatMap e_u8))))) rfl (AWops.nil (AW.region (s_move (d := (rf 0 0)) rfl (s_move (d := (st_ a1)) rfl (s_move (d := (D.one (C.p false (.sl ((lk_vdisk_file a1 r1.2.1.files).b).length (((lk_vdisk_file a1 r1.2.1.files).b).flatMap e_u8))))) rfl (s_move (d := (D.one (C.p false (.sl ((lk_vdisk_file a1 r1.2.1.files).b).length (((lk_vdisk_file a1 r1.2.1.files).b).flatMap e_u8))))) rfl ?_)))))))
  refine s_len (n := ((lk_vdisk_file a1 r1.2.1.files).b).length) F.u_22 rfl (.inr ⟨(fun _ _ h => by cases h), ⟨_, rfl⟩⟩) (s_build (ps := [(0, (D.one (C.p false (.sl ((lk_vdisk_file a1 r1.2.1.files).b).length (((lk_vdisk_file a1 r1.2.1.files).b).flatMap e_u8))))), (1, (si (((lk_vdisk_file a1 r1.2.1.files).b).length : Int)))]) (cs := [(C.p false (.sl ((lk_vdisk_file a1 r1.2.1.files).b).length (((lk_vdisk_file a1 r1.2.1.files).b).flatMap e_u8))), (ci (((lk_vdisk_file a1 r1.2.1.files).b).length : Int))]) F.z_65 rfl F.so_65 rfl rfl ?_)
  obtain ⟨r3, er3, h⟩ := bnd h
  refine cc [0, 1, 2] [(o_vdisk_Disk_03 false (C.mp 1) (C.ref 2 0) r3), (om_ e_vdisk_file r3.files), (bx r1.2.2)] (D.tup []) F.ca_33 rfl rfl (ac (.one (.ref rfl)) (ac (.one .sc) (ac (LendT.aggL (ac .imm (ac .sc an))) an))) (ac (.cells (ac (.mp rfl) (ac .sc (ac .sc (ac (.ref rfl) (ac .sc an)))))) (ac .map (ac (.cells (ac .sc an)) an))) (vdisk_Disk_set_33.meets _ r1.2.1 a1 (⟨(lk_vdisk_file a1 r1.2.1.files).b, (((lk_vdisk_file a1 r1.2.1.files).b).length : Int)⟩ : vdisk_file) r1.2.2 r3 er3) (AWops.nil (AW.seq (AW.region ?_)))
  refine s_move (d := (si r1.1)) rfl (s_assign (d := (si r1.1)) rfl (AWops.nil (AW.ret ?_)))
  obtain rfl := Option.some.inj h
  exact ⟨_, rfl, (wg 3 [0, 1, 2] [] rfl (le_upd (le_top _) (o1 .sc)) (ac (qr rfl rfl) (ac .map (ac qb an))))⟩
 ·refine AW.cond_no rfl c2 (AW.skip (AW.seq (AW.region ?_)))
  refine s_move (d := (si r1.1)) rfl (s_assign (d := (si r1.1)) rfl (AWops.nil (AW.ret ?_)))
  obtain rfl := Option.some.inj h
  exact ⟨_, rfl, (wg 3 [0, 1, 2] [] rfl (le_upd (le_top _) (o1 .sc)) (ac (qr rfl rfl) (ac .map (ac qb an))))⟩
def vdisk_Disk_cut_46.f (k : Nat) (p0 : vdisk_Disk) (a1 : ByteArray) (p2 : Int) : Option vdisk_Disk := some (⟨mdel a1 p0.files, p0.room, IntKind.i64.wrap (p0.used - (((lk_vdisk_file a1 p0.files).b).length : Int)), (), p0.dead⟩ : vdisk_Disk)
theorem vdisk_Disk_cut_46.meets (k : Nat) (p0 : vdisk_Disk) (a1 : ByteArray) (p2 : Int) (r : vdisk_Disk) (h : vdisk_Disk_cut_46.f k p0 a1 p2 = some r) : Meets Try.prog 46 [(rf 0 0), (st_ a1)] [(o_vdisk_Disk_03 false (C.mp 1) (C.ref 2 0) p0), (om_ e_vdisk_file p0.files), (bx p2)] (D.tup []) [(o_vdisk_Disk_03 false (C.mp 1) (C.ref 2 0) r), (om_ e_vdisk_file r.files), (bx p2)] := by
 unfold vdisk_Disk_cut_46.f at h
 refine Meets.of_body (n := 24) Try.func46 rfl rfl (nl rfl) fun x hx => ?_
 replace hx : x.k = 3 := hx
 show AW _ x _ _ ⟨24, fr0 [(rf 0 0), (st_ a1)], [(o_vdisk_Disk_03 false (C.mp 1) (C.ref 2 0) p0), (om_ e_vdisk_file p0.files), (bx p2)]⟩
 refine AW.seq ?_
 refine AW.weak (st' := ⟨24, (upd 24 (upd 24 topF 0 (rf 0 0)) 1 (st_ a1)), [(o_vdisk_Disk_03 false (C.mp 1) (C.ref 2 0) p0), (om_ e_vdisk_file p0.files), (bx p2)]⟩) (wg 3 [0, 1, 2] [] hx (le_upd (le_upd (le_top _) (o1 (.ref rfl))) (o1 .sc)) (ac (qr rfl rfl) (ac .map (ac qb an)))) ?_
 refine AW.draw (n := 24) (L := 3) [(ft 0 4 (rf 0 0) [(0, (rf 0 0))]), (ft 1 5 (rf 0 0) [(4, (rf 0 0))]), (ft 2 6 (rf 0 2) [(5, (rf 0 0))]), (3, ⟨some 7, (si p0.used), [(6, (rf 0 2))], [(0, (o_vdisk_Disk_03 false (C.mp 1) (C.ref 2 0) p0))], [], none⟩), (ft 4 8 (rf 0 0) [(0, (rf 0 0))]), (ft 5 9 (rf 0 0) [(8, (rf 0 0))]), (ft 6 10 (rf 0 0) [(9, (rf 0 0))]), (7, ⟨some 11, (D.one (C.mp 1)), [(10, (rf 0 0))], [(0, (o_vdisk_Disk_03 false (C.mp 1) (C.ref 2 0) p0))], [], none⟩), (ft 8 12 (st_ a1) [(1, (st_ a1))]), (9, ⟨some 13, (D.agg (c_vdisk_file (lk_vdisk_file a1 p0.files))), [(11, (D.one (C.mp 1))), (12, (st_ a1))], [(1, (om_ e_vdisk_file p0.files))], [], none⟩), (ft 10 14 (D.one (C.p false (.sl ((lk_vdisk_file a1 p0.files).b).length (((lk_vdisk_file a1 p0.files).b).flatMap e_u8)))) [(13, (D.agg (c_vdisk_file (lk_vdisk_file a1 p0.files))))]), (ft 11 15 (si (((lk_vdisk_file a1 p0.files).b).length : Int)) [(14, (D.one (C.p false (.sl ((lk_vdisk_file a1 p0.files).b).length (((lk_vdisk_file a1 p0.files).b).flatMap e_u8)))))]), (ft 12 16 (si (IntKind.i64.wrap (p0.used - (((lk_vdisk_file a1 p0.files).b).length : Int)))) [(7, (si p0.used)), (15, (si (((lk_vdisk_file a1 p0.files).b).length : Int)))]), (ft 13 17 (rf 0 0) [(4, (rf 0 0))]), (ft 14 18 (rf 0 2) [(17, (rf 0 0))]), (15, ⟨none, (D.one C.top), [(16, (si (IntKind.i64.wrap (p0.used - (((lk_vdisk_file a1 p0.files).b).length : Int))))), (18, (rf 0 2))], [(0, (o_vdisk_Disk_03 false (C.mp 1) (C.ref 2 0) p0))], [(0, (some (AObj.cells false [(C.mp 1), (ci p0.room), (ci (IntKind.i64.wrap (p0.used - (((lk_vdisk_file a1 p0.files).b).length : Int)))), (C.ref 2 0), (cb p0.dead)])))], none⟩)] [[], [0], [0, 1], [0, 1, 2], [], [4], [4, 5], [4, 5, 6], [], [4, 5, 6, 7, 8], [4, 5, 6, 7, 8, 9], [4, 5, 6, 7, 8, 9, 10], (.range 12), (.range 13), (.range 14), (.range 15)] (nl rfl) [0, 1, 2, 3, 0, 1, 2, 3, 0, 4, 5, 6, 7, 8, 9, 10] rfl (TK := []) rfl AllK.nil' (by repeat (first | refine fC ⟨?_, ?_⟩ ?_ | refine sC rfl ?_ | refine hC rfl ?_ | trivial)) ?_ ?_
 ·refine y8 ?_ ?_ ?_ ?_ ?_ ?_ ?_ ?_ (y8 ?_ ?_ ?_ ?_ ?_ ?_ ?_ ?_ yN)
  ·intro K _ f w u k
   show Wp K ⟨24, (upd 24 f 0 (rf 0 0)), _⟩
   refine s_move (d := (rf 0 0)) rfl k
  ·intro K _ f w u k
   show Wp K ⟨24, (upd 24 f 4 (rf 0 0)), [_, _, _]⟩
   refine s_nilCheck (d := (rf 0 0)) rfl (.inl ⟨_, _, rfl⟩) k
  ·intro K _ f w u k
   show Wp K ⟨24, (upd 24 f 5 (rf 0 0)), [_, _, _]⟩
   refine s_fieldRef F.fo_50_2 (by decide) rfl k
  ·intro K _ f w u k
   show Wp K ⟨24, (upd 24 f 6 (rf 0 2)), [(o_vdisk_Disk_03 false (C.mp 1) (C.ref 2 0) p0), _, _]⟩
   refine s_load1 (c' := (ci p0.used)) F.ag_3 rfl rfl k
  ·intro K _ f w u k
   show Wp K ⟨24, (upd 24 f 0 (rf 0 0)), _⟩
   refine s_move (d := (rf 0 0)) rfl k
  ·intro K _ f w u k
   show Wp K ⟨24, (upd 24 f 8 (rf 0 0)), [_, _, _]⟩
   refine s_nilCheck (d := (rf 0 0)) rfl (.inl ⟨_, _, rfl⟩) k
  ·intro K _ f w u k
   show Wp K ⟨24, (upd 24 f 9 (rf 0 0)), [_, _, _]⟩
   refine s_fieldRef F.fo_50_0 (by decide) rfl k
  ·intro K _ f w u k
   show Wp K ⟨24, (upd 24 f 10 (rf 0 0)), [(o_vdisk_Disk_03 false (C.mp 1) (C.ref 2 0) p0), _, _]⟩
   refine s_load1 (c' := (C.mp 1)) F.ag_47 rfl rfl k
  ·intro K _ f w u k
   show Wp K ⟨24, (upd 24 f 1 (st_ a1)), _⟩
   refine s_move (d := (st_ a1)) rfl k
  ·intro K _ f w u k
   show Wp K ⟨24, (upd 24 (upd 24 f 12 (st_ a1)) 11 (D.one (C.mp 1))), [_, (om_ e_vdisk_file p0.files), _]⟩
   refine t_lookup (b := true) F.u_47 F.u_9 F.z_65 (z := ((⟨([] : List Int), 0⟩ : vdisk_file) : vdisk_file)) (zs := [(.slice none 0 0), (.int .i64 0)]) rfl (fun h => by cases h) (ac ZRel.n (ac (ZRel.v _ rfl) an)) rfl rfl rfl rfl k
  ·intro K _ f w u k
   show Wp K ⟨24, (upd 24 f 13 (D.agg (c_vdisk_file (lk_vdisk_file a1 p0.files)))), [_, _, _]⟩
   refine s_field1 (c := (C.p false (.sl ((lk_vdisk_file a1 p0.files).b).length (((lk_vdisk_file a1 p0.files).b).flatMap e_u8)))) F.fo_65_0 rfl rfl k
  ·intro K _ f w u k
   show Wp K ⟨24, (upd 24 f 14 (D.one (C.p false (.sl ((lk_vdisk_file a1 p0.files).b).length (((lk_vdisk_file a1 p0.files).b).flatMap e_u8))))), [_, _, _]⟩
   refine s_len (n := ((lk_vdisk_file a1 p0.files).b).length) F.u_22 rfl (.inr ⟨(fun _ _ h => by cases h), ⟨_, rfl⟩⟩) k
  ·intro K _ f w u k
   show Wp K ⟨24, (upd 24 (upd 24 f 15 (si (((lk_vdisk_file a1 p0.files).b).length : Int))) 7 (si p0.used)), _⟩
   refine s_binI (v := (.int .i64 (IntKind.i64.wrap (p0.used - (((lk_vdisk_file a1 p0.files).b).length : Int))))) rfl rfl rfl k
  ·intro K _ f w u k
   show Wp K ⟨24, (upd 24 f 4 (rf 0 0)), [_, _, _]⟩
   refine s_nilCheck (d := (rf 0 0)) rfl (.inl ⟨_, _, rfl⟩) k
  ·intro K _ f w u k
   show Wp K ⟨24, (upd 24 f 17 (rf 0 0)), [_, _, _]⟩
   refine s_fieldRef F.fo_50_2 (by decide) rfl k
  ·intro K _ f w u k
   show Wp K ⟨24, (upd 24 (upd 24 f 18 (rf 0 2)) 16 (si (IntKind.i64.wrap (p0.used - (((lk_vdisk_file a1 p0.files).b).length : Int))))), [(o_vdisk_Disk_03 false (C.mp 1) (C.ref 2 0) p0), _, _]⟩
   refine s_store (cs' := [(C.mp 1), (ci p0.room), (ci (IntKind.i64.wrap (p0.used - (((lk_vdisk_file a1 p0.files).b).length : Int)))), (C.ref 2 0), (cb p0.dead)]) rfl rfl rfl (List.cons_ne_nil _ _) rfl F.sz_3 (nl rfl) rfl k
 ·refine AWops.weak (st' := ⟨24, (upd 24 (upd 24 topF 0 (rf 0 0)) 1 (st_ a1)), [(some (AObj.cells false [(C.mp 1), (ci p0.room), (ci (IntKind.i64.wrap (p0.used - (((lk_vdisk_file a1 p0.files).b).length : Int)))), (C.ref 2 0), (cb p0.dead)])), (om_ e_vdisk_file p0.files), (bx p2)]⟩) (wg 3 [0, 1, 2] [] hx (le_upd (le_upd (le_top _) (o1 (.ref rfl))) (o1 .sc)) (ac (qr rfl rfl) (ac .map (ac qb an)))) (AWops.nil (AW.region ?_))
  refine s_move (d := (rf 0 0)) rfl (s_nilCheck (d := (rf 0 0)) rfl (.inl ⟨_, _, rfl⟩) (s_fieldRef F.fo_50_0 (by decide) rfl (s_load1 (c' := (C.mp 1)) F.ag_47 rfl rfl (s_move (d := (st_ a1)) rfl (t_mapDel F.u_47 F.u_9 rfl rfl rfl rfl rfl (AWops.nil ?_))))))
  obtain rfl := Option.some.inj h
  exact ⟨_, rfl, (wg 3 [0, 1, 2] [] rfl (le_upd (le_top _) (DLe.tup an)) (ac (qr rfl rfl) (ac .map (ac qb an))))⟩
def vdisk_Disk_Rename_18.f (k : Nat) (p0 : vdisk_Disk) (a1 : ByteArray) (a2 : ByteArray) (p2 : Int) : Option (Int × vdisk_Disk × Int) := (vdisk_named.f k a2).bind fun r1 => (vdisk_Disk_change_31.f k p0 r1 a1 false 0 p2).bind fun r2 => if (r2.1 == 0) = true then (if (a1.toList == a2.toList) = true then (some (r2.1, r2.2.1, r2.2.2)) else ((vdisk_Disk_cut_46.f k r2.2.1 a1 r2.2.2).bind fun r5 => (vdisk_Disk_set_33.f k r5 a2 (lk_vdisk_file a1 r2.2.1.files) r2.2.2).bind fun r6 => some (r2.1, r6, r2.2.2))) else (some (r2.1, r2.2.1, r2.2.2))
theorem vdisk_Disk_Rename_18.meets (k : Nat) (p0 : vdisk_Disk) (a1 : ByteArray) (a2 : ByteArray) (p2 : Int) (r : Int × vdisk_Disk × Int) (h : vdisk_Disk_Rename_18.f k p0 a1 a2 p2 = some r) : Meets Try.prog 18 [(rf 0 0), (st_ a1), (st_ a2)] [(o_vdisk_Disk_03 false (C.mp 1) (C.ref 2 0) p0), (om_ e_vdisk_file p0.files), (bx p2)] (si r.1) [(o_vdisk_Disk_03 false (C.mp 1) (C.ref 2 0) r.2.1), (om_ e_vdisk_file r.2.1.files), (bx r.2.2)] := by
 unfold vdisk_Disk_Rename_18.f at h
 refine Meets.of_body (n := 35) Try.func18 rfl rfl (nl rfl) fun x hx => ?_
 replace hx : x.k = 3 := hx
 show AW _ x _ _ ⟨35, fr0 [(rf 0 0), (st_ a1), (st_ a2)], [(o_vdisk_Disk_03 false (C.mp 1) (C.ref 2 0) p0), (om_ e_vdisk_file p0.files), (bx p2)]⟩
 refine AW.seq (AW.region ?_)
 refine s_assign (d := (si 0)) rfl (AWops.nil (AW.seq (AW.region ?_)))
 refine s_move (d := (rf 0 0)) rfl (s_move (d := (st_ a2)) rfl ?_)
 obtain ⟨r1, er1, h⟩ := bnd h
 refine cc [] [(o_vdisk_Disk_03 false (C.mp 1) (C.ref 2 0) p0), (om_ e_vdisk_file p0.files), (bx p2)] (sb r1) F.ca_32 rfl rfl (ac (.one .sc) an) an (vdisk_named.meets _ a2 r1 er1) (s_move (d := (st_ a1)) rfl ?_)
 obtain ⟨r2, er2, h⟩ := bnd h
 refine cc [0, 1, 2] [(o_vdisk_Disk_03 false (C.mp 1) (C.ref 2 0) r2.2.1), (om_ e_vdisk_file r2.2.1.files), (bx r2.2.2)] (si r2.1) F.ca_31 rfl rfl (ac (.one (.ref rfl)) (ac (.one .sc) (ac (.one .sc) (ac (.one .sc) (ac (.one .sc) an))))) (ac (.cells (ac (.mp rfl) (ac .sc (ac .sc (ac (.ref rfl) (ac .sc an)))))) (ac .map (ac (.cells (ac .sc an)) an))) (vdisk_Disk_change_31.meets _ p0 r1 a1 false 0 p2 r2 er2) (s_assign (d := (si r2.1)) rfl (AWops.nil (AW.seq (AW.seq (AW.region (s_move (d := (si r2.1)) rfl (s_binI (v := (.bool (r2.1 == 0))) rfl rfl rfl (s_move (d := (sb (r2.1 == 0))) rfl ?_))))))))
 rcases itH h with ⟨c3, h⟩ | ⟨c3, h⟩
 ·refine AWops.guard_yes rfl (nl rfl) rfl c3 ?_
  refine s_move (d := (st_ a1)) rfl ?_
  refine AWops.guard_yes rfl (nl rfl) rfl c3 ?_
  refine s_move (d := (st_ a2)) rfl ?_
  refine AWops.guard_yes rfl (nl rfl) rfl c3 ?_
  refine s_binS (v := (.bool (!(a1.toList == a2.toList)))) rfl rfl rfl (s_pick_yes (d := (sb (!(a1.toList == a2.toList)))) rfl c3 rfl (AWops.nil ?_))
  rcases itH h with ⟨c4, h⟩ | ⟨c4, h⟩
  ·refine AW.cond_no rfl (by rw [c4] <;> rfl) (AW.skip (AW.seq (AW.region ?_)))
   refine s_move (d := (si r2.1)) rfl (s_assign (d := (si r2.1)) rfl (AWops.nil (AW.ret ?_)))
   obtain rfl := Option.some.inj h
   exact ⟨_, rfl, (wg 3 [0, 1, 2] [] rfl (le_upd (le_top _) (o1 .sc)) (ac (qr rfl rfl) (ac .map (ac qb an))))⟩
  ·refine AW.cond_yes rfl (by rw [c4] <;> rfl) (AW.seq (AW.region ?_))
   refine s_move (d := (rf 0 0)) rfl (s_nilCheck (d := (rf 0 0)) rfl (.inl ⟨_, _, rfl⟩) (s_fieldRef F.fo_50_0 (by decide) rfl (s_load1 (c' := (C.mp 1)) F.ag_47 rfl rfl (s_move (d := (st_ a1)) rfl (t_lookup (b := true) F.u_47 F.u_9 F.z_65 (z := ((⟨([] : List Int), 0⟩ : vdisk_file) : vdisk_file)) (zs := [(.slice none 0 0), (.int .i64 0)]) rfl (fun h => by cases h) (ac ZRel.n (ac (ZRel.v _ rfl) an)) rfl rfl rfl rfl ?_)))))
   refine s_alloc (cs := [(C.p true (.v (.slice none 0 0))), (ci 0)]) F.z_65 rfl rfl (s_store (cs' := (c_vdisk_file (lk_vdisk_file a1 r2.2.1.files))) rfl rfl rfl (List.cons_ne_nil _ _) rfl F.sz_65 (nl rfl) rfl (AWops.nil (AW.seq (AW.region (s_move (d := (rf 0 0)) rfl (s_move (d := (st_ a1)) rfl ?_))))))
   obtain ⟨r5, er5, h⟩ := bnd h
   refine cc [0, 1, 2] [(o_vdisk_Disk_03 false (C.mp 1) (C.ref 2 0) r5), (om_ e_vdisk_file r5.files), (bx r2.2.2), (some (AObj.cells true (c_vdisk_file (lk_vdisk_file a1 r2.2.1.files))))] (D.tup []) F.ca_46 rfl rfl (ac (.one (.ref rfl)) (ac (.one .sc) an)) (ac (.cells (ac (.mp rfl) (ac .sc (ac .sc (ac (.ref rfl) (ac .sc an)))))) (ac .map (ac (.cells (ac .sc an)) an))) (vdisk_Disk_cut_46.meets _ r2.2.1 a1 r2.2.2 r5 er5) (AWops.nil (AW.region ?_))
   refine s_move (d := (rf 0 0)) rfl (s_move (d := (st_ a2)) rfl (s_loadN (ds := (c_vdisk_file (lk_vdisk_file a1 r2.2.1.files))) F.ag_65 F.sz_65 rfl rfl rfl ?_))
   obtain ⟨r6, er6, h⟩ := bnd h
   refine cc [0, 1, 2] [(o_vdisk_Disk_03 false (C.mp 1) (C.ref 2 0) r6), (om_ e_vdisk_file r6.files), (bx r2.2.2), (some (AObj.cells true (c_vdisk_file (lk_vdisk_file a1 r2.2.1.files))))] (D.tup []) F.ca_33 rfl rfl (ac (.one (.ref rfl)) (ac (.one .sc) (ac (LendT.aggL (ac .imm (ac .sc an))) an))) (ac (.cells (ac (.mp rfl) (ac .sc (ac .sc (ac (.ref rfl) (ac .sc an)))))) (ac .map (ac (.cells (ac .sc an)) an))) (vdisk_Disk_set_33.meets _ r5 a2 (lk_vdisk_file a1 r2.2.1.files) r2.2.2 r6 er6) (AWops.nil (AW.seq (AW.region ?_)))
   refine s_move (d := (si r2.1)) rfl (s_assign (d := (si r2.1)) rfl (AWops.nil (AW.ret ?_)))
   obtain rfl := Option.some.inj h
   exact ⟨_, rfl, (wg 3 [0, 1, 2] [] rfl (le_upd (le_top _) (o1 .sc)) (ac (qr rfl rfl) (ac .map (ac qb an))))⟩
 ·iterate 3 refine AWops.guard_no rfl (nl rfl) rfl c3 ?_
  refine s_pick_no (d := (sb false)) rfl c3 rfl (AWops.nil ?_)
  refine AW.cond_no rfl rfl (AW.skip (AW.seq (AW.region ?_)))
  refine s_move (d := (si r2.1)) rfl (s_assign (d := (si r2.1)) rfl (AWops.nil (AW.ret ?_)))
  obtain rfl := Option.some.inj h
  exact ⟨_, rfl, (wg 3 [0, 1, 2] [] rfl (le_upd (le_top _) (o1 .sc)) (ac (qr rfl rfl) (ac .map (ac qb an))))⟩
def vdisk_Disk_Truncate_19.f (k : Nat) (p0 : vdisk_Disk) (a1 : ByteArray) (a2 : Int) (p2 : Int) : Option (Int × vdisk_Disk × Int) := (vdisk_Disk_change_31.f k p0 (decide (a2 ≥ 0)) a1 false 0 p2).bind fun r1 => if (r1.1 == 0) = true then (if (decide (0 ≤ (if (((lk_vdisk_file a1 r1.2.1.files).b).length : Int) < a2 then (((lk_vdisk_file a1 r1.2.1.files).b).length : Int) else a2) ∧ (if (((lk_vdisk_file a1 r1.2.1.files).b).length : Int) < a2 then (((lk_vdisk_file a1 r1.2.1.files).b).length : Int) else a2) ≤ (((lk_vdisk_file a1 r1.2.1.files).b).length : Int))) = true then ((vdisk_Disk_set_33.f k r1.2.1 a1 (⟨sub ((lk_vdisk_file a1 r1.2.1.files).b) 0 (if (((lk_vdisk_file a1 r1.2.1.files).b).length : Int) < a2 then (((lk_vdisk_file a1 r1.2.1.files).b).length : Int) else a2), (if ((lk_vdisk_file a1 r1.2.1.files).sure) < (if (((lk_vdisk_file a1 r1.2.1.files).b).length : Int) < a2 then (((lk_vdisk_file a1 r1.2.1.files).b).length : Int) else a2) then ((lk_vdisk_file a1 r1.2.1.files).sure) else (if (((lk_vdisk_file a1 r1.2.1.files).b).length : Int) < a2 then (((lk_vdisk_file a1 r1.2.1.files).b).length : Int) else a2))⟩ : vdisk_file) r1.2.2).bind fun r4 => some (r1.1, r4, r1.2.2)) else none) else (some (r1.1, r1.2.1, r1.2.2))
theorem vdisk_Disk_Truncate_19.meets (k : Nat) (p0 : vdisk_Disk) (a1 : ByteArray) (a2 : Int) (p2 : Int) (r : Int × vdisk_Disk × Int) (h : vdisk_Disk_Truncate_19.f k p0 a1 a2 p2 = some r) : Meets Try.prog 19 [(rf 0 0), (st_ a1), (si a2)] [(o_vdisk_Disk_03 false (C.mp 1) (C.ref 2 0) p0), (om_ e_vdisk_file p0.files), (bx p2)] (si r.1) [(o_vdisk_Disk_03 false (C.mp 1) (C.ref 2 0) r.2.1), (om_ e_vdisk_file r.2.1.files), (bx r.2.2)] := by
 unfold vdisk_Disk_Truncate_19.f at h
 refine Meets.of_body (n := 41) Try.func19 rfl rfl (nl rfl) fun x hx => ?_
 replace hx : x.k = 3 := hx
 show AW _ x _ _ ⟨41, fr0 [(rf 0 0), (st_ a1), (si a2)], [(o_vdisk_Disk_03 false (C.mp 1) (C.ref 2 0) p0), (om_ e_vdisk_file p0.files), (bx p2)]⟩
 refine AW.seq (AW.region ?_)
 refine s_assign (d := (si 0)) rfl (AWops.nil (AW.seq (AW.region ?_)))
 refine s_move (d := (rf 0 0)) rfl (s_move (d := (si a2)) rfl (s_binI (v := (.bool (decide (a2 ≥ 0)))) rfl rfl rfl (s_move (d := (st_ a1)) rfl ?_)))
 obtain ⟨r1, er1, h⟩ := bnd h
 refine cc [0, 1, 2] [(o_vdisk_Disk_03 false (C.mp 1) (C.ref 2 0) r1.2.1), (om_ e_vdisk_file r1.2.1.files), (bx r1.2.2)] (si r1.1) F.ca_31 rfl rfl (ac (.one (.ref rfl)) (ac (.one .sc) (ac (.one .sc) (ac (.one .sc) (ac (.one .sc) an))))) (ac (.cells (ac (.mp rfl) (ac .sc (ac .sc (ac (.ref rfl) (ac .sc an)))))) (ac .map (ac (.cells (ac .sc an)) an))) (vdisk_Disk_change_31.meets _ p0 (decide (a2 ≥ 0)) a1 false 0 p2 r1 er1) (s_assign (d := (si r1.1)) rfl (AWops.nil (AW.seq (AW.seq (AW.region (s_move (d := (si r1.1)) rfl (s_binI (v := (.bool (r1.1 == 0))) rfl rfl rfl (AWops.nil ?_))))))))
 rcases itH h with ⟨c2, h⟩ | ⟨c2, h⟩
 ·refine AW.cond_yes rfl c2 (AW.seq (AW.region ?_))
  refine s_move (d := (rf 0 0)) rfl (s_nilCheck (d := (rf 0 0)) rfl (.inl ⟨_, _, rfl⟩) (s_fieldRef F.fo_50_0 (by decide) rfl (s_load1 (c' := (C.mp 1)) F.ag_47 rfl rfl (s_move (d := (st_ a1)) rfl (t_lookup (b := true) F.u_47 F.u_9 F.z_65 (z := ((⟨([] : List Int), 0⟩ : vdisk_file) : vdisk_file)) (zs := [(.slice none 0 0), (.int .i64 0)]) rfl (fun h => by cases h) (ac ZRel.n (ac (ZRel.v _ rfl) an)) rfl rfl rfl rfl ?_)))))
  refine s_alloc (cs := [(C.p true (.v (.slice none 0 0))), (ci 0)]) F.z_65 rfl rfl (s_store (cs' := (c_vdisk_file (lk_vdisk_file a1 r1.2.1.files))) rfl rfl rfl (List.cons_ne_nil _ _) rfl F.sz_65 (nl rfl) rfl (AWops.nil (AW.seq (AW.region (s_move (d := (si a2)) rfl (s_fieldRef F.fo_65_0 (by decide) rfl (s_load1 (c' := (C.p false (.sl ((lk_vdisk_file a1 r1.2.1.files).b).length (((lk_vdisk_file a1 r1.2.1.files).b).flatMap e_u8)))) F.ag_22 rfl rfl (s_len (n := ((lk_vdisk_file a1 r1.2.1.files).b).length) F.u_22 rfl (.inr ⟨(fun _ _ h => by cases h), ⟨_, rfl⟩⟩) ?_))))))))
  refine s_min2 (r := (if (((lk_vdisk_file a1 r1.2.1.files).b).length : Int) < a2 then (((lk_vdisk_file a1 r1.2.1.files).b).length : Int) else a2)) rfl rfl rfl (s_assign (d := (si (if (((lk_vdisk_file a1 r1.2.1.files).b).length : Int) < a2 then (((lk_vdisk_file a1 r1.2.1.files).b).length : Int) else a2))) rfl (AWops.nil ?_))
  refine AW.weak (st' := ⟨41, (upd 41 (upd 41 (upd 41 (upd 41 (upd 41 topF 0 (rf 0 0)) 1 (st_ a1)) 2 (si (if (((lk_vdisk_file a1 r1.2.1.files).b).length : Int) < a2 then (((lk_vdisk_file a1 r1.2.1.files).b).length : Int) else a2))) 7 (si r1.1)) 8 (rf 3 0)), [(o_vdisk_Disk_03 false (C.mp 1) (C.ref 2 0) r1.2.1), (om_ e_vdisk_file r1.2.1.files), (bx r1.2.2), (some (AObj.cells true (c_vdisk_file (lk_vdisk_file a1 r1.2.1.files))))]⟩) (wg 3 [0, 1, 2, 3] [] hx (le_upd (le_upd (le_upd (le_upd (le_upd (le_top _) (o1 (.ref rfl))) (o1 .sc)) (o1 .sc)) (o1 .sc)) (o1 (.ref rfl))) (ac (qr rfl rfl) (ac .map (ac qb (ac (.cells (fun _ => rfl) (ac .same (ac .sc an))) an))))) ?_
  obtain ⟨c3, h⟩ := gdH h
  have dc3 := of_decide_eq_true c3
  obtain ⟨r4, er4, h⟩ := bnd h
  refine AW.draw (n := 41) (L := 5) [(ft 0 27 (rf 0 0) [(0, (rf 0 0))]), (ft 1 28 (st_ a1) [(1, (st_ a1))]), (ft 2 29 (rf 3 0) [(8, (rf 3 0))]), (3, ⟨some 30, (D.one (C.p false (.sl ((lk_vdisk_file a1 r1.2.1.files).b).length (((lk_vdisk_file a1 r1.2.1.files).b).flatMap e_u8)))), [(29, (rf 3 0))], [(3, (some (AObj.cells true (c_vdisk_file (lk_vdisk_file a1 r1.2.1.files)))))], [], none⟩), (ft 4 31 (si (if (((lk_vdisk_file a1 r1.2.1.files).b).length : Int) < a2 then (((lk_vdisk_file a1 r1.2.1.files).b).length : Int) else a2)) [(2, (si (if (((lk_vdisk_file a1 r1.2.1.files).b).length : Int) < a2 then (((lk_vdisk_file a1 r1.2.1.files).b).length : Int) else a2)))]), (ft 5 32 (si (if (((lk_vdisk_file a1 r1.2.1.files).b).length : Int) < a2 then (((lk_vdisk_file a1 r1.2.1.files).b).length : Int) else a2)) [(2, (si (if (((lk_vdisk_file a1 r1.2.1.files).b).length : Int) < a2 then (((lk_vdisk_file a1 r1.2.1.files).b).length : Int) else a2)))]), (ft 6 33 (D.one (C.p false (.sl (sub ((lk_vdisk_file a1 r1.2.1.files).b) 0 (if (((lk_vdisk_file a1 r1.2.1.files).b).length : Int) < a2 then (((lk_vdisk_file a1 r1.2.1.files).b).length : Int) else a2)).length ((sub ((lk_vdisk_file a1 r1.2.1.files).b) 0 (if (((lk_vdisk_file a1 r1.2.1.files).b).length : Int) < a2 then (((lk_vdisk_file a1 r1.2.1.files).b).length : Int) else a2)).flatMap e_u8)))) [(30, (D.one (C.p false (.sl ((lk_vdisk_file a1 r1.2.1.files).b).length (((lk_vdisk_file a1 r1.2.1.files).b).flatMap e_u8))))), (31, (si (if (((lk_vdisk_file a1 r1.2.1.files).b).length : Int) < a2 then (((lk_vdisk_file a1 r1.2.1.files).b).length : Int) else a2))), (32, (si (if (((lk_vdisk_file a1 r1.2.1.files).b).length : Int) < a2 then (((lk_vdisk_file a1 r1.2.1.files).b).length : Int) else a2)))]), (ft 7 34 (si (if (((lk_vdisk_file a1 r1.2.1.files).b).length : Int) < a2 then (((lk_vdisk_file a1 r1.2.1.files).b).length : Int) else a2)) [(2, (si (if (((lk_vdisk_file a1 r1.2.1.files).b).length : Int) < a2 then (((lk_vdisk_file a1 r1.2.1.files).b).length : Int) else a2)))]), (ft 8 35 (rf 3 1) [(8, (rf 3 0))]), (9, ⟨some 36, (si ((lk_vdisk_file a1 r1.2.1.files).sure)), [(35, (rf 3 1))], [(3, (some (AObj.cells true (c_vdisk_file (lk_vdisk_file a1 r1.2.1.files)))))], [], none⟩), (ft 10 37 (si (if ((lk_vdisk_file a1 r1.2.1.files).sure) < (if (((lk_vdisk_file a1 r1.2.1.files).b).length : Int) < a2 then (((lk_vdisk_file a1 r1.2.1.files).b).length : Int) else a2) then ((lk_vdisk_file a1 r1.2.1.files).sure) else (if (((lk_vdisk_file a1 r1.2.1.files).b).length : Int) < a2 then (((lk_vdisk_file a1 r1.2.1.files).b).length : Int) else a2))) [(34, (si (if (((lk_vdisk_file a1 r1.2.1.files).b).length : Int) < a2 then (((lk_vdisk_file a1 r1.2.1.files).b).length : Int) else a2))), (36, (si ((lk_vdisk_file a1 r1.2.1.files).sure)))]), (ft 11 38 (D.agg [(C.p false (.sl (sub ((lk_vdisk_file a1 r1.2.1.files).b) 0 (if (((lk_vdisk_file a1 r1.2.1.files).b).length : Int) < a2 then (((lk_vdisk_file a1 r1.2.1.files).b).length : Int) else a2)).length ((sub ((lk_vdisk_file a1 r1.2.1.files).b) 0 (if (((lk_vdisk_file a1 r1.2.1.files).b).length : Int) < a2 then (((lk_vdisk_file a1 r1.2.1.files).b).length : Int) else a2)).flatMap e_u8))), (ci (if ((lk_vdisk_file a1 r1.2.1.files).sure) < (if (((lk_vdisk_file a1 r1.2.1.files).b).length : Int) < a2 then (((lk_vdisk_file a1 r1.2.1.files).b).length : Int) else a2) then ((lk_vdisk_file a1 r1.2.1.files).sure) else (if (((lk_vdisk_file a1 r1.2.1.files).b).length : Int) < a2 then (((lk_vdisk_file a1 r1.2.1.files).b).length : Int) else a2)))]) [(33, (D.one (C.p false (.sl (sub ((lk_vdisk_file a1 r1.2.1.files).b) 0 (if (((lk_vdisk_file a1 r1.2.1.files).b).length : Int) < a2 then (((lk_vdisk_file a1 r1.2.1.files).b).length : Int) else a2)).length ((sub ((lk_vdisk_file a1 r1.2.1.files).b) 0 (if (((lk_vdisk_file a1 r1.2.1.files).b).length : Int) < a2 then (((lk_vdisk_file a1 r1.2.1.files).b).length : Int) else a2)).flatMap e_u8))))), (37, (si (if ((lk_vdisk_file a1 r1.2.1.files).sure) < (if (((lk_vdisk_file a1 r1.2.1.files).b).length : Int) < a2 then (((lk_vdisk_file a1 r1.2.1.files).b).length : Int) else a2) then ((lk_vdisk_file a1 r1.2.1.files).sure) else (if (((lk_vdisk_file a1 r1.2.1.files).b).length : Int) < a2 then (((lk_vdisk_file a1 r1.2.1.files).b).length : Int) else a2))))]), (12, ⟨some 39, (D.tup []), [(27, (rf 0 0)), (28, (st_ a1)), (38, (D.agg [(C.p false (.sl (sub ((lk_vdisk_file a1 r1.2.1.files).b) 0 (if (((lk_vdisk_file a1 r1.2.1.files).b).length : Int) < a2 then (((lk_vdisk_file a1 r1.2.1.files).b).length : Int) else a2)).length ((sub ((lk_vdisk_file a1 r1.2.1.files).b) 0 (if (((lk_vdisk_file a1 r1.2.1.files).b).length : Int) < a2 then (((lk_vdisk_file a1 r1.2.1.files).b).length : Int) else a2)).flatMap e_u8))), (ci (if ((lk_vdisk_file a1 r1.2.1.files).sure) < (if (((lk_vdisk_file a1 r1.2.1.files).b).length : Int) < a2 then (((lk_vdisk_file a1 r1.2.1.files).b).length : Int) else a2) then ((lk_vdisk_file a1 r1.2.1.files).sure) else (if (((lk_vdisk_file a1 r1.2.1.files).b).length : Int) < a2 then (((lk_vdisk_file a1 r1.2.1.files).b).length : Int) else a2)))]))], [(0, (o_vdisk_Disk_03 false (C.mp 1) (C.ref 2 0) r1.2.1)), (1, (om_ e_vdisk_file r1.2.1.files)), (2, (bx r1.2.2))], [(0, (o_vdisk_Disk_03 false (C.mp 1) (C.ref 2 0) r4)), (1, (om_ e_vdisk_file r4.files))], none⟩)] [[], [], [], [2], [], [], [2, 3, 4, 5], [], [], [8], [7, 8, 9], [2, 3, 4, 5, 6, 7, 8, 9, 10], (.range 12)] (nl rfl) [0, 0, 0, 1, 0, 0, 2, 0, 0, 1, 2, 3, 4] rfl (TK := []) rfl AllK.nil' (by repeat (first | refine fC ⟨?_, ?_⟩ ?_ | refine sC rfl ?_ | refine hC rfl ?_ | trivial)) ?_ ?_
  ·refine y8 ?_ ?_ ?_ ?_ ?_ ?_ ?_ ?_ (y4 ?_ ?_ ?_ ?_ (pC ?_ yN))
   ·intro K _ f w u k
    show Wp K ⟨41, (upd 41 f 0 (rf 0 0)), _⟩
    refine s_move (d := (rf 0 0)) rfl k
   ·intro K _ f w u k
    show Wp K ⟨41, (upd 41 f 1 (st_ a1)), _⟩
    refine s_move (d := (st_ a1)) rfl k
   ·intro K _ f w u k
    show Wp K ⟨41, (upd 41 f 8 (rf 3 0)), [_, _, _, _, _]⟩
    refine s_fieldRef F.fo_65_0 (by decide) rfl k
   ·intro K _ f w u k
    show Wp K ⟨41, (upd 41 f 29 (rf 3 0)), [_, _, _, (some (AObj.cells true (c_vdisk_file (lk_vdisk_file a1 r1.2.1.files)))), _]⟩
    refine s_load1 (c' := (C.p false (.sl ((lk_vdisk_file a1 r1.2.1.files).b).length (((lk_vdisk_file a1 r1.2.1.files).b).flatMap e_u8)))) F.ag_22 rfl rfl k
   ·intro K _ f w u k
    show Wp K ⟨41, (upd 41 f 2 (si (if (((lk_vdisk_file a1 r1.2.1.files).b).length : Int) < a2 then (((lk_vdisk_file a1 r1.2.1.files).b).length : Int) else a2))), _⟩
    refine s_move (d := (si (if (((lk_vdisk_file a1 r1.2.1.files).b).length : Int) < a2 then (((lk_vdisk_file a1 r1.2.1.files).b).length : Int) else a2))) rfl k
   ·intro K _ f w u k
    show Wp K ⟨41, (upd 41 f 2 (si (if (((lk_vdisk_file a1 r1.2.1.files).b).length : Int) < a2 then (((lk_vdisk_file a1 r1.2.1.files).b).length : Int) else a2))), _⟩
    refine s_move (d := (si (if (((lk_vdisk_file a1 r1.2.1.files).b).length : Int) < a2 then (((lk_vdisk_file a1 r1.2.1.files).b).length : Int) else a2))) rfl k
   ·intro K _ f w u k
    show Wp K ⟨41, (upd 41 (upd 41 (upd 41 f 32 (si (if (((lk_vdisk_file a1 r1.2.1.files).b).length : Int) < a2 then (((lk_vdisk_file a1 r1.2.1.files).b).length : Int) else a2))) 31 (si (if (((lk_vdisk_file a1 r1.2.1.files).b).length : Int) < a2 then (((lk_vdisk_file a1 r1.2.1.files).b).length : Int) else a2))) 30 (D.one (C.p false (.sl ((lk_vdisk_file a1 r1.2.1.files).b).length (((lk_vdisk_file a1 r1.2.1.files).b).flatMap e_u8))))), [_, _, _, _, _]⟩
    refine t_slice3Imm F.u_22 F.sz_5 e_u8_len rfl rfl rfl (by omega) (by omega) k
   ·intro K _ f w u k
    show Wp K ⟨41, (upd 41 f 2 (si (if (((lk_vdisk_file a1 r1.2.1.files).b).length : Int) < a2 then (((lk_vdisk_file a1 r1.2.1.files).b).length : Int) else a2))), _⟩
    refine s_move (d := (si (if (((lk_vdisk_file a1 r1.2.1.files).b).length : Int) < a2 then (((lk_vdisk_file a1 r1.2.1.files).b).length : Int) else a2))) rfl k
   ·intro K _ f w u k
    show Wp K ⟨41, (upd 41 f 8 (rf 3 0)), [_, _, _, _, _]⟩
    refine s_fieldRef F.fo_65_1 (by decide) rfl k
   ·intro K _ f w u k
    show Wp K ⟨41, (upd 41 f 35 (rf 3 1)), [_, _, _, (some (AObj.cells true (c_vdisk_file (lk_vdisk_file a1 r1.2.1.files)))), _]⟩
    refine s_load1 (c' := (ci ((lk_vdisk_file a1 r1.2.1.files).sure))) F.ag_3 rfl rfl k
   ·intro K _ f w u k
    show Wp K ⟨41, (upd 41 (upd 41 f 36 (si ((lk_vdisk_file a1 r1.2.1.files).sure))) 34 (si (if (((lk_vdisk_file a1 r1.2.1.files).b).length : Int) < a2 then (((lk_vdisk_file a1 r1.2.1.files).b).length : Int) else a2))), [_, _, _, _, _]⟩
    refine s_min2 (r := (if ((lk_vdisk_file a1 r1.2.1.files).sure) < (if (((lk_vdisk_file a1 r1.2.1.files).b).length : Int) < a2 then (((lk_vdisk_file a1 r1.2.1.files).b).length : Int) else a2) then ((lk_vdisk_file a1 r1.2.1.files).sure) else (if (((lk_vdisk_file a1 r1.2.1.files).b).length : Int) < a2 then (((lk_vdisk_file a1 r1.2.1.files).b).length : Int) else a2))) rfl rfl rfl k
   ·intro K _ f w u k
    show Wp K ⟨41, (upd 41 (upd 41 f 37 (si (if ((lk_vdisk_file a1 r1.2.1.files).sure) < (if (((lk_vdisk_file a1 r1.2.1.files).b).length : Int) < a2 then (((lk_vdisk_file a1 r1.2.1.files).b).length : Int) else a2) then ((lk_vdisk_file a1 r1.2.1.files).sure) else (if (((lk_vdisk_file a1 r1.2.1.files).b).length : Int) < a2 then (((lk_vdisk_file a1 r1.2.1.files).b).length : Int) else a2)))) 33 (D.one (C.p false (.sl (sub ((lk_vdisk_file a1 r1.2.1.files).b) 0 (if (((lk_vdisk_file a1 r1.2.1.files).b).length : Int) < a2 then (((lk_vdisk_file a1 r1.2.1.files).b).length : Int) else a2)).length ((sub ((lk_vdisk_file a1 r1.2.1.files).b) 0 (if (((lk_vdisk_file a1 r1.2.1.files).b).length : Int) < a2 then (((lk_vdisk_file a1 r1.2.1.files).b).length : Int) else a2)).flatMap e_u8))))), [_, _, _, _, _]⟩
    refine s_build (ps := [(0, (D.one (C.p false (.sl (sub ((lk_vdisk_file a1 r1.2.1.files).b) 0 (if (((lk_vdisk_file a1 r1.2.1.files).b).length : Int) < a2 then (((lk_vdisk_file a1 r1.2.1.files).b).length : Int) else a2)).length ((sub ((lk_vdisk_file a1 r1.2.1.files).b) 0 (if (((lk_vdisk_file a1 r1.2.1.files).b).length : Int) < a2 then (((lk_vdisk_file a1 r1.2.1.files).b).length : Int) else a2)).flatMap e_u8))))), (1, (si (if ((lk_vdisk_file a1 r1.2.1.files).sure) < (if (((lk_vdisk_file a1 r1.2.1.files).b).length : Int) < a2 then (((lk_vdisk_file a1 r1.2.1.files).b).length : Int) else a2) then ((lk_vdisk_file a1 r1.2.1.files).sure) else (if (((lk_vdisk_file a1 r1.2.1.files).b).length : Int) < a2 then (((lk_vdisk_file a1 r1.2.1.files).b).length : Int) else a2))))]) (cs := [(C.p false (.sl (sub ((lk_vdisk_file a1 r1.2.1.files).b) 0 (if (((lk_vdisk_file a1 r1.2.1.files).b).length : Int) < a2 then (((lk_vdisk_file a1 r1.2.1.files).b).length : Int) else a2)).length ((sub ((lk_vdisk_file a1 r1.2.1.files).b) 0 (if (((lk_vdisk_file a1 r1.2.1.files).b).length : Int) < a2 then (((lk_vdisk_file a1 r1.2.1.files).b).length : Int) else a2)).flatMap e_u8))), (ci (if ((lk_vdisk_file a1 r1.2.1.files).sure) < (if (((lk_vdisk_file a1 r1.2.1.files).b).length : Int) < a2 then (((lk_vdisk_file a1 r1.2.1.files).b).length : Int) else a2) then ((lk_vdisk_file a1 r1.2.1.files).sure) else (if (((lk_vdisk_file a1 r1.2.1.files).b).length : Int) < a2 then (((lk_vdisk_file a1 r1.2.1.files).b).length : Int) else a2)))]) F.z_65 rfl F.so_65 rfl rfl k
   ·intro K _ f w u k
    show Wp K ⟨41, (upd 41 (upd 41 (upd 41 f 38 (D.agg [(C.p false (.sl (sub ((lk_vdisk_file a1 r1.2.1.files).b) 0 (if (((lk_vdisk_file a1 r1.2.1.files).b).length : Int) < a2 then (((lk_vdisk_file a1 r1.2.1.files).b).length : Int) else a2)).length ((sub ((lk_vdisk_file a1 r1.2.1.files).b) 0 (if (((lk_vdisk_file a1 r1.2.1.files).b).length : Int) < a2 then (((lk_vdisk_file a1 r1.2.1.files).b).length : Int) else a2)).flatMap e_u8))), (ci (if ((lk_vdisk_file a1 r1.2.1.files).sure) < (if (((lk_vdisk_file a1 r1.2.1.files).b).length : Int) < a2 then (((lk_vdisk_file a1 r1.2.1.files).b).length : Int) else a2) then ((lk_vdisk_file a1 r1.2.1.files).sure) else (if (((lk_vdisk_file a1 r1.2.1.files).b).length : Int) < a2 then (((lk_vdisk_file a1 r1.2.1.files).b).length : Int) else a2)))])) 28 (st_ a1)) 27 (rf 0 0)), [(o_vdisk_Disk_03 false (C.mp 1) (C.ref 2 0) r1.2.1), (om_ e_vdisk_file r1.2.1.files), (bx r1.2.2), _, _]⟩
    refine cc [0, 1, 2] [(o_vdisk_Disk_03 false (C.mp 1) (C.ref 2 0) r4), (om_ e_vdisk_file r4.files), (bx r1.2.2), (w 3), (w 4)] (D.tup []) F.ca_33 rfl rfl (ac (.one (.ref rfl)) (ac (.one .sc) (ac (LendT.aggL (ac .imm (ac .sc an))) an))) (ac (.cells (ac (.mp rfl) (ac .sc (ac .sc (ac (.ref rfl) (ac .sc an)))))) (ac .map (ac (.cells (ac .sc an)) an))) (vdisk_Disk_set_33.meets _ r1.2.1 a1 (⟨sub ((lk_vdisk_file a1 r1.2.1.files).b) 0 (if (((lk_vdisk_file a1 r1.2.1.files).b).length : Int) < a2 then (((lk_vdisk_file a1 r1.2.1.files).b).length : Int) else a2), (if ((lk_vdisk_file a1 r1.2.1.files).sure) < (if (((lk_vdisk_file a1 r1.2.1.files).b).length : Int) < a2 then (((lk_vdisk_file a1 r1.2.1.files).b).length : Int) else a2) then ((lk_vdisk_file a1 r1.2.1.files).sure) else (if (((lk_vdisk_file a1 r1.2.1.files).b).length : Int) < a2 then (((lk_vdisk_file a1 r1.2.1.files).b).length : Int) else a2))⟩ : vdisk_file) r1.2.2 r4 er4) k
  ·refine AWops.weak (st' := ⟨41, (upd 41 topF 7 (si r1.1)), [(o_vdisk_Disk_03 false (C.mp 1) (C.ref 2 0) r4), (om_ e_vdisk_file r4.files), (bx r1.2.2)]⟩) (wg 3 [0, 1, 2] [] hx (le_upd (le_top _) (o1 .sc)) (ac (qr rfl rfl) (ac .map (ac qb an)))) (AWops.nil (AW.seq (AW.region ?_)))
   refine s_move (d := (si r1.1)) rfl (s_assign (d := (si r1.1)) rfl (AWops.nil (AW.ret ?_)))
   obtain rfl := Option.some.inj h
   exact ⟨_, rfl, (wg 3 [0, 1, 2] [] rfl (le_upd (le_top _) (o1 .sc)) (ac (qr rfl rfl) (ac .map (ac qb an))))⟩
 ·refine AW.cond_no rfl c2 (AW.skip (AW.seq (AW.region ?_)))
  refine s_move (d := (si r1.1)) rfl (s_assign (d := (si r1.1)) rfl (AWops.nil (AW.ret ?_)))
  obtain rfl := Option.some.inj h
  exact ⟨_, rfl, (wg 3 [0, 1, 2] [] rfl (le_upd (le_top _) (o1 .sc)) (ac (qr rfl rfl) (ac .map (ac qb an))))⟩
def vdisk_Disk_Remove_20.f (k : Nat) (p0 : vdisk_Disk) (a1 : ByteArray) (p2 : Int) : Option (Int × vdisk_Disk × Int) := (vdisk_Disk_change_31.f k p0 true a1 false 0 p2).bind fun r1 => if (r1.1 == 0) = true then ((vdisk_Disk_cut_46.f k r1.2.1 a1 r1.2.2).bind fun r3 => some (r1.1, r3, r1.2.2)) else (some (r1.1, r1.2.1, r1.2.2))
theorem vdisk_Disk_Remove_20.meets (k : Nat) (p0 : vdisk_Disk) (a1 : ByteArray) (p2 : Int) (r : Int × vdisk_Disk × Int) (h : vdisk_Disk_Remove_20.f k p0 a1 p2 = some r) : Meets Try.prog 20 [(rf 0 0), (st_ a1)] [(o_vdisk_Disk_03 false (C.mp 1) (C.ref 2 0) p0), (om_ e_vdisk_file p0.files), (bx p2)] (si r.1) [(o_vdisk_Disk_03 false (C.mp 1) (C.ref 2 0) r.2.1), (om_ e_vdisk_file r.2.1.files), (bx r.2.2)] := by
 unfold vdisk_Disk_Remove_20.f at h
 refine Meets.of_body (n := 15) Try.func20 rfl rfl (nl rfl) fun x hx => ?_
 replace hx : x.k = 3 := hx
 show AW _ x _ _ ⟨15, fr0 [(rf 0 0), (st_ a1)], [(o_vdisk_Disk_03 false (C.mp 1) (C.ref 2 0) p0), (om_ e_vdisk_file p0.files), (bx p2)]⟩
 refine AW.seq (AW.region ?_)
 refine s_assign (d := (si 0)) rfl (AWops.nil (AW.seq (AW.region ?_)))
 refine s_move (d := (rf 0 0)) rfl (s_move (d := (st_ a1)) rfl ?_)
 obtain ⟨r1, er1, h⟩ := bnd h
 refine cc [0, 1, 2] [(o_vdisk_Disk_03 false (C.mp 1) (C.ref 2 0) r1.2.1), (om_ e_vdisk_file r1.2.1.files), (bx r1.2.2)] (si r1.1) F.ca_31 rfl rfl (ac (.one (.ref rfl)) (ac (.one .sc) (ac (.one .sc) (ac (.one .sc) (ac (.one .sc) an))))) (ac (.cells (ac (.mp rfl) (ac .sc (ac .sc (ac (.ref rfl) (ac .sc an)))))) (ac .map (ac (.cells (ac .sc an)) an))) (vdisk_Disk_change_31.meets _ p0 true a1 false 0 p2 r1 er1) (s_assign (d := (si r1.1)) rfl (AWops.nil (AW.seq (AW.seq (AW.region (s_move (d := (si r1.1)) rfl (s_binI (v := (.bool (r1.1 == 0))) rfl rfl rfl (AWops.nil ?_))))))))
 rcases itH h with ⟨c2, h⟩ | ⟨c2, h⟩
 ·refine AW.cond_yes rfl c2 (AW.region ?_)
  refine s_move (d := (rf 0 0)) rfl (s_move (d := (st_ a1)) rfl ?_)
  obtain ⟨r3, er3, h⟩ := bnd h
  refine cc [0, 1, 2] [(o_vdisk_Disk_03 false (C.mp 1) (C.ref 2 0) r3), (om_ e_vdisk_file r3.files), (bx r1.2.2)] (D.tup []) F.ca_46 rfl rfl (ac (.one (.ref rfl)) (ac (.one .sc) an)) (ac (.cells (ac (.mp rfl) (ac .sc (ac .sc (ac (.ref rfl) (ac .sc an)))))) (ac .map (ac (.cells (ac .sc an)) an))) (vdisk_Disk_cut_46.meets _ r1.2.1 a1 r1.2.2 r3 er3) (AWops.nil (AW.seq (AW.region ?_)))
  refine s_move (d := (si r1.1)) rfl (s_assign (d := (si r1.1)) rfl (AWops.nil (AW.ret ?_)))
  obtain rfl := Option.some.inj h
  exact ⟨_, rfl, (wg 3 [0, 1, 2] [] rfl (le_upd (le_top _) (o1 .sc)) (ac (qr rfl rfl) (ac .map (ac qb an))))⟩
 ·refine AW.cond_no rfl c2 (AW.skip (AW.seq (AW.region ?_)))
  refine s_move (d := (si r1.1)) rfl (s_assign (d := (si r1.1)) rfl (AWops.nil (AW.ret ?_)))
  obtain rfl := Option.some.inj h
  exact ⟨_, rfl, (wg 3 [0, 1, 2] [] rfl (le_upd (le_top _) (o1 .sc)) (ac (qr rfl rfl) (ac .map (ac qb an))))⟩
def vdisk_Disk_Fuse_21x.f (k : Nat) (p0 : vdisk_Disk) (b0_3 : Int) (a1 : Int) : Option (Int × vdisk_Disk × Int) := (vdisk_Disk_none_35.f k p0 b0_3).bind fun r1 => if (decide (a1 < 0)) = true then (some (1, p0, b0_3)) else (some (0, p0, a1))
theorem vdisk_Disk_Fuse_21x.meets (k : Nat) (p0 : vdisk_Disk) (b0_3 : Int) (a1 : Int) (r : Int × vdisk_Disk × Int) (h : vdisk_Disk_Fuse_21x.f k p0 b0_3 a1 = some r) : Meets Try.prog 21 [(rf 0 0), (si a1)] [(o_vdisk_Disk_03 false (C.mp 1) (C.ref 2 0) p0), (om_ e_vdisk_file p0.files), (bx b0_3)] (si r.1) [(o_vdisk_Disk_03 false (C.mp 1) (C.ref 3 0) r.2.1), (om_ e_vdisk_file r.2.1.files), none, (bx r.2.2)] := by
 unfold vdisk_Disk_Fuse_21x.f at h
 refine Meets.of_body (n := 14) Try.func21 rfl rfl (nl rfl) fun x hx => ?_
 replace hx : x.k = 3 := hx
 show AW _ x _ _ ⟨14, fr0 [(rf 0 0), (si a1)], [(o_vdisk_Disk_03 false (C.mp 1) (C.ref 2 0) p0), (om_ e_vdisk_file p0.files), (bx b0_3)]⟩
 refine AW.weak (st' := ⟨14, (upd 14 (upd 14 topF 0 (rf 0 0)) 1 (si a1)), [(o_vdisk_Disk_03 false (C.mp 1) (C.ref 3 0) p0), (om_ e_vdisk_file p0.files), none, (bx b0_3)]⟩) (Weak.genL (kk := 3) [0, 1, 2, 2] [] hx rfl (by decide) rfl rfl rfl rfl (le_upd (le_upd (le_top _) (o1 (.ref rfl))) (o1 .sc)) (ac (qr rfl rfl) (ac .map (ac (.none _) (ac qb an))))) (AW.seq (AW.region ?_))
 refine s_box (cs := [(ci a1)]) rfl (List.cons_ne_nil _ _) rfl (s_assign (d := (si 0)) rfl (AWops.nil (AW.seq (AW.block (AW.seq (AW.region (s_move (d := (rf 0 0)) rfl ?_)))))))
 obtain ⟨r1, er1, h⟩ := bnd h
 have kr1 := vdisk_Disk_none_35.const er1
 subst kr1
 refine cc [0, 1, 3] [(o_vdisk_Disk_03 false (C.mp 1) (C.ref 3 0) p0), (om_ e_vdisk_file p0.files), none, (bx b0_3), (some (AObj.cells true [(ci a1)]))] (sb false) F.ca_35 rfl rfl (ac (.one (.ref rfl)) an) (ac (.cells (ac (.mp rfl) (ac .sc (ac .sc (ac (.ref rfl) (ac .sc an)))))) (ac .map (ac (.cells (ac .sc an)) an))) (vdisk_Disk_none_35.meets _ p0 b0_3 false er1) (s_assign (d := (sb false)) rfl (AWops.nil ?_))
 refine AW.cond_no rfl rfl (AW.seq (AW.region ?_))
 refine s_load1 (c' := (ci a1)) F.ag_3 rfl rfl (s_binI (v := (.bool (decide (a1 < 0)))) rfl rfl rfl (s_assign (d := (sb (decide (a1 < 0)))) rfl (AWops.nil ?_)))
 rcases itH h with ⟨c2, h⟩ | ⟨c2, h⟩
 ·refine AW.cond_yes rfl c2 (AW.seq (AW.region ?_))
  refine s_assign (d := (si 1)) rfl (AWops.nil (AW.ret ?_))
  obtain rfl := Option.some.inj h
  exact ⟨_, rfl, (wg 3 [0, 1, 2, 3] [] rfl (le_upd (le_top _) (o1 .sc)) (ac (qr rfl rfl) (ac .map (ac (.none _) (ac qb an)))))⟩
 ·refine AW.cond_no rfl c2 (AW.skip (AW.seq (AW.region ?_)))
  refine s_move (d := (rf 0 0)) rfl (s_nilCheck (d := (rf 0 0)) rfl (.inl ⟨_, _, rfl⟩) (s_fieldRef F.fo_50_3 (by decide) rfl (s_store (cs' := [(C.mp 1), (ci p0.room), (ci p0.used), (C.ref 4 0), (cb p0.dead)]) rfl rfl rfl (List.cons_ne_nil _ _) rfl F.sz_48 (nl rfl) rfl (AWops.nil (AW.seq (AW.region (s_assign (d := (si 0)) rfl (AWops.nil (AW.ret ?_)))))))))
  obtain rfl := Option.some.inj h
  exact ⟨_, rfl, (wg 3 [0, 1, 2, 4] [] rfl (le_upd (le_top _) (o1 .sc)) (ac (qr rfl rfl) (ac .map (ac (.none _) (ac (.cells (fun _ => rfl) (ac .sc an)) an)))))⟩
def vdisk_Disk_Names_24.f (k : Nat) (p0 : vdisk_Disk) (p2 : Int) : Option (List ByteArray) := (vdisk_Disk_none_35.f k p0 p2).bind fun r1 => if (okK p0.files) = true then (some (sortK p0.files)) else none
theorem vdisk_Disk_Names_24.meets (k : Nat) (p0 : vdisk_Disk) (p2 : Int) (r : (List ByteArray)) (h : vdisk_Disk_Names_24.f k p0 p2 = some r) : Meets Try.prog 24 [(rf 0 0)] [(o_vdisk_Disk_03 false (C.mp 1) (C.ref 2 0) p0), (om_ e_vdisk_file p0.files), (bx p2)] (D.one (C.own 3 0 r.length 1)) [(o_vdisk_Disk_03 false (C.mp 1) (C.ref 2 0) p0), (om_ e_vdisk_file p0.files), (bx p2), (ow_ e_str r)] := by
 unfold vdisk_Disk_Names_24.f at h
 refine Meets.of_body (n := 11) Try.func24 rfl rfl (nl rfl) fun x hx => ?_
 replace hx : x.k = 3 := hx
 show AW _ x _ _ ⟨11, fr0 [(rf 0 0)], [(o_vdisk_Disk_03 false (C.mp 1) (C.ref 2 0) p0), (om_ e_vdisk_file p0.files), (bx p2)]⟩
 refine AW.seq (AW.region ?_)
 refine s_assign (d := (sc (.slice none 0 0))) rfl (AWops.nil (AW.seq (AW.seq (AW.region ?_))))
 refine s_move (d := (rf 0 0)) rfl ?_
 obtain ⟨r1, er1, h⟩ := bnd h
 have kr1 := vdisk_Disk_none_35.const er1
 subst kr1
 refine cc [0, 1, 2] [(o_vdisk_Disk_03 false (C.mp 1) (C.ref 2 0) p0), (om_ e_vdisk_file p0.files), (bx p2)] (sb false) F.ca_35 rfl rfl (ac (.one (.ref rfl)) an) (ac (.cells (ac (.mp rfl) (ac .sc (ac .sc (ac (.ref rfl) (ac .sc an)))))) (ac .map (ac (.cells (ac .sc an)) an))) (vdisk_Disk_none_35.meets _ p0 p2 false er1) (AWops.nil ?_)
 refine AW.cond_no rfl rfl (AW.skip (AW.seq (AW.region ?_)))
 refine s_move (d := (rf 0 0)) rfl (s_nilCheck (d := (rf 0 0)) rfl (.inl ⟨_, _, rfl⟩) (s_fieldRef F.fo_50_0 (by decide) rfl (s_load1 (c' := (C.mp 1)) F.ag_47 rfl rfl (cc [1] [(o_vdisk_Disk_03 false (C.mp 1) (C.ref 2 0) p0), (om_ e_vdisk_file p0.files), (bx p2), (some (AObj.cells true [(C.mp 1)]))] (D.one (C.clo 62 [(C.ref 3 0)])) F.ca_48 rfl rfl (ac (.one (.mp rfl)) an) (ac .map an) (SK.keys _) ?_))))
 obtain ⟨c2, h⟩ := gdH h
 refine cc [3, 1] [(o_vdisk_Disk_03 false (C.mp 1) (C.ref 2 0) p0), (om_ e_vdisk_file p0.files), (bx p2), (some (AObj.cells true [(C.mp 1)])), (some (AObj.cells true (rowC e_str (sortK p0.files))))] (D.one (C.own 4 0 ((sortK p0.files).length) 1)) F.ca_47 rfl rfl (ac (.one (LendC.cloL (ac (.ref rfl) an))) an) (ac (.cells (ac (.mp rfl) an)) (ac .map an)) (SK.sorted (b := true) (f := e_vdisk_file) c2) (s_assign (d := (D.one (C.own 4 0 ((sortK p0.files).length) 1))) rfl (AWops.nil (AW.ret ?_)))
 obtain rfl := Option.some.inj h
 exact ⟨_, rfl, (wg 3 [0, 1, 2, 4] [] rfl (le_upd (le_top _) (o1 (.own rfl))) (ac (qr rfl rfl) (ac .map (ac qb (ac (.cells (fun _ => rfl) (all2_row _)) an)))))⟩
mutual
def vdisk_Disk_Crash_11x.l0 : Nat → Int → Int → Bool → (List (ByteArray × vdisk_file)) → Int → Int → (List Int) → (List ByteArray) → Option (Int × vdisk_Disk)
 | 0, _, _, _, _, _, _, _, _ => none
 | k + 1, x3, x4, x5, x6, x7, b0_3, a1, r2 => if (decide (x7 < (r2.length : Int))) = true then ((rd r2 x7).bind fun v9 => if (decide (x7 < (a1.length : Int))) = true then ((rd a1 x7).bind fun v12 => if (decide (v12 > 0)) = true then ((rd a1 x7).bind fun v14 => if (decide (0 ≤ (IntKind.i64.wrap (((lk_vdisk_file v9 x6).sure) + (if (IntKind.i64.wrap ((((lk_vdisk_file v9 x6).b).length : Int) - ((lk_vdisk_file v9 x6).sure))) < v14 then (IntKind.i64.wrap ((((lk_vdisk_file v9 x6).b).length : Int) - ((lk_vdisk_file v9 x6).sure))) else v14))) ∧ (IntKind.i64.wrap (((lk_vdisk_file v9 x6).sure) + (if (IntKind.i64.wrap ((((lk_vdisk_file v9 x6).b).length : Int) - ((lk_vdisk_file v9 x6).sure))) < v14 then (IntKind.i64.wrap ((((lk_vdisk_file v9 x6).b).length : Int) - ((lk_vdisk_file v9 x6).sure))) else v14))) ≤ (((lk_vdisk_file v9 x6).b).length : Int))) = true then ((vdisk_Disk_set_33.f k (⟨x6, x3, x4, (), x5⟩ : vdisk_Disk) v9 (⟨sub ((lk_vdisk_file v9 x6).b) 0 (IntKind.i64.wrap (((lk_vdisk_file v9 x6).sure) + (if (IntKind.i64.wrap ((((lk_vdisk_file v9 x6).b).length : Int) - ((lk_vdisk_file v9 x6).sure))) < v14 then (IntKind.i64.wrap ((((lk_vdisk_file v9 x6).b).length : Int) - ((lk_vdisk_file v9 x6).sure))) else v14))), IntKind.i64.wrap (((lk_vdisk_file v9 x6).sure) + (if (IntKind.i64.wrap ((((lk_vdisk_file v9 x6).b).length : Int) - ((lk_vdisk_file v9 x6).sure))) < v14 then (IntKind.i64.wrap ((((lk_vdisk_file v9 x6).b).length : Int) - ((lk_vdisk_file v9 x6).sure))) else v14))⟩ : vdisk_file) b0_3).bind fun r16 => vdisk_Disk_Crash_11x.l0 k r16.room r16.used r16.dead r16.files (IntKind.i64.wrap (x7 + 1)) b0_3 a1 r2) else none) else (if (decide (0 ≤ ((lk_vdisk_file v9 x6).sure) ∧ ((lk_vdisk_file v9 x6).sure) ≤ (((lk_vdisk_file v9 x6).b).length : Int))) = true then ((vdisk_Disk_set_33.f k (⟨x6, x3, x4, (), x5⟩ : vdisk_Disk) v9 (⟨sub ((lk_vdisk_file v9 x6).b) 0 ((lk_vdisk_file v9 x6).sure), (lk_vdisk_file v9 x6).sure⟩ : vdisk_file) b0_3).bind fun r18 => vdisk_Disk_Crash_11x.l0 k r18.room r18.used r18.dead r18.files (IntKind.i64.wrap (x7 + 1)) b0_3 a1 r2) else none)) else (if (decide (0 ≤ ((lk_vdisk_file v9 x6).sure) ∧ ((lk_vdisk_file v9 x6).sure) ≤ (((lk_vdisk_file v9 x6).b).length : Int))) = true then ((vdisk_Disk_set_33.f k (⟨x6, x3, x4, (), x5⟩ : vdisk_Disk) v9 (⟨sub ((lk_vdisk_file v9 x6).b) 0 ((lk_vdisk_file v9 x6).sure), (lk_vdisk_file v9 x6).sure⟩ : vdisk_file) b0_3).bind fun r20 => vdisk_Disk_Crash_11x.l0 k r20.room r20.used r20.dead r20.files (IntKind.i64.wrap (x7 + 1)) b0_3 a1 r2) else none)) else (some (0, (⟨x6, x3, x4, (), false⟩ : vdisk_Disk)))
end
def vdisk_Disk_Crash_11x.f (k : Nat) (p0 : vdisk_Disk) (b0_3 : Int) (a1 : List Int) : Option (Int × vdisk_Disk) := (vdisk_Disk_none_35.f k p0 b0_3).bind fun r1 => (vdisk_Disk_Names_24.f k p0 b0_3).bind fun r2 => vdisk_Disk_Crash_11x.l0 k p0.room p0.used p0.dead p0.files 0 b0_3 a1 r2
theorem vdisk_Disk_Crash_11x.meets (k : Nat) (p0 : vdisk_Disk) (b0_3 : Int) (a1 : List Int) (r : Int × vdisk_Disk) (h : vdisk_Disk_Crash_11x.f k p0 b0_3 a1 = some r) : Meets Try.prog 11 [(rf 0 0), (D.one (C.p false (.sl a1.length (a1.flatMap e_i64))))] [(o_vdisk_Disk_03 false (C.mp 1) (C.ref 2 0) p0), (om_ e_vdisk_file p0.files), (bx b0_3)] (si r.1) [(o_vdisk_Disk_03 false (C.mp 1) (C.p true (.v (.pointer none))) r.2), (om_ e_vdisk_file r.2.files), none] := by
 unfold vdisk_Disk_Crash_11x.f at h
 refine Meets.of_body (n := 69) Try.func11 rfl rfl (nl rfl) fun x hx => ?_
 replace hx : x.k = 3 := hx
 show AW _ x _ _ ⟨69, fr0 [(rf 0 0), (D.one (C.p false (.sl a1.length (a1.flatMap e_i64))))], [(o_vdisk_Disk_03 false (C.mp 1) (C.ref 2 0) p0), (om_ e_vdisk_file p0.files), (bx b0_3)]⟩
 refine AW.weak (st' := ⟨69, (upd 69 (upd 69 topF 0 (rf 0 0)) 1 (D.one (C.p false (.sl a1.length (a1.flatMap e_i64))))), [(o_vdisk_Disk_03 false (C.mp 1) (C.ref 3 0) p0), (om_ e_vdisk_file p0.files), none, (bx b0_3)]⟩) (Weak.genL (kk := 3) [0, 1, 2, 2] [] hx rfl (by decide) rfl rfl rfl rfl (le_upd (le_upd (le_top _) (o1 (.ref rfl))) (o1 .same)) (ac (qr rfl rfl) (ac .map (ac (.none _) (ac qb an))))) (AW.seq (AW.region ?_))
 refine s_assign (d := (si 0)) rfl (AWops.nil (AW.seq (AW.seq (AW.region ?_))))
 refine s_move (d := (rf 0 0)) rfl ?_
 obtain ⟨r1, er1, h⟩ := bnd h
 have kr1 := vdisk_Disk_none_35.const er1
 subst kr1
 refine cc [0, 1, 3] [(o_vdisk_Disk_03 false (C.mp 1) (C.ref 3 0) p0), (om_ e_vdisk_file p0.files), none, (bx b0_3)] (sb false) F.ca_35 rfl rfl (ac (.one (.ref rfl)) an) (ac (.cells (ac (.mp rfl) (ac .sc (ac .sc (ac (.ref rfl) (ac .sc an)))))) (ac .map (ac (.cells (ac .sc an)) an))) (vdisk_Disk_none_35.meets _ p0 b0_3 false er1) (AWops.nil ?_)
 refine AW.cond_no rfl rfl (AW.skip (AW.seq (AW.seq (AW.region ?_))))
 refine s_move (d := (rf 0 0)) rfl ?_
 obtain ⟨r2, er2, h⟩ := bnd h
 refine cc [0, 1, 3] [(o_vdisk_Disk_03 false (C.mp 1) (C.ref 3 0) p0), (om_ e_vdisk_file p0.files), none, (bx b0_3), (ow_ e_str r2)] (D.one (C.own 4 0 r2.length 1)) F.ca_24 rfl rfl (ac (.one (.ref rfl)) an) (ac (.cells (ac (.mp rfl) (ac .sc (ac .sc (ac (.ref rfl) (ac .sc an)))))) (ac .map (ac (.cells (ac .sc an)) an))) (vdisk_Disk_Names_24.meets _ p0 b0_3 r2 er2) (s_len (n := r2.length) F.u_55 rfl (.inr ⟨(fun _ _ h => by cases h), ⟨_, rfl⟩⟩) (s_move (d := (si 0)) rfl (AWops.nil (AW.block ?_))))
 refine AW.loopw (st0 := ⟨69, (upd 69 (upd 69 (upd 69 (upd 69 (upd 69 topF 0 (rf 0 0)) 1 (D.one (C.p false (.sl a1.length (a1.flatMap e_i64))))) 12 (D.one (C.own 3 0 r2.length 1))) 13 (si (r2.length : Int))) 14 (si 0)), [(some (AObj.cells false [(C.mp 1), (ci p0.room), (ci p0.used), (C.ref 4 0), (cb p0.dead)])), (om_ e_vdisk_file p0.files), none, (ow_ e_str r2), (bx b0_3)]⟩) (fun kv st => kv ≤ k ∧ ∃ (x3 : Int) (x4 : Int) (x5 : Bool) (x6 : List (ByteArray × vdisk_file)) (x7 : Int), vdisk_Disk_Crash_11x.l0 kv x3 x4 x5 x6 x7 b0_3 a1 r2 = some r ∧ st = ⟨69, (upd 69 (upd 69 (upd 69 (upd 69 (upd 69 topF 0 (rf 0 0)) 1 (D.one (C.p false (.sl a1.length (a1.flatMap e_i64))))) 12 (D.one (C.own 3 0 r2.length 1))) 13 (si (r2.length : Int))) 14 (si x7)), [(some (AObj.cells false [(C.mp 1), (ci x3), (ci x4), (C.ref 4 0), (cb x5)])), (om_ e_vdisk_file x6), none, (ow_ e_str r2), (bx b0_3)]⟩) (k := k) (wg 3 [0, 1, 2, 4, 3] [] hx (le_upd (le_upd (le_upd (le_upd (le_upd (le_top _) (o1 (.ref rfl))) (o1 .same)) (o1 (.own rfl))) (o1 .sc)) (o1 .sc)) (ac (qr rfl rfl) (ac .map (ac (.none _) (ac (.cells (fun _ => rfl) (all2_row _)) (ac qb an)))))) ⟨Nat.le_refl _, p0.room, p0.used, p0.dead, p0.files, 0, h, rfl⟩ ?_
 rintro ql0 st ⟨hkl0, x3, x4, x5, x6, x7, h, rfl⟩
 cases ql0 with
 | zero => exact absurd h (by simp [vdisk_Disk_Crash_11x.l0])
 | succ ql0 =>
  replace h := (vdisk_Disk_Crash_11x.l0.eq_2 _ _ _ _ _ _ _ _ _).symm.trans h
  refine AW.seq (AW.region ?_)
  refine s_binI (v := (.bool (decide (x7 < (r2.length : Int))))) rfl rfl rfl (AWops.nil (AW.seq ?_))
  rcases itH h with ⟨c8, h⟩ | ⟨c8, h⟩
  ·refine AW.cond_yes rfl c8 (AW.skip (AW.seq (AW.block (AW.seq (AW.region ?_)))))
   refine s_move (d := (si x7)) rfl ?_
   obtain ⟨v9, ev9, h⟩ := bnd h
   obtain ⟨pv9, qv9, gv9⟩ := rd_some ev9
   refine s_indexOwn (d := (D.one (C.ref 3 (0 + x7.toNat * 1)))) F.u_55 F.sz_9 rfl rfl pv9 qv9 rfl ?_
   obtain ⟨R10, hR10⟩ := row_at (f := e_str) (sz := 1) (o := 0) e_str_len gv9 (e_str_eq v9) (by decide)
   refine s_load1 (c' := (ct v9)) F.ag_9 (congrArg some hR10) rfl (s_assign (d := (si x7)) rfl (s_assign (d := (st_ v9)) rfl (AWops.nil (AW.seq (AW.region (s_move (d := (rf 0 0)) rfl (s_nilCheck (d := (rf 0 0)) rfl (.inl ⟨_, _, rfl⟩) (s_fieldRef F.fo_50_0 (by decide) rfl ?_))))))))
   refine s_load1 (c' := (C.mp 1)) F.ag_47 rfl rfl (s_move (d := (st_ v9)) rfl (t_lookup (b := true) F.u_47 F.u_9 F.z_65 (z := ((⟨([] : List Int), 0⟩ : vdisk_file) : vdisk_file)) (zs := [(.slice none 0 0), (.int .i64 0)]) rfl (fun h => by cases h) (ac ZRel.n (ac (ZRel.v _ rfl) an)) rfl rfl rfl rfl (s_alloc (cs := [(C.p true (.v (.slice none 0 0))), (ci 0)]) F.z_65 rfl rfl (s_store (cs' := (c_vdisk_file (lk_vdisk_file v9 x6))) rfl rfl rfl (List.cons_ne_nil _ _) rfl F.sz_65 (nl rfl) rfl (AWops.nil (AW.seq (AW.region (s_fieldRef F.fo_65_1 (by decide) rfl ?_))))))))
   refine s_load1 (c' := (ci ((lk_vdisk_file v9 x6).sure))) F.ag_3 rfl rfl (s_assign (d := (si ((lk_vdisk_file v9 x6).sure))) rfl (AWops.nil (AW.seq (AW.seq (AW.region (s_move (d := (si x7)) rfl (s_move (d := (D.one (C.p false (.sl a1.length (a1.flatMap e_i64))))) rfl (s_len (n := a1.length) F.u_24 rfl (.inr ⟨(fun _ _ h => by cases h), ⟨_, rfl⟩⟩) (s_binI (v := (.bool (decide (x7 < (a1.length : Int))))) rfl rfl rfl ?_)))))))))
   refine s_move (d := (sb (decide (x7 < (a1.length : Int))))) rfl ?_
   rcases itH h with ⟨c11, h⟩ | ⟨c11, h⟩
   ·refine AWops.guard_yes rfl (nl rfl) rfl c11 ?_
    refine s_move (d := (D.one (C.p false (.sl a1.length (a1.flatMap e_i64))))) rfl ?_
    refine AWops.guard_yes rfl (nl rfl) rfl c11 ?_
    refine s_move (d := (si x7)) rfl ?_
    refine AWops.guard_yes rfl (nl rfl) rfl c11 ?_
    obtain ⟨v12, ev12, h⟩ := bnd h
    obtain ⟨pv12, qv12, gv12⟩ := rd_some ev12
    refine s_indexImm (ps := [P.v (.int .i64 v12)]) F.u_24 F.sz_3 rfl rfl pv12 qv12 (flat_at e_i64_len gv12 (e_i64_eq v12)) ?_
    refine AWops.guard_yes rfl (nl rfl) rfl c11 ?_
    refine s_load1 (c' := (ci v12)) F.ag_3 rfl rfl ?_
    refine AWops.guard_yes rfl (nl rfl) rfl c11 ?_
    refine s_binI (v := (.bool (decide (v12 > 0)))) rfl rfl rfl (s_pick_yes (d := (sb (decide (v12 > 0)))) rfl c11 rfl (AWops.nil ?_))
    rcases itH h with ⟨c13, h⟩ | ⟨c13, h⟩
    ·refine AW.cond_yes rfl c13 ?_
     refine AW.weak (st' := ⟨69, (upd 69 (upd 69 (upd 69 (upd 69 (upd 69 (upd 69 (upd 69 (upd 69 (upd 69 (upd 69 (upd 69 (upd 69 (upd 69 (upd 69 topF 0 (rf 0 0)) 1 (D.one (C.p false (.sl a1.length (a1.flatMap e_i64))))) 5 (si x7)) 6 (st_ v9)) 7 (rf 3 0)) 8 (si ((lk_vdisk_file v9 x6).sure))) 12 (D.one (C.own 4 0 r2.length 1))) 13 (si (r2.length : Int))) 14 (si x7)) 32 (D.one (C.p false (.sl a1.length (a1.flatMap e_i64))))) 33 (si x7)) 34 (D.one (C.peek false [P.v (.int .i64 v12)]))) 35 (si v12)) 36 (sb (decide (v12 > 0)))), [(some (AObj.cells false [(C.mp 1), (ci x3), (ci x4), (C.ref 5 0), (cb x5)])), (om_ e_vdisk_file x6), none, (some (AObj.cells true (c_vdisk_file (lk_vdisk_file v9 x6)))), (ow_ e_str r2), (bx b0_3)]⟩) (wg 3 [0, 1, 2, 5, 3, 4] [] hx (le_upd (le_upd (le_upd (le_upd (le_upd (le_upd (le_upd (le_upd (le_upd (le_upd (le_upd (le_upd (le_upd (le_upd (le_top _) (o1 (.ref rfl))) (o1 .same)) (o1 .sc)) (o1 .sc)) (o1 (.ref rfl))) (o1 .sc)) (o1 (.own rfl))) (o1 .sc)) (o1 .sc)) (o1 .same)) (o1 .sc)) (o1 .peek)) (o1 .sc)) (o1 .sc)) (ac (qr rfl rfl) (ac .map (ac (.none _) (ac (.cells (fun _ => rfl) (ac .same (ac .sc an))) (ac (.cells (fun _ => rfl) (all2_row _)) (ac qb an))))))) ?_
     obtain ⟨v14, ev14, h⟩ := bnd h
     obtain ⟨pv14, qv14, gv14⟩ := rd_some ev14
     refine AW.draw (n := 69) (L := 6) [(ft 0 38 (rf 3 1) [(7, (rf 3 0))]), (1, ⟨some 39, (si ((lk_vdisk_file v9 x6).sure)), [(38, (rf 3 1))], [(3, (some (AObj.cells true (c_vdisk_file (lk_vdisk_file v9 x6)))))], [], none⟩), (ft 2 40 (D.one (C.p false (.sl a1.length (a1.flatMap e_i64)))) [(1, (D.one (C.p false (.sl a1.length (a1.flatMap e_i64)))))]), (ft 3 41 (si x7) [(5, (si x7))]), (ft 4 42 (D.one (C.peek false [P.v (.int .i64 v14)])) [(40, (D.one (C.p false (.sl a1.length (a1.flatMap e_i64))))), (41, (si x7))]), (ft 5 43 (si v14) [(42, (D.one (C.peek false [P.v (.int .i64 v14)])))]), (ft 6 44 (rf 3 0) [(7, (rf 3 0))]), (7, ⟨some 45, (D.one (C.p false (.sl ((lk_vdisk_file v9 x6).b).length (((lk_vdisk_file v9 x6).b).flatMap e_u8)))), [(44, (rf 3 0))], [(3, (some (AObj.cells true (c_vdisk_file (lk_vdisk_file v9 x6)))))], [], none⟩), (ft 8 46 (si (((lk_vdisk_file v9 x6).b).length : Int)) [(45, (D.one (C.p false (.sl ((lk_vdisk_file v9 x6).b).length (((lk_vdisk_file v9 x6).b).flatMap e_u8)))))]), (ft 9 47 (rf 3 1) [(7, (rf 3 0))]), (10, ⟨some 48, (si ((lk_vdisk_file v9 x6).sure)), [(47, (rf 3 1))], [(3, (some (AObj.cells true (c_vdisk_file (lk_vdisk_file v9 x6)))))], [], none⟩), (ft 11 49 (si (IntKind.i64.wrap ((((lk_vdisk_file v9 x6).b).length : Int) - ((lk_vdisk_file v9 x6).sure)))) [(46, (si (((lk_vdisk_file v9 x6).b).length : Int))), (48, (si ((lk_vdisk_file v9 x6).sure)))]), (ft 12 50 (si (if (IntKind.i64.wrap ((((lk_vdisk_file v9 x6).b).length : Int) - ((lk_vdisk_file v9 x6).sure))) < v14 then (IntKind.i64.wrap ((((lk_vdisk_file v9 x6).b).length : Int) - ((lk_vdisk_file v9 x6).sure))) else v14)) [(43, (si v14)), (49, (si (IntKind.i64.wrap ((((lk_vdisk_file v9 x6).b).length : Int) - ((lk_vdisk_file v9 x6).sure)))))]), (ft 13 51 (si (IntKind.i64.wrap (((lk_vdisk_file v9 x6).sure) + (if (IntKind.i64.wrap ((((lk_vdisk_file v9 x6).b).length : Int) - ((lk_vdisk_file v9 x6).sure))) < v14 then (IntKind.i64.wrap ((((lk_vdisk_file v9 x6).b).length : Int) - ((lk_vdisk_file v9 x6).sure))) else v14)))) [(39, (si ((lk_vdisk_file v9 x6).sure))), (50, (si (if (IntKind.i64.wrap ((((lk_vdisk_file v9 x6).b).length : Int) - ((lk_vdisk_file v9 x6).sure))) < v14 then (IntKind.i64.wrap ((((lk_vdisk_file v9 x6).b).length : Int) - ((lk_vdisk_file v9 x6).sure))) else v14)))]), (ft 14 8 (si (IntKind.i64.wrap (((lk_vdisk_file v9 x6).sure) + (if (IntKind.i64.wrap ((((lk_vdisk_file v9 x6).b).length : Int) - ((lk_vdisk_file v9 x6).sure))) < v14 then (IntKind.i64.wrap ((((lk_vdisk_file v9 x6).b).length : Int) - ((lk_vdisk_file v9 x6).sure))) else v14)))) [(51, (si (IntKind.i64.wrap (((lk_vdisk_file v9 x6).sure) + (if (IntKind.i64.wrap ((((lk_vdisk_file v9 x6).b).length : Int) - ((lk_vdisk_file v9 x6).sure))) < v14 then (IntKind.i64.wrap ((((lk_vdisk_file v9 x6).b).length : Int) - ((lk_vdisk_file v9 x6).sure))) else v14)))))])] [[], [0], [], [], [2, 3], [2, 3, 4], [], [6], [6, 7], [], [9], [6, 7, 8, 9, 10], [2, 3, 4, 5, 6, 7, 8, 9, 10, 11], (.range 13), (.range 14)] (nl rfl) [0, 1, 0, 0, 1, 2, 0, 1, 2, 0, 1, 3, 4, 5, 6] rfl (TK := []) rfl AllK.nil' (by repeat (first | refine fC ⟨?_, ?_⟩ ?_ | refine sC rfl ?_ | refine hC rfl ?_ | trivial)) ?_ ?_
     ·refine y8 ?_ ?_ ?_ ?_ ?_ ?_ ?_ ?_ (y4 ?_ ?_ ?_ ?_ (y2 ?_ ?_ (pC ?_ yN)))
      ·intro K _ f w u k
       show Wp K ⟨69, (upd 69 f 7 (rf 3 0)), [_, _, _, _, _, _]⟩
       refine s_fieldRef F.fo_65_1 (by decide) rfl k
      ·intro K _ f w u k
       show Wp K ⟨69, (upd 69 f 38 (rf 3 1)), [_, _, _, (some (AObj.cells true (c_vdisk_file (lk_vdisk_file v9 x6)))), _, _]⟩
       refine s_load1 (c' := (ci ((lk_vdisk_file v9 x6).sure))) F.ag_3 rfl rfl k
      ·intro K _ f w u k
       show Wp K ⟨69, (upd 69 f 1 (D.one (C.p false (.sl a1.length (a1.flatMap e_i64))))), _⟩
       refine s_move (d := (D.one (C.p false (.sl a1.length (a1.flatMap e_i64))))) rfl k
      ·intro K _ f w u k
       show Wp K ⟨69, (upd 69 f 5 (si x7)), _⟩
       refine s_move (d := (si x7)) rfl k
      ·intro K _ f w u k
       show Wp K ⟨69, (upd 69 (upd 69 f 41 (si x7)) 40 (D.one (C.p false (.sl a1.length (a1.flatMap e_i64))))), [_, _, _, _, _, _]⟩
       refine s_indexImm (ps := [P.v (.int .i64 v14)]) F.u_24 F.sz_3 rfl rfl pv14 qv14 (flat_at e_i64_len gv14 (e_i64_eq v14)) k
      ·intro K _ f w u k
       show Wp K ⟨69, (upd 69 f 42 (D.one (C.peek false [P.v (.int .i64 v14)]))), [_, _, _, _, _, _]⟩
       refine s_load1 (c' := (ci v14)) F.ag_3 rfl rfl k
      ·intro K _ f w u k
       show Wp K ⟨69, (upd 69 f 7 (rf 3 0)), [_, _, _, _, _, _]⟩
       refine s_fieldRef F.fo_65_0 (by decide) rfl k
      ·intro K _ f w u k
       show Wp K ⟨69, (upd 69 f 44 (rf 3 0)), [_, _, _, (some (AObj.cells true (c_vdisk_file (lk_vdisk_file v9 x6)))), _, _]⟩
       refine s_load1 (c' := (C.p false (.sl ((lk_vdisk_file v9 x6).b).length (((lk_vdisk_file v9 x6).b).flatMap e_u8)))) F.ag_22 rfl rfl k
      ·intro K _ f w u k
       show Wp K ⟨69, (upd 69 f 45 (D.one (C.p false (.sl ((lk_vdisk_file v9 x6).b).length (((lk_vdisk_file v9 x6).b).flatMap e_u8))))), [_, _, _, _, _, _]⟩
       refine s_len (n := ((lk_vdisk_file v9 x6).b).length) F.u_22 rfl (.inr ⟨(fun _ _ h => by cases h), ⟨_, rfl⟩⟩) k
      ·intro K _ f w u k
       show Wp K ⟨69, (upd 69 f 7 (rf 3 0)), [_, _, _, _, _, _]⟩
       refine s_fieldRef F.fo_65_1 (by decide) rfl k
      ·intro K _ f w u k
       show Wp K ⟨69, (upd 69 f 47 (rf 3 1)), [_, _, _, (some (AObj.cells true (c_vdisk_file (lk_vdisk_file v9 x6)))), _, _]⟩
       refine s_load1 (c' := (ci ((lk_vdisk_file v9 x6).sure))) F.ag_3 rfl rfl k
      ·intro K _ f w u k
       show Wp K ⟨69, (upd 69 (upd 69 f 48 (si ((lk_vdisk_file v9 x6).sure))) 46 (si (((lk_vdisk_file v9 x6).b).length : Int))), _⟩
       refine s_binI (v := (.int .i64 (IntKind.i64.wrap ((((lk_vdisk_file v9 x6).b).length : Int) - ((lk_vdisk_file v9 x6).sure))))) rfl rfl rfl k
      ·intro K _ f w u k
       show Wp K ⟨69, (upd 69 (upd 69 f 49 (si (IntKind.i64.wrap ((((lk_vdisk_file v9 x6).b).length : Int) - ((lk_vdisk_file v9 x6).sure))))) 43 (si v14)), [_, _, _, _, _, _]⟩
       refine s_min2 (r := (if (IntKind.i64.wrap ((((lk_vdisk_file v9 x6).b).length : Int) - ((lk_vdisk_file v9 x6).sure))) < v14 then (IntKind.i64.wrap ((((lk_vdisk_file v9 x6).b).length : Int) - ((lk_vdisk_file v9 x6).sure))) else v14)) rfl rfl rfl k
      ·intro K _ f w u k
       show Wp K ⟨69, (upd 69 (upd 69 f 50 (si (if (IntKind.i64.wrap ((((lk_vdisk_file v9 x6).b).length : Int) - ((lk_vdisk_file v9 x6).sure))) < v14 then (IntKind.i64.wrap ((((lk_vdisk_file v9 x6).b).length : Int) - ((lk_vdisk_file v9 x6).sure))) else v14))) 39 (si ((lk_vdisk_file v9 x6).sure))), _⟩
       refine s_binI (v := (.int .i64 (IntKind.i64.wrap (((lk_vdisk_file v9 x6).sure) + (if (IntKind.i64.wrap ((((lk_vdisk_file v9 x6).b).length : Int) - ((lk_vdisk_file v9 x6).sure))) < v14 then (IntKind.i64.wrap ((((lk_vdisk_file v9 x6).b).length : Int) - ((lk_vdisk_file v9 x6).sure))) else v14))))) rfl rfl rfl k
      ·intro K _ f w u k
       show Wp K ⟨69, (upd 69 f 51 (si (IntKind.i64.wrap (((lk_vdisk_file v9 x6).sure) + (if (IntKind.i64.wrap ((((lk_vdisk_file v9 x6).b).length : Int) - ((lk_vdisk_file v9 x6).sure))) < v14 then (IntKind.i64.wrap ((((lk_vdisk_file v9 x6).b).length : Int) - ((lk_vdisk_file v9 x6).sure))) else v14))))), _⟩
       refine s_assign (d := (si (IntKind.i64.wrap (((lk_vdisk_file v9 x6).sure) + (if (IntKind.i64.wrap ((((lk_vdisk_file v9 x6).b).length : Int) - ((lk_vdisk_file v9 x6).sure))) < v14 then (IntKind.i64.wrap ((((lk_vdisk_file v9 x6).b).length : Int) - ((lk_vdisk_file v9 x6).sure))) else v14))))) rfl k
     ·refine AWops.weak (st' := ⟨69, (upd 69 (upd 69 (upd 69 (upd 69 (upd 69 (upd 69 (upd 69 (upd 69 (upd 69 (upd 69 (upd 69 (upd 69 (upd 69 topF 0 (rf 0 0)) 1 (D.one (C.p false (.sl a1.length (a1.flatMap e_i64))))) 6 (st_ v9)) 7 (rf 3 0)) 8 (si (IntKind.i64.wrap (((lk_vdisk_file v9 x6).sure) + (if (IntKind.i64.wrap ((((lk_vdisk_file v9 x6).b).length : Int) - ((lk_vdisk_file v9 x6).sure))) < v14 then (IntKind.i64.wrap ((((lk_vdisk_file v9 x6).b).length : Int) - ((lk_vdisk_file v9 x6).sure))) else v14))))) 12 (D.one (C.own 4 0 r2.length 1))) 13 (si (r2.length : Int))) 14 (si x7)) 32 (D.one (C.p false (.sl a1.length (a1.flatMap e_i64))))) 33 (si x7)) 34 (D.one (C.peek false [P.v (.int .i64 v12)]))) 35 (si v12)) 36 (sb (decide (v12 > 0)))), [(some (AObj.cells false [(C.mp 1), (ci x3), (ci x4), (C.ref 5 0), (cb x5)])), (om_ e_vdisk_file x6), none, (some (AObj.cells true (c_vdisk_file (lk_vdisk_file v9 x6)))), (ow_ e_str r2), (bx b0_3)]⟩) (wg 3 [0, 1, 2, 3, 4, 5] [] hx (le_upd (le_upd (le_upd (le_upd (le_upd (le_upd (le_upd (le_upd (le_upd (le_upd (le_upd (le_upd (le_upd (le_top _) (o1 (.ref rfl))) (o1 .same)) (o1 .sc)) (o1 (.ref rfl))) (o1 .sc)) (o1 (.own rfl))) (o1 .sc)) (o1 .sc)) (o1 .same)) (o1 .sc)) (o1 .peek)) (o1 .sc)) (o1 .sc)) (ac (qr rfl rfl) (ac .map (ac (.none _) (ac (.cells (fun _ => rfl) (ac .same (ac .sc an))) (ac (.cells (fun _ => rfl) (all2_row _)) (ac qb an))))))) (AWops.nil (AW.region ?_))
      refine s_move (d := (rf 0 0)) rfl (s_move (d := (st_ v9)) rfl (s_fieldRef F.fo_65_0 (by decide) rfl (s_load1 (c' := (C.p false (.sl ((lk_vdisk_file v9 x6).b).length (((lk_vdisk_file v9 x6).b).flatMap e_u8)))) F.ag_22 rfl rfl (s_move (d := (si (IntKind.i64.wrap (((lk_vdisk_file v9 x6).sure) + (if (IntKind.i64.wrap ((((lk_vdisk_file v9 x6).b).length : Int) - ((lk_vdisk_file v9 x6).sure))) < v14 then (IntKind.i64.wrap ((((lk_vdisk_file v9 x6).b).length : Int) - ((lk_vdisk_file v9 x6).sure))) else v14))))) rfl (s_move (d := (si (IntKind.i64.wrap (((lk_vdisk_file v9 x6).sure) + (if (IntKind.i64.wrap ((((lk_vdisk_file v9 x6).b).length : Int) - ((lk_vdisk_file v9 x6).sure))) < v14 then (IntKind.i64.wrap ((((lk_vdisk_file v9 x6).b).length : Int) - ((lk_vdisk_file v9 x6).sure))) else v14))))) rfl ?_)))))
      obtain ⟨c15, h⟩ := gdH h
      have dc15 := of_decide_eq_true c15
      refine t_slice3Imm F.u_22 F.sz_5 e_u8_len rfl rfl rfl (by omega) (by omega) (s_move (d := (si (IntKind.i64.wrap (((lk_vdisk_file v9 x6).sure) + (if (IntKind.i64.wrap ((((lk_vdisk_file v9 x6).b).length : Int) - ((lk_vdisk_file v9 x6).sure))) < v14 then (IntKind.i64.wrap ((((lk_vdisk_file v9 x6).b).length : Int) - ((lk_vdisk_file v9 x6).sure))) else v14))))) rfl (s_build (ps := [(0, (D.one (C.p false (.sl (sub ((lk_vdisk_file v9 x6).b) 0 (IntKind.i64.wrap (((lk_vdisk_file v9 x6).sure) + (if (IntKind.i64.wrap ((((lk_vdisk_file v9 x6).b).length : Int) - ((lk_vdisk_file v9 x6).sure))) < v14 then (IntKind.i64.wrap ((((lk_vdisk_file v9 x6).b).length : Int) - ((lk_vdisk_file v9 x6).sure))) else v14)))).length ((sub ((lk_vdisk_file v9 x6).b) 0 (IntKind.i64.wrap (((lk_vdisk_file v9 x6).sure) + (if (IntKind.i64.wrap ((((lk_vdisk_file v9 x6).b).length : Int) - ((lk_vdisk_file v9 x6).sure))) < v14 then (IntKind.i64.wrap ((((lk_vdisk_file v9 x6).b).length : Int) - ((lk_vdisk_file v9 x6).sure))) else v14)))).flatMap e_u8))))), (1, (si (IntKind.i64.wrap (((lk_vdisk_file v9 x6).sure) + (if (IntKind.i64.wrap ((((lk_vdisk_file v9 x6).b).length : Int) - ((lk_vdisk_file v9 x6).sure))) < v14 then (IntKind.i64.wrap ((((lk_vdisk_file v9 x6).b).length : Int) - ((lk_vdisk_file v9 x6).sure))) else v14)))))]) (cs := [(C.p false (.sl (sub ((lk_vdisk_file v9 x6).b) 0 (IntKind.i64.wrap (((lk_vdisk_file v9 x6).sure) + (if (IntKind.i64.wrap ((((lk_vdisk_file v9 x6).b).length : Int) - ((lk_vdisk_file v9 x6).sure))) < v14 then (IntKind.i64.wrap ((((lk_vdisk_file v9 x6).b).length : Int) - ((lk_vdisk_file v9 x6).sure))) else v14)))).length ((sub ((lk_vdisk_file v9 x6).b) 0 (IntKind.i64.wrap (((lk_vdisk_file v9 x6).sure) + (if (IntKind.i64.wrap ((((lk_vdisk_file v9 x6).b).length : Int) - ((lk_vdisk_file v9 x6).sure))) < v14 then (IntKind.i64.wrap ((((lk_vdisk_file v9 x6).b).length : Int) - ((lk_vdisk_file v9 x6).sure))) else v14)))).flatMap e_u8))), (ci (IntKind.i64.wrap (((lk_vdisk_file v9 x6).sure) + (if (IntKind.i64.wrap ((((lk_vdisk_file v9 x6).b).length : Int) - ((lk_vdisk_file v9 x6).sure))) < v14 then (IntKind.i64.wrap ((((lk_vdisk_file v9 x6).b).length : Int) - ((lk_vdisk_file v9 x6).sure))) else v14))))]) F.z_65 rfl F.so_65 rfl rfl ?_))
      obtain ⟨r16, er16, h⟩ := bnd h
      refine cc [0, 1, 5] [(o_vdisk_Disk_03 false (C.mp 1) (C.ref 5 0) r16), (om_ e_vdisk_file r16.files), none, (some (AObj.cells true (c_vdisk_file (lk_vdisk_file v9 x6)))), (ow_ e_str r2), (bx b0_3)] (D.tup []) F.ca_33 rfl rfl (ac (.one (.ref rfl)) (ac (.one .sc) (ac (LendT.aggL (ac .imm (ac .sc an))) an))) (ac (.cells (ac (.mp rfl) (ac .sc (ac .sc (ac (.ref rfl) (ac .sc an)))))) (ac .map (ac (.cells (ac .sc an)) an))) (vdisk_Disk_set_33.meets _ (⟨x6, x3, x4, (), x5⟩ : vdisk_Disk) v9 (⟨sub ((lk_vdisk_file v9 x6).b) 0 (IntKind.i64.wrap (((lk_vdisk_file v9 x6).sure) + (if (IntKind.i64.wrap ((((lk_vdisk_file v9 x6).b).length : Int) - ((lk_vdisk_file v9 x6).sure))) < v14 then (IntKind.i64.wrap ((((lk_vdisk_file v9 x6).b).length : Int) - ((lk_vdisk_file v9 x6).sure))) else v14))), IntKind.i64.wrap (((lk_vdisk_file v9 x6).sure) + (if (IntKind.i64.wrap ((((lk_vdisk_file v9 x6).b).length : Int) - ((lk_vdisk_file v9 x6).sure))) < v14 then (IntKind.i64.wrap ((((lk_vdisk_file v9 x6).b).length : Int) - ((lk_vdisk_file v9 x6).sure))) else v14))⟩ : vdisk_file) b0_3 r16 er16) (AWops.nil (AW.region ?_))
      refine s_binI (v := (.int .i64 (IntKind.i64.wrap (x7 + 1)))) rfl rfl rfl (s_move (d := (si (IntKind.i64.wrap (x7 + 1)))) rfl (AWops.nil ?_))
      exact ⟨_, ⟨69, (upd 69 (upd 69 (upd 69 (upd 69 (upd 69 topF 0 (rf 0 0)) 1 (D.one (C.p false (.sl a1.length (a1.flatMap e_i64))))) 12 (D.one (C.own 3 0 r2.length 1))) 13 (si (r2.length : Int))) 14 (si (IntKind.i64.wrap (x7 + 1)))), [(some (AObj.cells false [(C.mp 1), (ci r16.room), (ci r16.used), (C.ref 4 0), (cb r16.dead)])), (om_ e_vdisk_file r16.files), none, (ow_ e_str r2), (bx b0_3)]⟩, by omega, (wg 3 [0, 1, 2, 4, 5] [] hx (le_upd (le_upd (le_upd (le_upd (le_upd (le_top _) (o1 (.ref rfl))) (o1 .same)) (o1 (.own rfl))) (o1 .sc)) (o1 .sc)) (ac (qr rfl rfl) (ac .map (ac (.none _) (ac (.cells (fun _ => rfl) (all2_row _)) (ac qb an)))))), by omega, r16.room, r16.used, r16.dead, r16.files, IntKind.i64.wrap (x7 + 1), h, rfl⟩
    ·refine AW.cond_no rfl c13 (AW.skip (AW.region ?_))
     refine s_move (d := (rf 0 0)) rfl (s_move (d := (st_ v9)) rfl (s_fieldRef F.fo_65_0 (by decide) rfl (s_load1 (c' := (C.p false (.sl ((lk_vdisk_file v9 x6).b).length (((lk_vdisk_file v9 x6).b).flatMap e_u8)))) F.ag_22 rfl rfl (s_move (d := (si ((lk_vdisk_file v9 x6).sure))) rfl (s_move (d := (si ((lk_vdisk_file v9 x6).sure))) rfl ?_)))))
     obtain ⟨c17, h⟩ := gdH h
     have dc17 := of_decide_eq_true c17
     refine t_slice3Imm F.u_22 F.sz_5 e_u8_len rfl rfl rfl (by omega) (by omega) (s_move (d := (si ((lk_vdisk_file v9 x6).sure))) rfl (s_build (ps := [(0, (D.one (C.p false (.sl (sub ((lk_vdisk_file v9 x6).b) 0 ((lk_vdisk_file v9 x6).sure)).length ((sub ((lk_vdisk_file v9 x6).b) 0 ((lk_vdisk_file v9 x6).sure)).flatMap e_u8))))), (1, (si ((lk_vdisk_file v9 x6).sure)))]) (cs := [(C.p false (.sl (sub ((lk_vdisk_file v9 x6).b) 0 ((lk_vdisk_file v9 x6).sure)).length ((sub ((lk_vdisk_file v9 x6).b) 0 ((lk_vdisk_file v9 x6).sure)).flatMap e_u8))), (ci ((lk_vdisk_file v9 x6).sure))]) F.z_65 rfl F.so_65 rfl rfl ?_))
     obtain ⟨r18, er18, h⟩ := bnd h
     refine cc [0, 1, 4] [(o_vdisk_Disk_03 false (C.mp 1) (C.ref 4 0) r18), (om_ e_vdisk_file r18.files), none, (ow_ e_str r2), (bx b0_3), (some (AObj.cells true (c_vdisk_file (lk_vdisk_file v9 x6))))] (D.tup []) F.ca_33 rfl rfl (ac (.one (.ref rfl)) (ac (.one .sc) (ac (LendT.aggL (ac .imm (ac .sc an))) an))) (ac (.cells (ac (.mp rfl) (ac .sc (ac .sc (ac (.ref rfl) (ac .sc an)))))) (ac .map (ac (.cells (ac .sc an)) an))) (vdisk_Disk_set_33.meets _ (⟨x6, x3, x4, (), x5⟩ : vdisk_Disk) v9 (⟨sub ((lk_vdisk_file v9 x6).b) 0 ((lk_vdisk_file v9 x6).sure), (lk_vdisk_file v9 x6).sure⟩ : vdisk_file) b0_3 r18 er18) (AWops.nil (AW.region ?_))
     refine s_binI (v := (.int .i64 (IntKind.i64.wrap (x7 + 1)))) rfl rfl rfl (s_move (d := (si (IntKind.i64.wrap (x7 + 1)))) rfl (AWops.nil ?_))
     exact ⟨_, ⟨69, (upd 69 (upd 69 (upd 69 (upd 69 (upd 69 topF 0 (rf 0 0)) 1 (D.one (C.p false (.sl a1.length (a1.flatMap e_i64))))) 12 (D.one (C.own 3 0 r2.length 1))) 13 (si (r2.length : Int))) 14 (si (IntKind.i64.wrap (x7 + 1)))), [(some (AObj.cells false [(C.mp 1), (ci r18.room), (ci r18.used), (C.ref 4 0), (cb r18.dead)])), (om_ e_vdisk_file r18.files), none, (ow_ e_str r2), (bx b0_3)]⟩, by omega, (wg 3 [0, 1, 2, 3, 4] [] hx (le_upd (le_upd (le_upd (le_upd (le_upd (le_top _) (o1 (.ref rfl))) (o1 .same)) (o1 (.own rfl))) (o1 .sc)) (o1 .sc)) (ac (qr rfl rfl) (ac .map (ac (.none _) (ac (.cells (fun _ => rfl) (all2_row _)) (ac qb an)))))), by omega, r18.room, r18.used, r18.dead, r18.files, IntKind.i64.wrap (x7 + 1), h, rfl⟩
   ·iterate 5 refine AWops.guard_no rfl (nl rfl) rfl c11 ?_
    refine s_pick_no (d := (sb false)) rfl c11 rfl (AWops.nil ?_)
    refine AW.cond_no rfl rfl (AW.skip (AW.region ?_))
    refine s_move (d := (rf 0 0)) rfl (s_move (d := (st_ v9)) rfl (s_fieldRef F.fo_65_0 (by decide) rfl (s_load1 (c' := (C.p false (.sl ((lk_vdisk_file v9 x6).b).length (((lk_vdisk_file v9 x6).b).flatMap e_u8)))) F.ag_22 rfl rfl (s_move (d := (si ((lk_vdisk_file v9 x6).sure))) rfl (s_move (d := (si ((lk_vdisk_file v9 x6).sure))) rfl ?_)))))
    obtain ⟨c19, h⟩ := gdH h
    have dc19 := of_decide_eq_true c19
    refine t_slice3Imm F.u_22 F.sz_5 e_u8_len rfl rfl rfl (by omega) (by omega) (s_move (d := (si ((lk_vdisk_file v9 x6).sure))) rfl (s_build (ps := [(0, (D.one (C.p false (.sl (sub ((lk_vdisk_file v9 x6).b) 0 ((lk_vdisk_file v9 x6).sure)).length ((sub ((lk_vdisk_file v9 x6).b) 0 ((lk_vdisk_file v9 x6).sure)).flatMap e_u8))))), (1, (si ((lk_vdisk_file v9 x6).sure)))]) (cs := [(C.p false (.sl (sub ((lk_vdisk_file v9 x6).b) 0 ((lk_vdisk_file v9 x6).sure)).length ((sub ((lk_vdisk_file v9 x6).b) 0 ((lk_vdisk_file v9 x6).sure)).flatMap e_u8))), (ci ((lk_vdisk_file v9 x6).sure))]) F.z_65 rfl F.so_65 rfl rfl ?_))
    obtain ⟨r20, er20, h⟩ := bnd h
    refine cc [0, 1, 4] [(o_vdisk_Disk_03 false (C.mp 1) (C.ref 4 0) r20), (om_ e_vdisk_file r20.files), none, (ow_ e_str r2), (bx b0_3), (some (AObj.cells true (c_vdisk_file (lk_vdisk_file v9 x6))))] (D.tup []) F.ca_33 rfl rfl (ac (.one (.ref rfl)) (ac (.one .sc) (ac (LendT.aggL (ac .imm (ac .sc an))) an))) (ac (.cells (ac (.mp rfl) (ac .sc (ac .sc (ac (.ref rfl) (ac .sc an)))))) (ac .map (ac (.cells (ac .sc an)) an))) (vdisk_Disk_set_33.meets _ (⟨x6, x3, x4, (), x5⟩ : vdisk_Disk) v9 (⟨sub ((lk_vdisk_file v9 x6).b) 0 ((lk_vdisk_file v9 x6).sure), (lk_vdisk_file v9 x6).sure⟩ : vdisk_file) b0_3 r20 er20) (AWops.nil (AW.region ?_))
    refine s_binI (v := (.int .i64 (IntKind.i64.wrap (x7 + 1)))) rfl rfl rfl (s_move (d := (si (IntKind.i64.wrap (x7 + 1)))) rfl (AWops.nil ?_))
    exact ⟨_, ⟨69, (upd 69 (upd 69 (upd 69 (upd 69 (upd 69 topF 0 (rf 0 0)) 1 (D.one (C.p false (.sl a1.length (a1.flatMap e_i64))))) 12 (D.one (C.own 3 0 r2.length 1))) 13 (si (r2.length : Int))) 14 (si (IntKind.i64.wrap (x7 + 1)))), [(some (AObj.cells false [(C.mp 1), (ci r20.room), (ci r20.used), (C.ref 4 0), (cb r20.dead)])), (om_ e_vdisk_file r20.files), none, (ow_ e_str r2), (bx b0_3)]⟩, by omega, (wg 3 [0, 1, 2, 3, 4] [] hx (le_upd (le_upd (le_upd (le_upd (le_upd (le_top _) (o1 (.ref rfl))) (o1 .same)) (o1 (.own rfl))) (o1 .sc)) (o1 .sc)) (ac (qr rfl rfl) (ac .map (ac (.none _) (ac (.cells (fun _ => rfl) (all2_row _)) (ac qb an)))))), by omega, r20.room, r20.used, r20.dead, r20.files, IntKind.i64.wrap (x7 + 1), h, rfl⟩
  ·refine AW.cond_no rfl c8 (AW.exit (AW.seq (AW.region ?_)))
   refine s_move (d := (rf 0 0)) rfl (s_move (d := (rf 0 0)) rfl (s_nilCheck (d := (rf 0 0)) rfl (.inl ⟨_, _, rfl⟩) (s_fieldRef F.fo_50_4 (by decide) rfl (s_store (cs' := [(C.mp 1), (ci x3), (ci x4), (C.ref 4 0), (cb false)]) rfl rfl rfl (List.cons_ne_nil _ _) rfl F.sz_4 (nl rfl) rfl (s_nilCheck (d := (rf 0 0)) rfl (.inl ⟨_, _, rfl⟩) ?_)))))
   refine s_fieldRef F.fo_50_3 (by decide) rfl (s_store (cs' := [(C.mp 1), (ci x3), (ci x4), (C.p true (.v (.pointer none))), (cb false)]) rfl rfl rfl (List.cons_ne_nil _ _) rfl F.sz_48 (nl rfl) rfl (AWops.nil (AW.seq (AW.region (s_assign (d := (si 0)) rfl (AWops.nil (AW.ret ?_)))))))
   obtain rfl := Option.some.inj h
   exact ⟨_, rfl, (wg 3 [0, 1, 2] [] rfl (le_upd (le_top _) (o1 .sc)) (ac (qs rfl) (ac .map (ac (.none _) an))))⟩
def vdisk_Disk_Room_22.f (k : Nat) (p0 : vdisk_Disk) (a1 : Int) (p2 : Int) : Option (Int × vdisk_Disk) := (vdisk_Disk_none_35.f k p0 p2).bind fun r1 => if (decide (a1 < 0)) = true then (some (1, p0)) else (if (decide (a1 > 4194304)) = true then (some (1, p0)) else (some (0, (⟨p0.files, a1, p0.used, (), p0.dead⟩ : vdisk_Disk))))
theorem vdisk_Disk_Room_22.meets (k : Nat) (p0 : vdisk_Disk) (a1 : Int) (p2 : Int) (r : Int × vdisk_Disk) (h : vdisk_Disk_Room_22.f k p0 a1 p2 = some r) : Meets Try.prog 22 [(rf 0 0), (si a1)] [(o_vdisk_Disk_03 false (C.mp 1) (C.ref 2 0) p0), (om_ e_vdisk_file p0.files), (bx p2)] (si r.1) [(o_vdisk_Disk_03 false (C.mp 1) (C.ref 2 0) r.2), (om_ e_vdisk_file r.2.files), (bx p2)] := by
 unfold vdisk_Disk_Room_22.f at h
 refine Meets.of_body (n := 19) Try.func22 rfl rfl (nl rfl) fun x hx => ?_
 replace hx : x.k = 3 := hx
 show AW _ x _ _ ⟨19, fr0 [(rf 0 0), (si a1)], [(o_vdisk_Disk_03 false (C.mp 1) (C.ref 2 0) p0), (om_ e_vdisk_file p0.files), (bx p2)]⟩
 refine AW.seq (AW.region ?_)
 refine s_assign (d := (si 0)) rfl (AWops.nil (AW.seq (AW.block (AW.seq (AW.region ?_)))))
 refine s_move (d := (rf 0 0)) rfl ?_
 obtain ⟨r1, er1, h⟩ := bnd h
 have kr1 := vdisk_Disk_none_35.const er1
 subst kr1
 refine cc [0, 1, 2] [(o_vdisk_Disk_03 false (C.mp 1) (C.ref 2 0) p0), (om_ e_vdisk_file p0.files), (bx p2)] (sb false) F.ca_35 rfl rfl (ac (.one (.ref rfl)) an) (ac (.cells (ac (.mp rfl) (ac .sc (ac .sc (ac (.ref rfl) (ac .sc an)))))) (ac .map (ac (.cells (ac .sc an)) an))) (vdisk_Disk_none_35.meets _ p0 p2 false er1) (s_assign (d := (sb false)) rfl (AWops.nil ?_))
 refine AW.cond_no rfl rfl (AW.seq (AW.region ?_))
 refine s_move (d := (si a1)) rfl (s_binI (v := (.bool (decide (a1 < 0)))) rfl rfl rfl (s_move (d := (sb (decide (a1 < 0)))) rfl ?_))
 rcases itH h with ⟨c2, h⟩ | ⟨c2, h⟩
 ·refine AWops.guard_no rfl (nl rfl) rfl c2 ?_
  refine AWops.guard_no rfl (nl rfl) rfl c2 ?_
  refine s_pick_yes (d := (sb true)) rfl c2 rfl (s_assign (d := (sb true)) rfl (AWops.nil ?_))
  refine AW.cond_yes rfl rfl (AW.seq (AW.region ?_))
  refine s_assign (d := (si 1)) rfl (AWops.nil (AW.ret ?_))
  obtain rfl := Option.some.inj h
  exact ⟨_, rfl, (wg 3 [0, 1, 2] [] rfl (le_upd (le_top _) (o1 .sc)) (ac (qr rfl rfl) (ac .map (ac qb an))))⟩
 ·refine AWops.guard_yes rfl (nl rfl) rfl c2 ?_
  refine s_move (d := (si a1)) rfl ?_
  refine AWops.guard_yes rfl (nl rfl) rfl c2 ?_
  refine s_binI (v := (.bool (decide (a1 > 4194304)))) rfl rfl rfl (s_pick_no (d := (sb (decide (a1 > 4194304)))) rfl c2 rfl (s_assign (d := (sb (decide (a1 > 4194304)))) rfl (AWops.nil ?_)))
  rcases itH h with ⟨c3, h⟩ | ⟨c3, h⟩
  ·refine AW.cond_yes rfl c3 (AW.seq (AW.region ?_))
   refine s_assign (d := (si 1)) rfl (AWops.nil (AW.ret ?_))
   obtain rfl := Option.some.inj h
   exact ⟨_, rfl, (wg 3 [0, 1, 2] [] rfl (le_upd (le_top _) (o1 .sc)) (ac (qr rfl rfl) (ac .map (ac qb an))))⟩
  ·refine AW.cond_no rfl c3 (AW.skip (AW.seq (AW.region ?_)))
   refine s_move (d := (rf 0 0)) rfl (s_move (d := (si a1)) rfl (s_nilCheck (d := (rf 0 0)) rfl (.inl ⟨_, _, rfl⟩) (s_fieldRef F.fo_50_1 (by decide) rfl (s_store (cs' := [(C.mp 1), (ci a1), (ci p0.used), (C.ref 2 0), (cb p0.dead)]) rfl rfl rfl (List.cons_ne_nil _ _) rfl F.sz_3 (nl rfl) rfl (AWops.nil (AW.seq (AW.region (s_assign (d := (si 0)) rfl (AWops.nil (AW.ret ?_))))))))))
   obtain rfl := Option.some.inj h
   exact ⟨_, rfl, (wg 3 [0, 1, 2] [] rfl (le_upd (le_top _) (o1 .sc)) (ac (qr rfl rfl) (ac .map (ac qb an))))⟩
end Go.Abs.GenRd
