import Derived.Test.YtgeieafnnlmfdaaGenOa
set_option linter.unusedVariables false
set_option linter.unusedSimpArgs false
set_option maxRecDepth 100000
set_option maxHeartbeats 4000000
namespace Go.Abs.GenO
open Go.Abs Go.Proofs
mutual
def dossierref03_Disk_Append_40.j0 : Nat → dossierref03_File → (List Int) → (Int × dossierref03_Disk) → Option (Int × dossierref03_Disk)
 | 0, _, _, _ => none
 | k + 1, x13, a2, r7 => if (decide (([] : List Int).length + x13.B.length ≤ 140737488355328)) = true then (if (decide (x13.B.length + a2.length ≤ 140737488355328)) = true then ((dossierref03_Disk_set_67.f k r7.2 (⟨x13.Name, x13.B ++ a2, x13.Sure⟩ : dossierref03_File)).bind fun r16 => some (0, r16)) else none) else none
def dossierref03_Disk_Append_40.j1 : Nat → dossierref03_File → (List Int) → (Int × dossierref03_Disk) → Option (Int × dossierref03_Disk)
 | 0, _, _, _ => none
 | k + 1, x23, a2, r17 => if (decide (([] : List Int).length + x23.B.length ≤ 140737488355328)) = true then (if (decide (x23.B.length + a2.length ≤ 140737488355328)) = true then ((dossierref03_Disk_set_67.f k r17.2 (⟨x23.Name, x23.B ++ a2, x23.Sure⟩ : dossierref03_File)).bind fun r26 => some (0, r26)) else none) else none
end
def dossierref03_Disk_Append_40.f (k : Nat) (p0 : dossierref03_Disk) (a1 : ByteArray) (a2 : List Int) : Option (Int × dossierref03_Disk) := (dossierref03_named.f k a1).bind fun r1 => if r1 = true then (if p0.Off = true then (some (70, p0)) else (if (decide ((a2.length : Int) > 0)) = true then ((dossierref03_Disk_Used.f k p0).bind fun r5 => if (decide ((a2.length : Int) > (IntKind.i64.wrap (p0.Most - r5)))) = true then (some (71, p0)) else ((dossierref03_Disk_burn.f k p0).bind fun r7 => if (r7.1 != 0) = true then (some (r7.1, r7.2)) else ((dossierref03_Disk_place.f k r7.2 a1).bind fun r9 => if r9.2 = true then ((rd r7.2.L r9.1).bind fun v11 => dossierref03_Disk_Append_40.j0 k v11 a2 r7) else (dossierref03_Disk_Append_40.j0 k (⟨a1, ([] : List Int), 0⟩ : dossierref03_File) a2 r7)))) else ((dossierref03_Disk_burn.f k p0).bind fun r17 => if (r17.1 != 0) = true then (some (r17.1, r17.2)) else ((dossierref03_Disk_place.f k r17.2 a1).bind fun r19 => if r19.2 = true then ((rd r17.2.L r19.1).bind fun v21 => dossierref03_Disk_Append_40.j1 k v21 a2 r17) else (dossierref03_Disk_Append_40.j1 k (⟨a1, ([] : List Int), 0⟩ : dossierref03_File) a2 r17))))) else (some (1, p0))
theorem dossierref03_Disk_Append_40.meets (k : Nat) (p0 : dossierref03_Disk) (a1 : ByteArray) (a2 : List Int) (r : Int × dossierref03_Disk) (h : dossierref03_Disk_Append_40.f k p0 a1 a2 = some r) : Meets Try.prog 40 [(rf 0 0), (st_ a1), (ds_ e_u8 a2)] [(o_dossierref03_Disk_0 false (C.own 1 0 p0.L.length 3) p0), (or_ e_dossierref03_File p0.L)] (si r.1) [(o_dossierref03_Disk_0 false (C.own 2 0 r.2.L.length 3) r.2), none, (or_ e_dossierref03_File r.2.L)] := by
 unfold dossierref03_Disk_Append_40.f at h
 refine Meets.of_body (n := 64) Try.func40 rfl rfl (nl rfl) fun x hx => ?_
 replace hx : x.k = 2 := hx
 show AW _ x _ _ ⟨64, fr0 [(rf 0 0), (st_ a1), (ds_ e_u8 a2)], [(o_dossierref03_Disk_0 false (C.own 1 0 p0.L.length 3) p0), (or_ e_dossierref03_File p0.L)]⟩
 refine AW.weak (st' := ⟨64, (upd 64 (upd 64 (upd 64 topF 0 (rf 0 0)) 1 (st_ a1)) 2 (ds_ e_u8 a2)), [(o_dossierref03_Disk_0 false (C.own 2 0 p0.L.length 3) p0), none, (or_ e_dossierref03_File p0.L)]⟩) (Weak.genL (kk := 2) [0, 1, 1] [] hx rfl (by decide) rfl rfl rfl rfl (le_upd (le_upd (le_upd (le_top _) (o1 (.ref rfl))) (o1 .sc)) (o1 .same)) (ac (qo rfl) (ac (.none _) (ac (.cells id (all2_row _)) an)))) (AW.seq (AW.region ?_))
 refine s_assign (d := (si 0)) rfl (AWops.nil (AW.seq (AW.seq (AW.region ?_))))
 refine s_move (d := (st_ a1)) rfl ?_
 obtain ⟨r1, er1, h⟩ := bnd h
 refine cc [] [(o_dossierref03_Disk_0 false (C.own 2 0 p0.L.length 3) p0), none, (or_ e_dossierref03_File p0.L)] (sb r1) F.ca_63 rfl rfl (ac (.one .sc) an) an (dossierref03_named.meets _ a1 r1 er1) (s_not rfl (AWops.nil ?_))
 rcases itH h with ⟨c2, h⟩ | ⟨c2, h⟩
 ·refine AW.cond_no rfl (by rw [c2] <;> rfl) (AW.skip (AW.seq (AW.seq (AW.region ?_))))
  refine s_move (d := (rf 0 0)) rfl (s_nilCheck (d := (rf 0 0)) rfl (.inl ⟨_, _, rfl⟩) (s_fieldRef F.fo_84_3 (by decide) rfl (s_load1 (c' := (cb p0.Off)) F.ag_4 rfl rfl (AWops.nil ?_))))
  rcases itH h with ⟨c3, h⟩ | ⟨c3, h⟩
  ·refine AW.cond_yes rfl c3 (AW.seq (AW.region ?_))
   refine s_assign (d := (si 70)) rfl (AWops.nil (AW.ret ?_))
   obtain rfl := Option.some.inj h
   exact ⟨_, rfl, (wg 2 [0, 1, 2] [] rfl (le_upd (le_top _) (o1 .sc)) (ac (qo rfl) (ac (.none _) (ac (.cells id (all2_row _)) an))))⟩
  ·refine AW.cond_no rfl c3 (AW.skip (AW.seq (AW.seq ?_)))
   refine AW.weak (st' := ⟨64, (upd 64 (upd 64 (upd 64 topF 0 (rf 0 0)) 1 (st_ a1)) 2 (ds_ e_u8 a2)), [(o_dossierref03_Disk_0 false (C.own 2 0 p0.L.length 3) p0), none, (or_ e_dossierref03_File p0.L)]⟩) (wg 2 [0, 1, 2] [] hx (le_upd (le_upd (le_upd (le_top _) (o1 (.ref rfl))) (o1 .sc)) (o1 .same)) (ac (qo rfl) (ac (.none _) (ac (.cells id (all2_row _)) an)))) ?_
   rcases itH h with ⟨c4, h⟩ | ⟨c4, h⟩
   ·obtain ⟨r5, er5, h⟩ := bnd h
    refine AW.draw (n := 64) (L := 4) [(ft 0 18 (ds_ e_u8 a2) [(2, (ds_ e_u8 a2))]), (ft 1 19 (si (a2.length : Int)) [(18, (ds_ e_u8 a2))]), (ft 2 20 (sb (decide ((a2.length : Int) > 0))) [(19, (si (a2.length : Int)))]), (ft 3 21 (sb (decide ((a2.length : Int) > 0))) [(20, (sb (decide ((a2.length : Int) > 0))))]), (ft 4 22 (ds_ e_u8 a2) [(2, (ds_ e_u8 a2)), (21, (sb (decide ((a2.length : Int) > 0))))]), (ft 5 23 (si (a2.length : Int)) [(21, (sb (decide ((a2.length : Int) > 0)))), (22, (ds_ e_u8 a2))]), (ft 6 24 (rf 0 0) [(0, (rf 0 0)), (21, (sb (decide ((a2.length : Int) > 0))))]), (ft 7 25 (rf 0 0) [(21, (sb (decide ((a2.length : Int) > 0)))), (24, (rf 0 0))]), (ft 8 26 (rf 0 1) [(21, (sb (decide ((a2.length : Int) > 0)))), (25, (rf 0 0))]), (9, ⟨some 27, (si p0.Most), [(21, (sb (decide ((a2.length : Int) > 0)))), (26, (rf 0 1))], [(0, (o_dossierref03_Disk_0 false (C.own 2 0 p0.L.length 3) p0))], [], none⟩), (ft 10 28 (rf 0 0) [(0, (rf 0 0)), (21, (sb (decide ((a2.length : Int) > 0))))]), (11, ⟨some 29, (si r5), [(21, (sb (decide ((a2.length : Int) > 0)))), (28, (rf 0 0))], [(0, (o_dossierref03_Disk_0 false (C.own 2 0 p0.L.length 3) p0)), (2, (or_ e_dossierref03_File p0.L))], [], none⟩), (ft 12 30 (si (IntKind.i64.wrap (p0.Most - r5))) [(21, (sb (decide ((a2.length : Int) > 0)))), (27, (si p0.Most)), (29, (si r5))]), (ft 13 31 (sb (decide ((a2.length : Int) > (IntKind.i64.wrap (p0.Most - r5))))) [(21, (sb (decide ((a2.length : Int) > 0)))), (23, (si (a2.length : Int))), (30, (si (IntKind.i64.wrap (p0.Most - r5))))]), (ft 14 32 (sb (decide ((a2.length : Int) > (IntKind.i64.wrap (p0.Most - r5))))) [(21, (sb (decide ((a2.length : Int) > 0)))), (31, (sb (decide ((a2.length : Int) > (IntKind.i64.wrap (p0.Most - r5))))))])] [[], [0], [0, 1], [0, 1, 2], [0, 1, 2, 3], (.range 5), [0, 1, 2, 3], [0, 1, 2, 3, 6], [0, 1, 2, 3, 6, 7], [0, 1, 2, 3, 6, 7, 8], [0, 1, 2, 3], [0, 1, 2, 3, 10], [0, 1, 2, 3, 6, 7, 8, 9, 10, 11], (.range 13), (.range 14)] (nl rfl) [0, 1, 2, 3, 4, 5, 4, 5, 6, 7, 4, 5, 8, 9, 10] rfl (TK := []) rfl AllK.nil' (by repeat (first | refine fC ⟨?_, ?_⟩ ?_ | refine sC rfl ?_ | refine hC rfl ?_ | trivial)) ?_ ?_
    ·refine y8 ?_ ?_ ?_ ?_ ?_ ?_ ?_ ?_ (y4 ?_ ?_ ?_ ?_ (y2 ?_ ?_ (pC ?_ yN)))
     ·intro K _ f w u k
      show Wp K ⟨64, (upd 64 f 2 (ds_ e_u8 a2)), _⟩
      refine s_move (d := (ds_ e_u8 a2)) rfl k
     ·intro K _ f w u k
      show Wp K ⟨64, (upd 64 f 18 (ds_ e_u8 a2)), [_, _, _, _]⟩
      refine s_len (n := a2.length) F.u_22 rfl (.inr ⟨(fun _ _ h => by cases h), ⟨_, rfl⟩⟩) k
     ·intro K _ f w u k
      show Wp K ⟨64, (upd 64 f 19 (si (a2.length : Int))), _⟩
      refine s_binI (v := (.bool (decide ((a2.length : Int) > 0)))) rfl rfl rfl k
     ·intro K _ f w u k
      show Wp K ⟨64, (upd 64 f 20 (sb (decide ((a2.length : Int) > 0)))), _⟩
      refine s_move (d := (sb (decide ((a2.length : Int) > 0)))) rfl k
     ·intro K _ f w u k
      show Wp K ⟨64, (upd 64 (upd 64 f 21 (sb (decide ((a2.length : Int) > 0)))) 2 (ds_ e_u8 a2)), _⟩
      refine AWops.guard_yes rfl (nl rfl) rfl c4 ?_
      refine s_move (d := (ds_ e_u8 a2)) rfl k
     ·intro K _ f w u k
      show Wp K ⟨64, (upd 64 (upd 64 f 22 (ds_ e_u8 a2)) 21 (sb (decide ((a2.length : Int) > 0)))), [_, _, _, _]⟩
      refine AWops.guard_yes rfl (nl rfl) rfl c4 ?_
      refine s_len (n := a2.length) F.u_22 rfl (.inr ⟨(fun _ _ h => by cases h), ⟨_, rfl⟩⟩) k
     ·intro K _ f w u k
      show Wp K ⟨64, (upd 64 (upd 64 f 21 (sb (decide ((a2.length : Int) > 0)))) 0 (rf 0 0)), _⟩
      refine AWops.guard_yes rfl (nl rfl) rfl c4 ?_
      refine s_move (d := (rf 0 0)) rfl k
     ·intro K _ f w u k
      show Wp K ⟨64, (upd 64 (upd 64 f 24 (rf 0 0)) 21 (sb (decide ((a2.length : Int) > 0)))), [_, _, _, _]⟩
      refine AWops.guard_yes rfl (nl rfl) rfl c4 ?_
      refine s_nilCheck (d := (rf 0 0)) rfl (.inl ⟨_, _, rfl⟩) k
     ·intro K _ f w u k
      show Wp K ⟨64, (upd 64 (upd 64 f 25 (rf 0 0)) 21 (sb (decide ((a2.length : Int) > 0)))), [_, _, _, _]⟩
      refine AWops.guard_yes rfl (nl rfl) rfl c4 ?_
      refine s_fieldRef F.fo_84_1 (by decide) rfl k
     ·intro K _ f w u k
      show Wp K ⟨64, (upd 64 (upd 64 f 26 (rf 0 1)) 21 (sb (decide ((a2.length : Int) > 0)))), [(o_dossierref03_Disk_0 false (C.own 2 0 p0.L.length 3) p0), _, _, _]⟩
      refine AWops.guard_yes rfl (nl rfl) rfl c4 ?_
      refine s_load1 (c' := (ci p0.Most)) F.ag_3 rfl rfl k
     ·intro K _ f w u k
      show Wp K ⟨64, (upd 64 (upd 64 f 21 (sb (decide ((a2.length : Int) > 0)))) 0 (rf 0 0)), _⟩
      refine AWops.guard_yes rfl (nl rfl) rfl c4 ?_
      refine s_move (d := (rf 0 0)) rfl k
     ·intro K _ f w u k
      show Wp K ⟨64, (upd 64 (upd 64 f 28 (rf 0 0)) 21 (sb (decide ((a2.length : Int) > 0)))), [(o_dossierref03_Disk_0 false (C.own 2 0 p0.L.length 3) p0), _, (or_ e_dossierref03_File p0.L), _]⟩
      refine AWops.guard_yes rfl (nl rfl) rfl c4 ?_
      refine cc [0, 2] [(o_dossierref03_Disk_0 false (C.own 2 0 p0.L.length 3) p0), (w 1), (or_ e_dossierref03_File p0.L), (w 3)] (si r5) F.ca_64 rfl rfl (ac (.one (.ref rfl)) an) (ac (.cells (ac (.own rfl) (ac .sc (ac .sc (ac .sc an))))) (ac (.cells (lend_row _)) an)) (dossierref03_Disk_Used.meets _ p0 r5 er5) k
     ·intro K _ f w u k
      show Wp K ⟨64, (upd 64 (upd 64 (upd 64 f 29 (si r5)) 27 (si p0.Most)) 21 (sb (decide ((a2.length : Int) > 0)))), _⟩
      refine AWops.guard_yes rfl (nl rfl) rfl c4 ?_
      refine s_binI (v := (.int .i64 (IntKind.i64.wrap (p0.Most - r5)))) rfl rfl rfl k
     ·intro K _ f w u k
      show Wp K ⟨64, (upd 64 (upd 64 (upd 64 f 30 (si (IntKind.i64.wrap (p0.Most - r5)))) 23 (si (a2.length : Int))) 21 (sb (decide ((a2.length : Int) > 0)))), _⟩
      refine AWops.guard_yes rfl (nl rfl) rfl c4 ?_
      refine s_binI (v := (.bool (decide ((a2.length : Int) > (IntKind.i64.wrap (p0.Most - r5)))))) rfl rfl rfl k
     ·intro K _ f w u k
      show Wp K ⟨64, (upd 64 (upd 64 f 31 (sb (decide ((a2.length : Int) > (IntKind.i64.wrap (p0.Most - r5)))))) 21 (sb (decide ((a2.length : Int) > 0)))), _⟩
      refine s_pick_yes (d := (sb (decide ((a2.length : Int) > (IntKind.i64.wrap (p0.Most - r5)))))) rfl c4 rfl k
    ·refine AWops.weak (st' := ⟨64, (upd 64 (upd 64 (upd 64 (upd 64 topF 0 (rf 0 0)) 1 (st_ a1)) 2 (ds_ e_u8 a2)) 32 (sb (decide ((a2.length : Int) > (IntKind.i64.wrap (p0.Most - r5)))))), [(o_dossierref03_Disk_0 false (C.own 2 0 p0.L.length 3) p0), none, (or_ e_dossierref03_File p0.L)]⟩) (wg 2 [0, 1, 2] [] hx (le_upd (le_upd (le_upd (le_upd (le_top _) (o1 (.ref rfl))) (o1 .sc)) (o1 .same)) (o1 .sc)) (ac (qo rfl) (ac (.none _) (ac (.cells id (all2_row _)) an)))) (AWops.nil ?_)
     rcases itH h with ⟨c6, h⟩ | ⟨c6, h⟩
     ·refine AW.cond_yes rfl c6 (AW.seq (AW.region ?_))
      refine s_assign (d := (si 71)) rfl (AWops.nil (AW.ret ?_))
      obtain rfl := Option.some.inj h
      exact ⟨_, rfl, (wg 2 [0, 1, 2] [] rfl (le_upd (le_top _) (o1 .sc)) (ac (qo rfl) (ac (.none _) (ac (.cells id (all2_row _)) an))))⟩
     ·refine AW.cond_no rfl c6 (AW.skip (AW.seq (AW.seq (AW.region ?_))))
      refine s_move (d := (rf 0 0)) rfl ?_
      obtain ⟨r7, er7, h⟩ := bnd h
      refine cc [0, 2] [(o_dossierref03_Disk_0 false (C.own 2 0 r7.2.L.length 3) r7.2), none, (or_ e_dossierref03_File r7.2.L)] (si r7.1) F.ca_65 rfl rfl (ac (.one (.ref rfl)) an) (ac (.cells (ac (.own rfl) (ac .sc (ac .sc (ac .sc an))))) (ac (.cells (lend_row _)) an)) (dossierref03_Disk_burn.meets _ p0 r7 er7) (s_assign (d := (si r7.1)) rfl (AWops.nil (AW.seq (AW.region (s_move (d := (si r7.1)) rfl (s_binI (v := (.bool (r7.1 != 0))) rfl rfl rfl (AWops.nil ?_)))))))
      rcases itH h with ⟨c8, h⟩ | ⟨c8, h⟩
      ·refine AW.cond_yes rfl c8 (AW.seq (AW.region ?_))
       refine s_move (d := (si r7.1)) rfl (s_assign (d := (si r7.1)) rfl (AWops.nil (AW.ret ?_)))
       obtain rfl := Option.some.inj h
       exact ⟨_, rfl, (wg 2 [0, 1, 2] [] rfl (le_upd (le_top _) (o1 .sc)) (ac (qo rfl) (ac (.none _) (ac (.cells id (all2_row _)) an))))⟩
      ·refine AW.cond_no rfl c8 (AW.skip (AW.seq (AW.region ?_)))
       refine s_move (d := (st_ a1)) rfl (s_build (ps := [(0, (st_ a1))]) (cs := [(ct a1), (C.p true (.v (.slice none 0 0))), (ci 0)]) F.z_109 rfl F.so_109 rfl rfl (s_alloc (cs := [(ct (⟨#[]⟩ : ByteArray)), (C.p true (.v (.slice none 0 0))), (ci 0)]) F.z_109 rfl rfl (s_store (cs' := [(ct a1), (C.p true (.v (.slice none 0 0))), (ci 0)]) rfl rfl rfl (List.cons_ne_nil _ _) rfl F.sz_109 (nl rfl) rfl (AWops.nil ?_))))
       refine AW.seqJ (fun st => ∃ (x13 : dossierref03_File), dossierref03_Disk_Append_40.j0 k x13 a2 r7 = some r ∧ st = ⟨64, (upd 64 (upd 64 (upd 64 topF 0 (rf 0 0)) 2 (ds_ e_u8 a2)) 8 (rf 2 0)), [(o_dossierref03_Disk_0 false (C.own 3 0 r7.2.L.length 3) r7.2), none, (some (AObj.cells true (c_dossierref03_File x13))), (or_ e_dossierref03_File r7.2.L)]⟩) ?_ ?_
       ·refine AW.seq (AW.region ?_)
        refine s_move (d := (rf 0 0)) rfl (s_move (d := (st_ a1)) rfl ?_)
        obtain ⟨r9, er9, h⟩ := bnd h
        refine cc [0, 2] [(o_dossierref03_Disk_0 false (C.own 2 0 r7.2.L.length 3) r7.2), none, (or_ e_dossierref03_File r7.2.L), (some (AObj.cells true [(ct a1), (C.p true (.v (.slice none 0 0))), (ci 0)]))] (D.tup [(si r9.1), (sb r9.2)]) F.ca_66 rfl rfl (ac (.one (.ref rfl)) (ac (.one .sc) an)) (ac (.cells (ac (.own rfl) (ac .sc (ac .sc (ac .sc an))))) (ac (.cells (lend_row _)) an)) (dossierref03_Disk_place.meets _ r7.2 a1 r9 er9) (s_move (d := (D.tup [(si r9.1), (sb r9.2)])) rfl (s_extract (d := (si r9.1)) rfl rfl (s_extract (d := (sb r9.2)) rfl rfl (s_assign (d := (si r9.1)) rfl (s_assign (d := (sb r9.2)) rfl (AWops.nil (AW.seq (AW.region ?_))))))))
        refine s_move (d := (sb r9.2)) rfl (AWops.nil ?_)
        rcases itH h with ⟨c10, h⟩ | ⟨c10, h⟩
        ·refine AW.cond_yes rfl c10 (AW.region ?_)
         refine s_move (d := (rf 0 0)) rfl (s_nilCheck (d := (rf 0 0)) rfl (.inl ⟨_, _, rfl⟩) (s_fieldRef F.fo_84_0 (by decide) rfl (s_load1 (c' := (C.own 2 0 r7.2.L.length 3)) F.ag_82 rfl rfl (s_move (d := (si r9.1)) rfl ?_))))
         obtain ⟨v11, ev11, h⟩ := bnd h
         obtain ⟨pv11, qv11, gv11⟩ := rd_some ev11
         refine s_indexOwn (d := (D.one (C.ref 2 (0 + r9.1.toNat * 3)))) F.u_82 F.sz_109 rfl rfl pv11 qv11 rfl ?_
         obtain ⟨R12, hR12⟩ := row_at (f := e_dossierref03_File) (sz := 3) (o := 0) e_dossierref03_File_len gv11 (e_dossierref03_File_eq v11) (by decide)
         refine s_loadN (ds := (c_dossierref03_File v11)) F.ag_109 F.sz_109 (congrArg some hR12) rfl rfl (s_store (cs' := (c_dossierref03_File v11)) rfl rfl rfl (List.cons_ne_nil _ _) rfl F.sz_109 (nl rfl) rfl (AWops.nil ?_))
         exact ⟨⟨64, (upd 64 (upd 64 (upd 64 topF 0 (rf 0 0)) 2 (ds_ e_u8 a2)) 8 (rf 2 0)), [(o_dossierref03_Disk_0 false (C.own 3 0 r7.2.L.length 3) r7.2), none, (some (AObj.cells true (c_dossierref03_File v11))), (or_ e_dossierref03_File r7.2.L)]⟩, (wg 2 [0, 1, 3, 2] [] hx (le_upd (le_upd (le_upd (le_top _) (o1 (.ref rfl))) (o1 .same)) (o1 (.ref rfl))) (ac (qo rfl) (ac (.none _) (ac (.cells (fun _ => rfl) (ac .sc (ac .same (ac .sc an)))) (ac (.cells id (all2_row _)) an))))), v11, h, rfl⟩
        ·refine AW.cond_no rfl c10 (AW.skip ?_)
         exact ⟨⟨64, (upd 64 (upd 64 (upd 64 topF 0 (rf 0 0)) 2 (ds_ e_u8 a2)) 8 (rf 2 0)), [(o_dossierref03_Disk_0 false (C.own 3 0 r7.2.L.length 3) r7.2), none, (some (AObj.cells true (c_dossierref03_File (⟨a1, ([] : List Int), 0⟩ : dossierref03_File)))), (or_ e_dossierref03_File r7.2.L)]⟩, (wg 2 [0, 1, 3, 2] [] hx (le_upd (le_upd (le_upd (le_top _) (o1 (.ref rfl))) (o1 .same)) (o1 (.ref rfl))) (ac (qo rfl) (ac (.none _) (ac (.cells (fun _ => rfl) (ac .sc (ac .nil (ac .sc an)))) (ac (.cells id (all2_row _)) an))))), (⟨a1, ([] : List Int), 0⟩ : dossierref03_File), h, rfl⟩
       ·rintro st ⟨x13, h, rfl⟩
        cases k with
        | zero => exact absurd h (by simp [dossierref03_Disk_Append_40.j0])
        | succ qj0 =>
         replace h := (dossierref03_Disk_Append_40.j0.eq_2 _ _ _ _).symm.trans h
         refine AW.seq (AW.region ?_)
         refine s_buildSlice (n := 0) (ps := []) (cs := rowC e_u8 ([] : List Int)) F.u_22 F.sz_5 F.z_5 rfl rfl (by decide) (by decide) rfl rfl (s_fieldRef F.fo_109_1 (by decide) rfl (s_load1 (c' := (cl_ e_u8 x13.B)) F.ag_22 rfl rfl ?_))
         obtain ⟨c14, h⟩ := gdH h
         have dc14 := of_decide_eq_true c14
         refine t_append (xs := ([] : List Int)) (ys := x13.B) (zs := x13.B) (H' := [(o_dossierref03_Disk_0 false (C.own 3 0 r7.2.L.length 3) r7.2), none, (some (AObj.cells true (c_dossierref03_File x13))), (or_ e_dossierref03_File r7.2.L), none, (ow_ e_u8 x13.B)]) F.u_22 F.in_5 rfl e_u8_len (.own rfl rfl) .imm F.u_22 (by omega) (by omega) rfl rfl (s_move (d := (ds_ e_u8 a2)) rfl ?_)
         obtain ⟨c15, h⟩ := gdH h
         have dc15 := of_decide_eq_true c15
         refine t_append (xs := x13.B) (ys := a2) (zs := x13.B ++ a2) (H' := [(o_dossierref03_Disk_0 false (C.own 3 0 r7.2.L.length 3) r7.2), none, (some (AObj.cells true (c_dossierref03_File x13))), (or_ e_dossierref03_File r7.2.L), none, none, (some (AObj.cells true (rowC e_u8 (x13.B ++ a2))))]) F.u_22 F.in_5 rfl e_u8_len (.own rfl rfl) .imm F.u_22 (by omega) (by omega) rfl rfl (s_fieldRef F.fo_109_1 (by decide) rfl (s_store (cs' := [(ct x13.Name), (C.own 6 0 ((x13.B ++ a2).length) 1), (ci x13.Sure)]) rfl rfl rfl (List.cons_ne_nil _ _) rfl F.sz_22 (nl rfl) rfl (AWops.nil (AW.seq (AW.region (s_move (d := (rf 0 0)) rfl (s_loadN (ds := [(ct x13.Name), (C.own 6 0 ((x13.B ++ a2).length) 1), (ci x13.Sure)]) F.ag_109 F.sz_109 rfl rfl rfl ?_)))))))
         obtain ⟨r16, er16, h⟩ := bnd h
         refine AWops.weak (st' := ⟨64, (upd 64 (upd 64 (upd 64 (upd 64 (upd 64 (upd 64 (upd 64 (upd 64 (upd 64 (upd 64 topF 0 (rf 0 0)) 2 (ds_ e_u8 a2)) 8 (rf 2 0)) 55 (rf 2 1)) 56 (ds_ e_u8 x13.B)) 58 (ds_ e_u8 a2)) 59 (D.one (C.p false (.sl (x13.B ++ a2).length ((x13.B ++ a2).flatMap e_u8))))) 60 (rf 2 1)) 61 (rf 0 0)) 62 (D.agg [(ct x13.Name), (C.p false (.sl (x13.B ++ a2).length ((x13.B ++ a2).flatMap e_u8))), (ci x13.Sure)])), [(o_dossierref03_Disk_0 false (C.own 3 0 r7.2.L.length 3) r7.2), none, (some (AObj.cells true [(ct x13.Name), (C.p false (.sl (x13.B ++ a2).length ((x13.B ++ a2).flatMap e_u8))), (ci x13.Sure)])), (or_ e_dossierref03_File r7.2.L)]⟩) (wg 2 [0, 1, 2, 3] [6] hx (le_upd (le_upd (le_upd (le_upd (le_upd (le_upd (le_upd (le_upd (le_upd (le_upd (le_top _) (o1 (.ref rfl))) (o1 .same)) (o1 (.ref rfl))) (o1 (.ref rfl))) (o1 .same)) (o1 .same)) (o1 (CLe.frz e_u8_len rfl rfl rfl))) (o1 (.ref rfl))) (o1 (.ref rfl))) (.t (.agg (ac .sc (ac (CLe.frz e_u8_len rfl rfl rfl) (ac .sc an)))))) (ac (qo rfl) (ac (.none _) (ac (.cells (fun _ => rfl) (ac .sc (ac (CLe.frz e_u8_len rfl rfl rfl) (ac .sc an)))) (ac (.cells id (all2_row _)) an))))) ?_
         refine cc [0, 3] [(o_dossierref03_Disk_0 false (C.own 4 0 r16.L.length 3) r16), none, (some (AObj.cells true [(ct x13.Name), (C.p false (.sl (x13.B ++ a2).length ((x13.B ++ a2).flatMap e_u8))), (ci x13.Sure)])), none, (or_ e_dossierref03_File r16.L)] (D.tup []) F.ca_67 rfl rfl (ac (.one (.ref rfl)) (ac (LendT.aggL (ac .sc (ac .imm (ac .sc an)))) an)) (ac (.cells (ac (.own rfl) (ac .sc (ac .sc (ac .sc an))))) (ac (.cells (lend_row _)) an)) (dossierref03_Disk_set_67.meets _ r7.2 (⟨x13.Name, x13.B ++ a2, x13.Sure⟩ : dossierref03_File) r16 er16) (AWops.nil (AW.seq (AW.region ?_)))
         refine s_assign (d := (si 0)) rfl (AWops.nil (AW.ret ?_))
         obtain rfl := Option.some.inj h
         exact ⟨_, rfl, (wg 2 [0, 1, 4] [] rfl (le_upd (le_top _) (o1 .sc)) (ac (qo rfl) (ac (.none _) (ac (.cells id (all2_row _)) an))))⟩
   ·refine AW.draw (n := 64) (L := 4) [(ft 0 18 (ds_ e_u8 a2) [(2, (ds_ e_u8 a2))]), (ft 1 19 (si (a2.length : Int)) [(18, (ds_ e_u8 a2))]), (ft 2 20 (sb (decide ((a2.length : Int) > 0))) [(19, (si (a2.length : Int)))]), (ft 3 21 (sb (decide ((a2.length : Int) > 0))) [(20, (sb (decide ((a2.length : Int) > 0))))]), (ft 4 22 (D.tup []) [(2, (ds_ e_u8 a2)), (21, (sb (decide ((a2.length : Int) > 0))))]), (ft 5 23 (D.tup []) [(21, (sb (decide ((a2.length : Int) > 0))))]), (ft 6 24 (D.tup []) [(21, (sb (decide ((a2.length : Int) > 0))))]), (ft 7 25 (D.tup []) [(21, (sb (decide ((a2.length : Int) > 0))))]), (ft 8 26 (D.tup []) [(21, (sb (decide ((a2.length : Int) > 0))))]), (ft 9 27 (D.tup []) [(21, (sb (decide ((a2.length : Int) > 0))))]), (ft 10 28 (D.tup []) [(21, (sb (decide ((a2.length : Int) > 0))))]), (ft 11 29 (D.tup []) [(21, (sb (decide ((a2.length : Int) > 0))))]), (ft 12 30 (D.tup []) [(21, (sb (decide ((a2.length : Int) > 0))))]), (ft 13 31 (D.tup []) [(21, (sb (decide ((a2.length : Int) > 0))))]), (ft 14 32 (sb false) [(21, (sb (decide ((a2.length : Int) > 0))))])] [[], [0], [0, 1], [0, 1, 2], [0, 1, 2, 3], (.range 5), [0, 1, 2, 3], [0, 1, 2, 3, 6], [0, 1, 2, 3, 6, 7], [0, 1, 2, 3, 6, 7, 8], [0, 1, 2, 3], [0, 1, 2, 3, 10], [0, 1, 2, 3, 6, 7, 8, 9, 10, 11], (.range 13), (.range 14)] (nl rfl) [0, 1, 2, 3, 4, 5, 4, 5, 6, 7, 4, 5, 8, 9, 10] rfl (TK := []) rfl AllK.nil' (by repeat (first | refine fC ⟨?_, ?_⟩ ?_ | refine sC rfl ?_ | refine hC rfl ?_ | trivial)) ?_ ?_
    ·refine y8 ?_ ?_ ?_ ?_ ?_ ?_ ?_ ?_ (y4 ?_ ?_ ?_ ?_ (y2 ?_ ?_ (pC ?_ yN)))
     ·intro K _ f w u k
      show Wp K ⟨64, (upd 64 f 2 (ds_ e_u8 a2)), _⟩
      refine s_move (d := (ds_ e_u8 a2)) rfl k
     ·intro K _ f w u k
      show Wp K ⟨64, (upd 64 f 18 (ds_ e_u8 a2)), [_, _, _, _]⟩
      refine s_len (n := a2.length) F.u_22 rfl (.inr ⟨(fun _ _ h => by cases h), ⟨_, rfl⟩⟩) k
     ·intro K _ f w u k
      show Wp K ⟨64, (upd 64 f 19 (si (a2.length : Int))), _⟩
      refine s_binI (v := (.bool (decide ((a2.length : Int) > 0)))) rfl rfl rfl k
     ·intro K _ f w u k
      show Wp K ⟨64, (upd 64 f 20 (sb (decide ((a2.length : Int) > 0)))), _⟩
      refine s_move (d := (sb (decide ((a2.length : Int) > 0)))) rfl k
     ·intro K _ f w u k
      show Wp K ⟨64, (upd 64 (upd 64 f 21 (sb (decide ((a2.length : Int) > 0)))) 2 (ds_ e_u8 a2)), _⟩
      refine AWops.guard_no rfl (nl rfl) rfl c4 k
     ·intro K _ f w u k
      show Wp K ⟨64, (upd 64 f 21 (sb (decide ((a2.length : Int) > 0)))), _⟩
      refine AWops.guard_no rfl (nl rfl) rfl c4 k
     ·intro K _ f w u k
      show Wp K ⟨64, (upd 64 f 21 (sb (decide ((a2.length : Int) > 0)))), _⟩
      refine AWops.guard_no rfl (nl rfl) rfl c4 k
     ·intro K _ f w u k
      show Wp K ⟨64, (upd 64 f 21 (sb (decide ((a2.length : Int) > 0)))), _⟩
      refine AWops.guard_no rfl (nl rfl) rfl c4 k
     ·intro K _ f w u k
      show Wp K ⟨64, (upd 64 f 21 (sb (decide ((a2.length : Int) > 0)))), _⟩
      refine AWops.guard_no rfl (nl rfl) rfl c4 k
     ·intro K _ f w u k
      show Wp K ⟨64, (upd 64 f 21 (sb (decide ((a2.length : Int) > 0)))), _⟩
      refine AWops.guard_no rfl (nl rfl) rfl c4 k
     ·intro K _ f w u k
      show Wp K ⟨64, (upd 64 f 21 (sb (decide ((a2.length : Int) > 0)))), _⟩
      refine AWops.guard_no rfl (nl rfl) rfl c4 k
     ·intro K _ f w u k
      show Wp K ⟨64, (upd 64 f 21 (sb (decide ((a2.length : Int) > 0)))), _⟩
      refine AWops.guard_no rfl (nl rfl) rfl c4 k
     ·intro K _ f w u k
      show Wp K ⟨64, (upd 64 f 21 (sb (decide ((a2.length : Int) > 0)))), _⟩
      refine AWops.guard_no rfl (nl rfl) rfl c4 k
     ·intro K _ f w u k
      show Wp K ⟨64, (upd 64 f 21 (sb (decide ((a2.length : Int) > 0)))), _⟩
      refine AWops.guard_no rfl (nl rfl) rfl c4 k
     ·intro K _ f w u k
      show Wp K ⟨64, (upd 64 f 21 (sb (decide ((a2.length : Int) > 0)))), _⟩
      refine s_pick_no (d := (sb false)) rfl c4 rfl k
    ·refine AWops.weak (st' := ⟨64, (upd 64 (upd 64 (upd 64 (upd 64 topF 0 (rf 0 0)) 1 (st_ a1)) 2 (ds_ e_u8 a2)) 32 (sb false)), [(o_dossierref03_Disk_0 false (C.own 2 0 p0.L.length 3) p0), none, (or_ e_dossierref03_File p0.L)]⟩) (wg 2 [0, 1, 2] [] hx (le_upd (le_upd (le_upd (le_upd (le_top _) (o1 (.ref rfl))) (o1 .sc)) (o1 .same)) (o1 .sc)) (ac (qo rfl) (ac (.none _) (ac (.cells id (all2_row _)) an)))) (AWops.nil ?_)
     refine AW.cond_no rfl rfl (AW.skip (AW.seq (AW.seq (AW.region ?_))))
     refine s_move (d := (rf 0 0)) rfl ?_
     obtain ⟨r17, er17, h⟩ := bnd h
     refine cc [0, 2] [(o_dossierref03_Disk_0 false (C.own 2 0 r17.2.L.length 3) r17.2), none, (or_ e_dossierref03_File r17.2.L)] (si r17.1) F.ca_65 rfl rfl (ac (.one (.ref rfl)) an) (ac (.cells (ac (.own rfl) (ac .sc (ac .sc (ac .sc an))))) (ac (.cells (lend_row _)) an)) (dossierref03_Disk_burn.meets _ p0 r17 er17) (s_assign (d := (si r17.1)) rfl (AWops.nil (AW.seq (AW.region (s_move (d := (si r17.1)) rfl (s_binI (v := (.bool (r17.1 != 0))) rfl rfl rfl (AWops.nil ?_)))))))
     rcases itH h with ⟨c18, h⟩ | ⟨c18, h⟩
     ·refine AW.cond_yes rfl c18 (AW.seq (AW.region ?_))
      refine s_move (d := (si r17.1)) rfl (s_assign (d := (si r17.1)) rfl (AWops.nil (AW.ret ?_)))
      obtain rfl := Option.some.inj h
      exact ⟨_, rfl, (wg 2 [0, 1, 2] [] rfl (le_upd (le_top _) (o1 .sc)) (ac (qo rfl) (ac (.none _) (ac (.cells id (all2_row _)) an))))⟩
     ·refine AW.cond_no rfl c18 (AW.skip (AW.seq (AW.region ?_)))
      refine s_move (d := (st_ a1)) rfl (s_build (ps := [(0, (st_ a1))]) (cs := [(ct a1), (C.p true (.v (.slice none 0 0))), (ci 0)]) F.z_109 rfl F.so_109 rfl rfl (s_alloc (cs := [(ct (⟨#[]⟩ : ByteArray)), (C.p true (.v (.slice none 0 0))), (ci 0)]) F.z_109 rfl rfl (s_store (cs' := [(ct a1), (C.p true (.v (.slice none 0 0))), (ci 0)]) rfl rfl rfl (List.cons_ne_nil _ _) rfl F.sz_109 (nl rfl) rfl (AWops.nil ?_))))
      refine AW.seqJ (fun st => ∃ (x23 : dossierref03_File), dossierref03_Disk_Append_40.j1 k x23 a2 r17 = some r ∧ st = ⟨64, (upd 64 (upd 64 (upd 64 topF 0 (rf 0 0)) 2 (ds_ e_u8 a2)) 8 (rf 2 0)), [(o_dossierref03_Disk_0 false (C.own 3 0 r17.2.L.length 3) r17.2), none, (some (AObj.cells true (c_dossierref03_File x23))), (or_ e_dossierref03_File r17.2.L)]⟩) ?_ ?_
      ·refine AW.seq (AW.region ?_)
       refine s_move (d := (rf 0 0)) rfl (s_move (d := (st_ a1)) rfl ?_)
       obtain ⟨r19, er19, h⟩ := bnd h
       refine cc [0, 2] [(o_dossierref03_Disk_0 false (C.own 2 0 r17.2.L.length 3) r17.2), none, (or_ e_dossierref03_File r17.2.L), (some (AObj.cells true [(ct a1), (C.p true (.v (.slice none 0 0))), (ci 0)]))] (D.tup [(si r19.1), (sb r19.2)]) F.ca_66 rfl rfl (ac (.one (.ref rfl)) (ac (.one .sc) an)) (ac (.cells (ac (.own rfl) (ac .sc (ac .sc (ac .sc an))))) (ac (.cells (lend_row _)) an)) (dossierref03_Disk_place.meets _ r17.2 a1 r19 er19) (s_move (d := (D.tup [(si r19.1), (sb r19.2)])) rfl (s_extract (d := (si r19.1)) rfl rfl (s_extract (d := (sb r19.2)) rfl rfl (s_assign (d := (si r19.1)) rfl (s_assign (d := (sb r19.2)) rfl (AWops.nil (AW.seq (AW.region ?_))))))))
       refine s_move (d := (sb r19.2)) rfl (AWops.nil ?_)
       rcases itH h with ⟨c20, h⟩ | ⟨c20, h⟩
       ·refine AW.cond_yes rfl c20 (AW.region ?_)
        refine s_move (d := (rf 0 0)) rfl (s_nilCheck (d := (rf 0 0)) rfl (.inl ⟨_, _, rfl⟩) (s_fieldRef F.fo_84_0 (by decide) rfl (s_load1 (c' := (C.own 2 0 r17.2.L.length 3)) F.ag_82 rfl rfl (s_move (d := (si r19.1)) rfl ?_))))
        obtain ⟨v21, ev21, h⟩ := bnd h
        obtain ⟨pv21, qv21, gv21⟩ := rd_some ev21
        refine s_indexOwn (d := (D.one (C.ref 2 (0 + r19.1.toNat * 3)))) F.u_82 F.sz_109 rfl rfl pv21 qv21 rfl ?_
        obtain ⟨R22, hR22⟩ := row_at (f := e_dossierref03_File) (sz := 3) (o := 0) e_dossierref03_File_len gv21 (e_dossierref03_File_eq v21) (by decide)
        refine s_loadN (ds := (c_dossierref03_File v21)) F.ag_109 F.sz_109 (congrArg some hR22) rfl rfl (s_store (cs' := (c_dossierref03_File v21)) rfl rfl rfl (List.cons_ne_nil _ _) rfl F.sz_109 (nl rfl) rfl (AWops.nil ?_))
        exact ⟨⟨64, (upd 64 (upd 64 (upd 64 topF 0 (rf 0 0)) 2 (ds_ e_u8 a2)) 8 (rf 2 0)), [(o_dossierref03_Disk_0 false (C.own 3 0 r17.2.L.length 3) r17.2), none, (some (AObj.cells true (c_dossierref03_File v21))), (or_ e_dossierref03_File r17.2.L)]⟩, (wg 2 [0, 1, 3, 2] [] hx (le_upd (le_upd (le_upd (le_top _) (o1 (.ref rfl))) (o1 .same)) (o1 (.ref rfl))) (ac (qo rfl) (ac (.none _) (ac (.cells (fun _ => rfl) (ac .sc (ac .same (ac .sc an)))) (ac (.cells id (all2_row _)) an))))), v21, h, rfl⟩
       ·refine AW.cond_no rfl c20 (AW.skip ?_)
        exact ⟨⟨64, (upd 64 (upd 64 (upd 64 topF 0 (rf 0 0)) 2 (ds_ e_u8 a2)) 8 (rf 2 0)), [(o_dossierref03_Disk_0 false (C.own 3 0 r17.2.L.length 3) r17.2), none, (some (AObj.cells true (c_dossierref03_File (⟨a1, ([] : List Int), 0⟩ : dossierref03_File)))), (or_ e_dossierref03_File r17.2.L)]⟩, (wg 2 [0, 1, 3, 2] [] hx (le_upd (le_upd (le_upd (le_top _) (o1 (.ref rfl))) (o1 .same)) (o1 (.ref rfl))) (ac (qo rfl) (ac (.none _) (ac (.cells (fun _ => rfl) (ac .sc (ac .nil (ac .sc an)))) (ac (.cells id (all2_row _)) an))))), (⟨a1, ([] : List Int), 0⟩ : dossierref03_File), h, rfl⟩
      ·rintro st ⟨x23, h, rfl⟩
       cases k with
       | zero => exact absurd h (by simp [dossierref03_Disk_Append_40.j1])
       | succ qj1 =>
        replace h := (dossierref03_Disk_Append_40.j1.eq_2 _ _ _ _).symm.trans h
        refine AW.seq (AW.region ?_)
        refine s_buildSlice (n := 0) (ps := []) (cs := rowC e_u8 ([] : List Int)) F.u_22 F.sz_5 F.z_5 rfl rfl (by decide) (by decide) rfl rfl (s_fieldRef F.fo_109_1 (by decide) rfl (s_load1 (c' := (cl_ e_u8 x23.B)) F.ag_22 rfl rfl ?_))
        obtain ⟨c24, h⟩ := gdH h
        have dc24 := of_decide_eq_true c24
        refine t_append (xs := ([] : List Int)) (ys := x23.B) (zs := x23.B) (H' := [(o_dossierref03_Disk_0 false (C.own 3 0 r17.2.L.length 3) r17.2), none, (some (AObj.cells true (c_dossierref03_File x23))), (or_ e_dossierref03_File r17.2.L), none, (ow_ e_u8 x23.B)]) F.u_22 F.in_5 rfl e_u8_len (.own rfl rfl) .imm F.u_22 (by omega) (by omega) rfl rfl (s_move (d := (ds_ e_u8 a2)) rfl ?_)
        obtain ⟨c25, h⟩ := gdH h
        have dc25 := of_decide_eq_true c25
        refine t_append (xs := x23.B) (ys := a2) (zs := x23.B ++ a2) (H' := [(o_dossierref03_Disk_0 false (C.own 3 0 r17.2.L.length 3) r17.2), none, (some (AObj.cells true (c_dossierref03_File x23))), (or_ e_dossierref03_File r17.2.L), none, none, (some (AObj.cells true (rowC e_u8 (x23.B ++ a2))))]) F.u_22 F.in_5 rfl e_u8_len (.own rfl rfl) .imm F.u_22 (by omega) (by omega) rfl rfl (s_fieldRef F.fo_109_1 (by decide) rfl (s_store (cs' := [(ct x23.Name), (C.own 6 0 ((x23.B ++ a2).length) 1), (ci x23.Sure)]) rfl rfl rfl (List.cons_ne_nil _ _) rfl F.sz_22 (nl rfl) rfl (AWops.nil (AW.seq (AW.region (s_move (d := (rf 0 0)) rfl (s_loadN (ds := [(ct x23.Name), (C.own 6 0 ((x23.B ++ a2).length) 1), (ci x23.Sure)]) F.ag_109 F.sz_109 rfl rfl rfl ?_)))))))
        obtain ⟨r26, er26, h⟩ := bnd h
        refine AWops.weak (st' := ⟨64, (upd 64 (upd 64 (upd 64 (upd 64 (upd 64 (upd 64 (upd 64 (upd 64 (upd 64 (upd 64 topF 0 (rf 0 0)) 2 (ds_ e_u8 a2)) 8 (rf 2 0)) 55 (rf 2 1)) 56 (ds_ e_u8 x23.B)) 58 (ds_ e_u8 a2)) 59 (D.one (C.p false (.sl (x23.B ++ a2).length ((x23.B ++ a2).flatMap e_u8))))) 60 (rf 2 1)) 61 (rf 0 0)) 62 (D.agg [(ct x23.Name), (C.p false (.sl (x23.B ++ a2).length ((x23.B ++ a2).flatMap e_u8))), (ci x23.Sure)])), [(o_dossierref03_Disk_0 false (C.own 3 0 r17.2.L.length 3) r17.2), none, (some (AObj.cells true [(ct x23.Name), (C.p false (.sl (x23.B ++ a2).length ((x23.B ++ a2).flatMap e_u8))), (ci x23.Sure)])), (or_ e_dossierref03_File r17.2.L)]⟩) (wg 2 [0, 1, 2, 3] [6] hx (le_upd (le_upd (le_upd (le_upd (le_upd (le_upd (le_upd (le_upd (le_upd (le_upd (le_top _) (o1 (.ref rfl))) (o1 .same)) (o1 (.ref rfl))) (o1 (.ref rfl))) (o1 .same)) (o1 .same)) (o1 (CLe.frz e_u8_len rfl rfl rfl))) (o1 (.ref rfl))) (o1 (.ref rfl))) (.t (.agg (ac .sc (ac (CLe.frz e_u8_len rfl rfl rfl) (ac .sc an)))))) (ac (qo rfl) (ac (.none _) (ac (.cells (fun _ => rfl) (ac .sc (ac (CLe.frz e_u8_len rfl rfl rfl) (ac .sc an)))) (ac (.cells id (all2_row _)) an))))) ?_
        refine cc [0, 3] [(o_dossierref03_Disk_0 false (C.own 4 0 r26.L.length 3) r26), none, (some (AObj.cells true [(ct x23.Name), (C.p false (.sl (x23.B ++ a2).length ((x23.B ++ a2).flatMap e_u8))), (ci x23.Sure)])), none, (or_ e_dossierref03_File r26.L)] (D.tup []) F.ca_67 rfl rfl (ac (.one (.ref rfl)) (ac (LendT.aggL (ac .sc (ac .imm (ac .sc an)))) an)) (ac (.cells (ac (.own rfl) (ac .sc (ac .sc (ac .sc an))))) (ac (.cells (lend_row _)) an)) (dossierref03_Disk_set_67.meets _ r17.2 (⟨x23.Name, x23.B ++ a2, x23.Sure⟩ : dossierref03_File) r26 er26) (AWops.nil (AW.seq (AW.region ?_)))
        refine s_assign (d := (si 0)) rfl (AWops.nil (AW.ret ?_))
        obtain rfl := Option.some.inj h
        exact ⟨_, rfl, (wg 2 [0, 1, 4] [] rfl (le_upd (le_top _) (o1 .sc)) (ac (qo rfl) (ac (.none _) (ac (.cells id (all2_row _)) an))))⟩
 ·refine AW.cond_yes rfl (by rw [c2] <;> rfl) (AW.seq (AW.region ?_))
  refine s_assign (d := (si 1)) rfl (AWops.nil (AW.ret ?_))
  obtain rfl := Option.some.inj h
  exact ⟨_, rfl, (wg 2 [0, 1, 2] [] rfl (le_upd (le_top _) (o1 .sc)) (ac (qo rfl) (ac (.none _) (ac (.cells id (all2_row _)) an))))⟩
def dossierplain_Step_Do_20.f (k : Nat) (a0 : dossierplain_Step) (p0 : vdisk_Disk) (p1 : dossierref03_Disk) : Option (Bool × vdisk_Disk × dossierref03_Disk) := (bytes_Clone.f k a0.B).bind fun r1 => (vdisk_Disk_Append.f k p0 (⟨#[106, 111, 117, 114, 110, 97, 108]⟩ : ByteArray) r1).bind fun r2 => (dossierplain_Spoil.f k () r1).bind fun r3 => (dossierref03_Disk_Append_40.f k p1 (⟨#[106, 111, 117, 114, 110, 97, 108]⟩ : ByteArray) a0.B).bind fun r4 => some ((r2.1 == r4.1), r2.2, r4.2)
theorem dossierplain_Step_Do_20.meets (k : Nat) (a0 : dossierplain_Step) (p0 : vdisk_Disk) (p1 : dossierref03_Disk) (r : Bool × vdisk_Disk × dossierref03_Disk) (h : dossierplain_Step_Do_20.f k a0 p0 p1 = some r) : Meets Try.prog 20 [(D.agg [(ci 0), (ci 0), (ct (⟨#[106, 111, 117, 114, 110, 97, 108]⟩ : ByteArray)), (ct (⟨#[]⟩ : ByteArray)), (cl_ e_u8 a0.B), (C.p true (.v (.slice none 0 0)))]), (rf 0 0), (rf 1 0)] [(o_vdisk_Disk_03 false (C.mp 2) np p0), (o_dossierref03_Disk_0 false (C.own 3 0 p1.L.length 3) p1), (om_ e_vdisk_file p0.files), (or_ e_dossierref03_File p1.L)] (sb r.1) [(o_vdisk_Disk_03 false (C.mp 2) np r.2.1), (o_dossierref03_Disk_0 false (C.own 4 0 r.2.2.L.length 3) r.2.2), (om_ e_vdisk_file r.2.1.files), none, (or_ e_dossierref03_File r.2.2.L)] := by
 unfold dossierplain_Step_Do_20.f at h
 refine Meets.of_body (n := 119) Try.func20 rfl rfl (nl rfl) fun x hx => ?_
 replace hx : x.k = 4 := hx
 show AW _ x _ _ ⟨119, fr0 [(D.agg [(ci 0), (ci 0), (ct (⟨#[106, 111, 117, 114, 110, 97, 108]⟩ : ByteArray)), (ct (⟨#[]⟩ : ByteArray)), (cl_ e_u8 a0.B), (C.p true (.v (.slice none 0 0)))]), (rf 0 0), (rf 1 0)], [(o_vdisk_Disk_03 false (C.mp 2) np p0), (o_dossierref03_Disk_0 false (C.own 3 0 p1.L.length 3) p1), (om_ e_vdisk_file p0.files), (or_ e_dossierref03_File p1.L)]⟩
 refine AW.weak (st' := ⟨119, (upd 119 (upd 119 (upd 119 topF 0 (D.agg [(ci 0), (ci 0), (ct (⟨#[106, 111, 117, 114, 110, 97, 108]⟩ : ByteArray)), (ct (⟨#[]⟩ : ByteArray)), (cl_ e_u8 a0.B), (C.p true (.v (.slice none 0 0)))])) 1 (rf 0 0)) 2 (rf 1 0)), [(o_vdisk_Disk_03 false (C.mp 2) np p0), (o_dossierref03_Disk_0 false (C.own 4 0 p1.L.length 3) p1), (om_ e_vdisk_file p0.files), none, (or_ e_dossierref03_File p1.L)]⟩) (Weak.genL (kk := 4) [0, 1, 2, 3, 3] [] hx rfl (by decide) rfl rfl rfl rfl (le_upd (le_upd (le_upd (le_top _) (.t (.agg (ac .sc (ac .sc (ac .sc (ac .sc (ac .same (ac .sc an))))))))) (o1 (.ref rfl))) (o1 (.ref rfl))) (ac (qs rfl) (ac (qo rfl) (ac .map (ac (.none _) (ac (.cells id (all2_row _)) an)))))) (AW.seq (AW.region ?_))
 refine s_box (cs := [(ci 0), (ci 0), (ct (⟨#[106, 111, 117, 114, 110, 97, 108]⟩ : ByteArray)), (ct (⟨#[]⟩ : ByteArray)), (cl_ e_u8 a0.B), (C.p true (.v (.slice none 0 0)))]) rfl (List.cons_ne_nil _ _) rfl (s_assign (d := (sb false)) rfl (AWops.nil (AW.seq (AW.seq (AW.region (s_fieldRef F.fo_59_0 (by decide) rfl (s_load1 (c' := (ci 0)) F.ag_3 rfl rfl (s_convL (j := 0) F.u_3 F.u_46 rfl (by rfl) (s_binI (v := (.int .u64 0)) rfl rfl (by rfl) ?_)))))))))
 refine s_convL (j := 0) F.u_46 F.u_3 rfl (by rfl) (AWops.nil (AW.block (AW.seq (AW.seq (AW.region ?_)))))
 refine s_binI (v := (.bool true)) rfl rfl rfl (s_assign (d := (sb true)) rfl (AWops.nil ?_))
 refine AW.cond_yes rfl rfl (AW.skip ?_)
 refine AW.cond_yes rfl rfl (AW.seq (AW.region ?_))
 refine s_fieldRef F.fo_59_4 (by decide) rfl (s_load1 (c' := (cl_ e_u8 a0.B)) F.ag_22 rfl rfl ?_)
 obtain ⟨r1, er1, h⟩ := bnd h
 refine cc [] [(o_vdisk_Disk_03 false (C.mp 2) np p0), (o_dossierref03_Disk_0 false (C.own 4 0 p1.L.length 3) p1), (om_ e_vdisk_file p0.files), none, (or_ e_dossierref03_File p1.L), (some (AObj.cells true [(ci 0), (ci 0), (ct (⟨#[106, 111, 117, 114, 110, 97, 108]⟩ : ByteArray)), (ct (⟨#[]⟩ : ByteArray)), (cl_ e_u8 a0.B), (C.p true (.v (.slice none 0 0)))])), (ow_ e_u8 r1)] (D.one (C.own 6 0 r1.length 1)) F.ca_38 rfl rfl (ac (.one .imm) an) an (bytes_Clone.meets _ a0.B r1 er1) (s_assign (d := (D.one (C.own 6 0 r1.length 1))) rfl (AWops.nil (AW.seq (AW.region (s_move (d := (rf 0 0)) rfl (s_fieldRef F.fo_59_2 (by decide) rfl (s_load1 (c' := (ct (⟨#[106, 111, 117, 114, 110, 97, 108]⟩ : ByteArray))) F.ag_9 rfl rfl (s_move (d := (D.one (C.own 6 0 r1.length 1))) rfl ?_))))))))
 obtain ⟨r2, er2, h⟩ := bnd h
 refine cc [0, 6, 2] [(o_vdisk_Disk_03 false (C.mp 2) np r2.2), (o_dossierref03_Disk_0 false (C.own 4 0 p1.L.length 3) p1), (om_ e_vdisk_file r2.2.files), none, (or_ e_dossierref03_File p1.L), (some (AObj.cells true [(ci 0), (ci 0), (ct (⟨#[106, 111, 117, 114, 110, 97, 108]⟩ : ByteArray)), (ct (⟨#[]⟩ : ByteArray)), (cl_ e_u8 a0.B), (C.p true (.v (.slice none 0 0)))])), (ow_ e_u8 r1)] (si r2.1) F.ca_25 rfl rfl (ac (.one (.ref rfl)) (ac (.one .sc) (ac (.one (.own rfl)) an))) (ac (.cells (ac (.mp rfl) (ac .sc (ac .sc (ac .sc (ac .sc an)))))) (ac (.cells (lend_row _)) (ac .map an))) (vdisk_Disk_Append.meets _ p0 (⟨#[106, 111, 117, 114, 110, 97, 108]⟩ : ByteArray) r1 r2 er2) (s_assign (d := (si r2.1)) rfl (AWops.nil (AW.seq (AW.region (s_move (d := (D.one (C.own 6 0 r1.length 1))) rfl (s_buildSlice (n := 1) (ps := [(0, (D.one (C.own 6 0 r1.length 1)))]) (cs := [(C.own 6 0 r1.length 1)]) F.u_25 F.sz_22 F.z_22 rfl rfl (by decide) (by decide) rfl rfl ?_))))))
 obtain ⟨r3, er3, h⟩ := bnd h
 refine cc [7, 6] [(o_vdisk_Disk_03 false (C.mp 2) np r2.2), (o_dossierref03_Disk_0 false (C.own 4 0 p1.L.length 3) p1), (om_ e_vdisk_file r2.2.files), none, (or_ e_dossierref03_File p1.L), (some (AObj.cells true [(ci 0), (ci 0), (ct (⟨#[106, 111, 117, 114, 110, 97, 108]⟩ : ByteArray)), (ct (⟨#[]⟩ : ByteArray)), (cl_ e_u8 a0.B), (C.p true (.v (.slice none 0 0)))])), (ow_ e_u8 r3), (some (AObj.cells true [(C.own 6 0 r3.length 1)]))] (D.tup []) F.ca_39 rfl rfl (ac (.one (.own rfl)) an) (ac (.cells (ac (.own rfl) an)) (ac (.cells (lend_row _)) an)) (dossierplain_Spoil.meets _ () r1 r3 er3) (AWops.nil (AW.seq (AW.region ?_)))
 refine s_move (d := (si r2.1)) rfl (s_move (d := (rf 1 0)) rfl (s_fieldRef F.fo_59_2 (by decide) rfl (s_load1 (c' := (ct (⟨#[106, 111, 117, 114, 110, 97, 108]⟩ : ByteArray))) F.ag_9 rfl rfl (s_fieldRef F.fo_59_4 (by decide) rfl (s_load1 (c' := (cl_ e_u8 a0.B)) F.ag_22 rfl rfl ?_)))))
 obtain ⟨r4, er4, h⟩ := bnd h
 refine cc [1, 4] [(o_vdisk_Disk_03 false (C.mp 2) np r2.2), (o_dossierref03_Disk_0 false (C.own 8 0 r4.2.L.length 3) r4.2), (om_ e_vdisk_file r2.2.files), none, none, (some (AObj.cells true [(ci 0), (ci 0), (ct (⟨#[106, 111, 117, 114, 110, 97, 108]⟩ : ByteArray)), (ct (⟨#[]⟩ : ByteArray)), (cl_ e_u8 a0.B), (C.p true (.v (.slice none 0 0)))])), (ow_ e_u8 r3), (some (AObj.cells true [(C.own 6 0 r3.length 1)])), (or_ e_dossierref03_File r4.2.L)] (si r4.1) F.ca_40 rfl rfl (ac (.one (.ref rfl)) (ac (.one .sc) (ac (.one .imm) an))) (ac (.cells (ac (.own rfl) (ac .sc (ac .sc (ac .sc an))))) (ac (.cells (lend_row _)) an)) (dossierref03_Disk_Append_40.meets _ p1 (⟨#[106, 111, 117, 114, 110, 97, 108]⟩ : ByteArray) a0.B r4 er4) (s_binI (v := (.bool (r2.1 == r4.1))) rfl rfl rfl (s_assign (d := (sb (r2.1 == r4.1))) rfl (AWops.nil (AW.ret ?_))))
 obtain rfl := Option.some.inj h
 exact ⟨_, rfl, (wg 4 [0, 1, 2, 3, 8] [] rfl (le_upd (le_top _) (o1 .sc)) (ac (qs rfl) (ac (qo rfl) (ac .map (ac (.none _) (ac (.cells id (all2_row _)) an))))))⟩
def dossierplain_Step_Do_20xx.f (k : Nat) (a0 : dossierplain_Step) (p0 : vdisk_Disk) (p1 : dossierref03_Disk) : Option (Bool × vdisk_Disk × dossierref03_Disk) := (bytes_Clone.f k a0.B).bind fun r1 => (vdisk_Disk_Append.f k p0 (⟨#[106, 111, 117, 114, 110, 97, 108, 46, 110, 101, 119]⟩ : ByteArray) r1).bind fun r2 => (dossierplain_Spoil.f k () r1).bind fun r3 => (dossierref03_Disk_Append_40.f k p1 (⟨#[106, 111, 117, 114, 110, 97, 108, 46, 110, 101, 119]⟩ : ByteArray) a0.B).bind fun r4 => some ((r2.1 == r4.1), r2.2, r4.2)
theorem dossierplain_Step_Do_20xx.meets (k : Nat) (a0 : dossierplain_Step) (p0 : vdisk_Disk) (p1 : dossierref03_Disk) (r : Bool × vdisk_Disk × dossierref03_Disk) (h : dossierplain_Step_Do_20xx.f k a0 p0 p1 = some r) : Meets Try.prog 20 [(D.agg [(ci 0), (ci 0), (ct (⟨#[106, 111, 117, 114, 110, 97, 108, 46, 110, 101, 119]⟩ : ByteArray)), (ct (⟨#[]⟩ : ByteArray)), (cl_ e_u8 a0.B), (C.p true (.v (.slice none 0 0)))]), (rf 0 0), (rf 1 0)] [(o_vdisk_Disk_03 false (C.mp 2) np p0), (o_dossierref03_Disk_0 false (C.own 3 0 p1.L.length 3) p1), (om_ e_vdisk_file p0.files), (or_ e_dossierref03_File p1.L)] (sb r.1) [(o_vdisk_Disk_03 false (C.mp 2) np r.2.1), (o_dossierref03_Disk_0 false (C.own 4 0 r.2.2.L.length 3) r.2.2), (om_ e_vdisk_file r.2.1.files), none, (or_ e_dossierref03_File r.2.2.L)] := by
 unfold dossierplain_Step_Do_20xx.f at h
 refine Meets.of_body (n := 119) Try.func20 rfl rfl (nl rfl) fun x hx => ?_
 replace hx : x.k = 4 := hx
 show AW _ x _ _ ⟨119, fr0 [(D.agg [(ci 0), (ci 0), (ct (⟨#[106, 111, 117, 114, 110, 97, 108, 46, 110, 101, 119]⟩ : ByteArray)), (ct (⟨#[]⟩ : ByteArray)), (cl_ e_u8 a0.B), (C.p true (.v (.slice none 0 0)))]), (rf 0 0), (rf 1 0)], [(o_vdisk_Disk_03 false (C.mp 2) np p0), (o_dossierref03_Disk_0 false (C.own 3 0 p1.L.length 3) p1), (om_ e_vdisk_file p0.files), (or_ e_dossierref03_File p1.L)]⟩
 refine AW.weak (st' := ⟨119, (upd 119 (upd 119 (upd 119 topF 0 (D.agg [(ci 0), (ci 0), (ct (⟨#[106, 111, 117, 114, 110, 97, 108, 46, 110, 101, 119]⟩ : ByteArray)), (ct (⟨#[]⟩ : ByteArray)), (cl_ e_u8 a0.B), (C.p true (.v (.slice none 0 0)))])) 1 (rf 0 0)) 2 (rf 1 0)), [(o_vdisk_Disk_03 false (C.mp 2) np p0), (o_dossierref03_Disk_0 false (C.own 4 0 p1.L.length 3) p1), (om_ e_vdisk_file p0.files), none, (or_ e_dossierref03_File p1.L)]⟩) (Weak.genL (kk := 4) [0, 1, 2, 3, 3] [] hx rfl (by decide) rfl rfl rfl rfl (le_upd (le_upd (le_upd (le_top _) (.t (.agg (ac .sc (ac .sc (ac .sc (ac .sc (ac .same (ac .sc an))))))))) (o1 (.ref rfl))) (o1 (.ref rfl))) (ac (qs rfl) (ac (qo rfl) (ac .map (ac (.none _) (ac (.cells id (all2_row _)) an)))))) (AW.seq (AW.region ?_))
 refine s_box (cs := [(ci 0), (ci 0), (ct (⟨#[106, 111, 117, 114, 110, 97, 108, 46, 110, 101, 119]⟩ : ByteArray)), (ct (⟨#[]⟩ : ByteArray)), (cl_ e_u8 a0.B), (C.p true (.v (.slice none 0 0)))]) rfl (List.cons_ne_nil _ _) rfl (s_assign (d := (sb false)) rfl (AWops.nil (AW.seq (AW.seq (AW.region (s_fieldRef F.fo_59_0 (by decide) rfl (s_load1 (c' := (ci 0)) F.ag_3 rfl rfl (s_convL (j := 0) F.u_3 F.u_46 rfl (by rfl) (s_binI (v := (.int .u64 0)) rfl rfl (by rfl) ?_)))))))))
 refine s_convL (j := 0) F.u_46 F.u_3 rfl (by rfl) (AWops.nil (AW.block (AW.seq (AW.seq (AW.region ?_)))))
 refine s_binI (v := (.bool true)) rfl rfl rfl (s_assign (d := (sb true)) rfl (AWops.nil ?_))
 refine AW.cond_yes rfl rfl (AW.skip ?_)
 refine AW.cond_yes rfl rfl (AW.seq (AW.region ?_))
 refine s_fieldRef F.fo_59_4 (by decide) rfl (s_load1 (c' := (cl_ e_u8 a0.B)) F.ag_22 rfl rfl ?_)
 obtain ⟨r1, er1, h⟩ := bnd h
 refine cc [] [(o_vdisk_Disk_03 false (C.mp 2) np p0), (o_dossierref03_Disk_0 false (C.own 4 0 p1.L.length 3) p1), (om_ e_vdisk_file p0.files), none, (or_ e_dossierref03_File p1.L), (some (AObj.cells true [(ci 0), (ci 0), (ct (⟨#[106, 111, 117, 114, 110, 97, 108, 46, 110, 101, 119]⟩ : ByteArray)), (ct (⟨#[]⟩ : ByteArray)), (cl_ e_u8 a0.B), (C.p true (.v (.slice none 0 0)))])), (ow_ e_u8 r1)] (D.one (C.own 6 0 r1.length 1)) F.ca_38 rfl rfl (ac (.one .imm) an) an (bytes_Clone.meets _ a0.B r1 er1) (s_assign (d := (D.one (C.own 6 0 r1.length 1))) rfl (AWops.nil (AW.seq (AW.region (s_move (d := (rf 0 0)) rfl (s_fieldRef F.fo_59_2 (by decide) rfl (s_load1 (c' := (ct (⟨#[106, 111, 117, 114, 110, 97, 108, 46, 110, 101, 119]⟩ : ByteArray))) F.ag_9 rfl rfl (s_move (d := (D.one (C.own 6 0 r1.length 1))) rfl ?_))))))))
 obtain ⟨r2, er2, h⟩ := bnd h
 refine cc [0, 6, 2] [(o_vdisk_Disk_03 false (C.mp 2) np r2.2), (o_dossierref03_Disk_0 false (C.own 4 0 p1.L.length 3) p1), (om_ e_vdisk_file r2.2.files), none, (or_ e_dossierref03_File p1.L), (some (AObj.cells true [(ci 0), (ci 0), (ct (⟨#[106, 111, 117, 114, 110, 97, 108, 46, 110, 101, 119]⟩ : ByteArray)), (ct (⟨#[]⟩ : ByteArray)), (cl_ e_u8 a0.B), (C.p true (.v (.slice none 0 0)))])), (ow_ e_u8 r1)] (si r2.1) F.ca_25 rfl rfl (ac (.one (.ref rfl)) (ac (.one .sc) (ac (.one (.own rfl)) an))) (ac (.cells (ac (.mp rfl) (ac .sc (ac .sc (ac .sc (ac .sc an)))))) (ac (.cells (lend_row _)) (ac .map an))) (vdisk_Disk_Append.meets _ p0 (⟨#[106, 111, 117, 114, 110, 97, 108, 46, 110, 101, 119]⟩ : ByteArray) r1 r2 er2) (s_assign (d := (si r2.1)) rfl (AWops.nil (AW.seq (AW.region (s_move (d := (D.one (C.own 6 0 r1.length 1))) rfl (s_buildSlice (n := 1) (ps := [(0, (D.one (C.own 6 0 r1.length 1)))]) (cs := [(C.own 6 0 r1.length 1)]) F.u_25 F.sz_22 F.z_22 rfl rfl (by decide) (by decide) rfl rfl ?_))))))
 obtain ⟨r3, er3, h⟩ := bnd h
 refine cc [7, 6] [(o_vdisk_Disk_03 false (C.mp 2) np r2.2), (o_dossierref03_Disk_0 false (C.own 4 0 p1.L.length 3) p1), (om_ e_vdisk_file r2.2.files), none, (or_ e_dossierref03_File p1.L), (some (AObj.cells true [(ci 0), (ci 0), (ct (⟨#[106, 111, 117, 114, 110, 97, 108, 46, 110, 101, 119]⟩ : ByteArray)), (ct (⟨#[]⟩ : ByteArray)), (cl_ e_u8 a0.B), (C.p true (.v (.slice none 0 0)))])), (ow_ e_u8 r3), (some (AObj.cells true [(C.own 6 0 r3.length 1)]))] (D.tup []) F.ca_39 rfl rfl (ac (.one (.own rfl)) an) (ac (.cells (ac (.own rfl) an)) (ac (.cells (lend_row _)) an)) (dossierplain_Spoil.meets _ () r1 r3 er3) (AWops.nil (AW.seq (AW.region ?_)))
 refine s_move (d := (si r2.1)) rfl (s_move (d := (rf 1 0)) rfl (s_fieldRef F.fo_59_2 (by decide) rfl (s_load1 (c' := (ct (⟨#[106, 111, 117, 114, 110, 97, 108, 46, 110, 101, 119]⟩ : ByteArray))) F.ag_9 rfl rfl (s_fieldRef F.fo_59_4 (by decide) rfl (s_load1 (c' := (cl_ e_u8 a0.B)) F.ag_22 rfl rfl ?_)))))
 obtain ⟨r4, er4, h⟩ := bnd h
 refine cc [1, 4] [(o_vdisk_Disk_03 false (C.mp 2) np r2.2), (o_dossierref03_Disk_0 false (C.own 8 0 r4.2.L.length 3) r4.2), (om_ e_vdisk_file r2.2.files), none, none, (some (AObj.cells true [(ci 0), (ci 0), (ct (⟨#[106, 111, 117, 114, 110, 97, 108, 46, 110, 101, 119]⟩ : ByteArray)), (ct (⟨#[]⟩ : ByteArray)), (cl_ e_u8 a0.B), (C.p true (.v (.slice none 0 0)))])), (ow_ e_u8 r3), (some (AObj.cells true [(C.own 6 0 r3.length 1)])), (or_ e_dossierref03_File r4.2.L)] (si r4.1) F.ca_40 rfl rfl (ac (.one (.ref rfl)) (ac (.one .sc) (ac (.one .imm) an))) (ac (.cells (ac (.own rfl) (ac .sc (ac .sc (ac .sc an))))) (ac (.cells (lend_row _)) an)) (dossierref03_Disk_Append_40.meets _ p1 (⟨#[106, 111, 117, 114, 110, 97, 108, 46, 110, 101, 119]⟩ : ByteArray) a0.B r4 er4) (s_binI (v := (.bool (r2.1 == r4.1))) rfl rfl rfl (s_assign (d := (sb (r2.1 == r4.1))) rfl (AWops.nil (AW.ret ?_))))
 obtain rfl := Option.some.inj h
 exact ⟨_, rfl, (wg 4 [0, 1, 2, 3, 8] [] rfl (le_upd (le_top _) (o1 .sc)) (ac (qs rfl) (ac (qo rfl) (ac .map (ac (.none _) (ac (.cells id (all2_row _)) an))))))⟩
def vdisk_Disk_cut.f (k : Nat) (p0 : vdisk_Disk) (a1 : ByteArray) : Option vdisk_Disk := some (⟨mdel a1 p0.files, p0.room, IntKind.i64.wrap (p0.used - (((lk_vdisk_file a1 p0.files).b).length : Int)), (), p0.dead⟩ : vdisk_Disk)
theorem vdisk_Disk_cut.meets (k : Nat) (p0 : vdisk_Disk) (a1 : ByteArray) (r : vdisk_Disk) (h : vdisk_Disk_cut.f k p0 a1 = some r) : Meets Try.prog 59 [(rf 0 0), (st_ a1)] [(o_vdisk_Disk_03 false (C.mp 1) np p0), (om_ e_vdisk_file p0.files)] (D.tup []) [(o_vdisk_Disk_03 false (C.mp 1) np r), (om_ e_vdisk_file r.files)] := by
 unfold vdisk_Disk_cut.f at h
 refine Meets.of_body (n := 24) Try.func59 rfl rfl (nl rfl) fun x hx => ?_
 replace hx : x.k = 2 := hx
 show AW _ x _ _ ⟨24, fr0 [(rf 0 0), (st_ a1)], [(o_vdisk_Disk_03 false (C.mp 1) np p0), (om_ e_vdisk_file p0.files)]⟩
 refine AW.seq ?_
 refine AW.weak (st' := ⟨24, (upd 24 (upd 24 topF 0 (rf 0 0)) 1 (st_ a1)), [(o_vdisk_Disk_03 false (C.mp 1) np p0), (om_ e_vdisk_file p0.files)]⟩) (wg 2 [0, 1] [] hx (le_upd (le_upd (le_top _) (o1 (.ref rfl))) (o1 .sc)) (ac (qs rfl) (ac .map an))) ?_
 refine AW.draw (n := 24) (L := 2) [(ft 0 4 (rf 0 0) [(0, (rf 0 0))]), (ft 1 5 (rf 0 0) [(4, (rf 0 0))]), (ft 2 6 (rf 0 2) [(5, (rf 0 0))]), (3, ⟨some 7, (si p0.used), [(6, (rf 0 2))], [(0, (o_vdisk_Disk_03 false (C.mp 1) np p0))], [], none⟩), (ft 4 8 (rf 0 0) [(0, (rf 0 0))]), (ft 5 9 (rf 0 0) [(8, (rf 0 0))]), (ft 6 10 (rf 0 0) [(9, (rf 0 0))]), (7, ⟨some 11, (D.one (C.mp 1)), [(10, (rf 0 0))], [(0, (o_vdisk_Disk_03 false (C.mp 1) np p0))], [], none⟩), (ft 8 12 (st_ a1) [(1, (st_ a1))]), (9, ⟨some 13, (D.agg (c_vdisk_file (lk_vdisk_file a1 p0.files))), [(11, (D.one (C.mp 1))), (12, (st_ a1))], [(1, (om_ e_vdisk_file p0.files))], [], none⟩), (ft 10 14 (D.one (C.p false (.sl ((lk_vdisk_file a1 p0.files).b).length (((lk_vdisk_file a1 p0.files).b).flatMap e_u8)))) [(13, (D.agg (c_vdisk_file (lk_vdisk_file a1 p0.files))))]), (ft 11 15 (si (((lk_vdisk_file a1 p0.files).b).length : Int)) [(14, (D.one (C.p false (.sl ((lk_vdisk_file a1 p0.files).b).length (((lk_vdisk_file a1 p0.files).b).flatMap e_u8)))))]), (ft 12 16 (si (IntKind.i64.wrap (p0.used - (((lk_vdisk_file a1 p0.files).b).length : Int)))) [(7, (si p0.used)), (15, (si (((lk_vdisk_file a1 p0.files).b).length : Int)))]), (ft 13 17 (rf 0 0) [(4, (rf 0 0))]), (ft 14 18 (rf 0 2) [(17, (rf 0 0))]), (15, ⟨none, (D.one C.top), [(16, (si (IntKind.i64.wrap (p0.used - (((lk_vdisk_file a1 p0.files).b).length : Int))))), (18, (rf 0 2))], [(0, (o_vdisk_Disk_03 false (C.mp 1) np p0))], [(0, (some (AObj.cells false [(C.mp 1), (ci p0.room), (ci (IntKind.i64.wrap (p0.used - (((lk_vdisk_file a1 p0.files).b).length : Int)))), np, (cb p0.dead)])))], none⟩)] [[], [0], [0, 1], [0, 1, 2], [], [4], [4, 5], [4, 5, 6], [], [4, 5, 6, 7, 8], [4, 5, 6, 7, 8, 9], [4, 5, 6, 7, 8, 9, 10], (.range 12), (.range 13), (.range 14), (.range 15)] (nl rfl) [0, 1, 2, 3, 0, 1, 2, 3, 0, 4, 5, 6, 7, 8, 9, 10] rfl (TK := []) rfl AllK.nil' (by repeat (first | refine fC ⟨?_, ?_⟩ ?_ | refine sC rfl ?_ | refine hC rfl ?_ | trivial)) ?_ ?_
 ·refine y8 ?_ ?_ ?_ ?_ ?_ ?_ ?_ ?_ (y8 ?_ ?_ ?_ ?_ ?_ ?_ ?_ ?_ yN)
  ·intro K _ f w u k
   show Wp K ⟨24, (upd 24 f 0 (rf 0 0)), _⟩
   refine s_move (d := (rf 0 0)) rfl k
  ·intro K _ f w u k
   show Wp K ⟨24, (upd 24 f 4 (rf 0 0)), [_, _]⟩
   refine s_nilCheck (d := (rf 0 0)) rfl (.inl ⟨_, _, rfl⟩) k
  ·intro K _ f w u k
   show Wp K ⟨24, (upd 24 f 5 (rf 0 0)), [_, _]⟩
   refine s_fieldRef F.fo_37_2 (by decide) rfl k
  ·intro K _ f w u k
   show Wp K ⟨24, (upd 24 f 6 (rf 0 2)), [(o_vdisk_Disk_03 false (C.mp 1) np p0), _]⟩
   refine s_load1 (c' := (ci p0.used)) F.ag_3 rfl rfl k
  ·intro K _ f w u k
   show Wp K ⟨24, (upd 24 f 0 (rf 0 0)), _⟩
   refine s_move (d := (rf 0 0)) rfl k
  ·intro K _ f w u k
   show Wp K ⟨24, (upd 24 f 8 (rf 0 0)), [_, _]⟩
   refine s_nilCheck (d := (rf 0 0)) rfl (.inl ⟨_, _, rfl⟩) k
  ·intro K _ f w u k
   show Wp K ⟨24, (upd 24 f 9 (rf 0 0)), [_, _]⟩
   refine s_fieldRef F.fo_37_0 (by decide) rfl k
  ·intro K _ f w u k
   show Wp K ⟨24, (upd 24 f 10 (rf 0 0)), [(o_vdisk_Disk_03 false (C.mp 1) np p0), _]⟩
   refine s_load1 (c' := (C.mp 1)) F.ag_34 rfl rfl k
  ·intro K _ f w u k
   show Wp K ⟨24, (upd 24 f 1 (st_ a1)), _⟩
   refine s_move (d := (st_ a1)) rfl k
  ·intro K _ f w u k
   show Wp K ⟨24, (upd 24 (upd 24 f 12 (st_ a1)) 11 (D.one (C.mp 1))), [_, (om_ e_vdisk_file p0.files)]⟩
   refine t_lookup (b := true) F.u_34 F.u_9 F.z_79 (z := ((⟨([] : List Int), 0⟩ : vdisk_file) : vdisk_file)) (zs := [(.slice none 0 0), (.int .i64 0)]) rfl (fun h => by cases h) (ac ZRel.n (ac (ZRel.v _ rfl) an)) rfl rfl rfl rfl k
  ·intro K _ f w u k
   show Wp K ⟨24, (upd 24 f 13 (D.agg (c_vdisk_file (lk_vdisk_file a1 p0.files)))), [_, _]⟩
   refine s_field1 (c := (C.p false (.sl ((lk_vdisk_file a1 p0.files).b).length (((lk_vdisk_file a1 p0.files).b).flatMap e_u8)))) F.fo_79_0 rfl rfl k
  ·intro K _ f w u k
   show Wp K ⟨24, (upd 24 f 14 (D.one (C.p false (.sl ((lk_vdisk_file a1 p0.files).b).length (((lk_vdisk_file a1 p0.files).b).flatMap e_u8))))), [_, _]⟩
   refine s_len (n := ((lk_vdisk_file a1 p0.files).b).length) F.u_22 rfl (.inr ⟨(fun _ _ h => by cases h), ⟨_, rfl⟩⟩) k
  ·intro K _ f w u k
   show Wp K ⟨24, (upd 24 (upd 24 f 15 (si (((lk_vdisk_file a1 p0.files).b).length : Int))) 7 (si p0.used)), _⟩
   refine s_binI (v := (.int .i64 (IntKind.i64.wrap (p0.used - (((lk_vdisk_file a1 p0.files).b).length : Int))))) rfl rfl rfl k
  ·intro K _ f w u k
   show Wp K ⟨24, (upd 24 f 4 (rf 0 0)), [_, _]⟩
   refine s_nilCheck (d := (rf 0 0)) rfl (.inl ⟨_, _, rfl⟩) k
  ·intro K _ f w u k
   show Wp K ⟨24, (upd 24 f 17 (rf 0 0)), [_, _]⟩
   refine s_fieldRef F.fo_37_2 (by decide) rfl k
  ·intro K _ f w u k
   show Wp K ⟨24, (upd 24 (upd 24 f 18 (rf 0 2)) 16 (si (IntKind.i64.wrap (p0.used - (((lk_vdisk_file a1 p0.files).b).length : Int))))), [(o_vdisk_Disk_03 false (C.mp 1) np p0), _]⟩
   refine s_store (cs' := [(C.mp 1), (ci p0.room), (ci (IntKind.i64.wrap (p0.used - (((lk_vdisk_file a1 p0.files).b).length : Int)))), np, (cb p0.dead)]) rfl rfl rfl (List.cons_ne_nil _ _) rfl F.sz_3 (nl rfl) rfl k
 ·refine AWops.weak (st' := ⟨24, (upd 24 (upd 24 topF 0 (rf 0 0)) 1 (st_ a1)), [(some (AObj.cells false [(C.mp 1), (ci p0.room), (ci (IntKind.i64.wrap (p0.used - (((lk_vdisk_file a1 p0.files).b).length : Int)))), np, (cb p0.dead)])), (om_ e_vdisk_file p0.files)]⟩) (wg 2 [0, 1] [] hx (le_upd (le_upd (le_top _) (o1 (.ref rfl))) (o1 .sc)) (ac (qs rfl) (ac .map an))) (AWops.nil (AW.region ?_))
  refine s_move (d := (rf 0 0)) rfl (s_nilCheck (d := (rf 0 0)) rfl (.inl ⟨_, _, rfl⟩) (s_fieldRef F.fo_37_0 (by decide) rfl (s_load1 (c' := (C.mp 1)) F.ag_34 rfl rfl (s_move (d := (st_ a1)) rfl (t_mapDel F.u_34 F.u_9 rfl rfl rfl rfl rfl (AWops.nil ?_))))))
  obtain rfl := Option.some.inj h
  exact ⟨_, rfl, (wg 2 [0, 1] [] rfl (le_upd (le_top _) (DLe.tup an)) (ac (qs rfl) (ac .map an)))⟩
def vdisk_Disk_Remove.f (k : Nat) (p0 : vdisk_Disk) (a1 : ByteArray) : Option (Int × vdisk_Disk) := (vdisk_Disk_change.f k p0 true a1 false 0).bind fun r1 => if (r1 == 0) = true then ((vdisk_Disk_cut.f k p0 a1).bind fun r3 => some (r1, r3)) else (some (r1, p0))
theorem vdisk_Disk_Remove.meets (k : Nat) (p0 : vdisk_Disk) (a1 : ByteArray) (r : Int × vdisk_Disk) (h : vdisk_Disk_Remove.f k p0 a1 = some r) : Meets Try.prog 31 [(rf 0 0), (st_ a1)] [(o_vdisk_Disk_03 false (C.mp 1) np p0), (om_ e_vdisk_file p0.files)] (si r.1) [(o_vdisk_Disk_03 false (C.mp 1) np r.2), (om_ e_vdisk_file r.2.files)] := by
 unfold vdisk_Disk_Remove.f at h
 refine Meets.of_body (n := 15) Try.func31 rfl rfl (nl rfl) fun x hx => ?_
 replace hx : x.k = 2 := hx
 show AW _ x _ _ ⟨15, fr0 [(rf 0 0), (st_ a1)], [(o_vdisk_Disk_03 false (C.mp 1) np p0), (om_ e_vdisk_file p0.files)]⟩
 refine AW.seq (AW.region ?_)
 refine s_assign (d := (si 0)) rfl (AWops.nil (AW.seq (AW.region ?_)))
 refine s_move (d := (rf 0 0)) rfl (s_move (d := (st_ a1)) rfl ?_)
 obtain ⟨r1, er1, h⟩ := bnd h
 refine cc [0, 1] [(o_vdisk_Disk_03 false (C.mp 1) np p0), (om_ e_vdisk_file p0.files)] (si r1) F.ca_55 rfl rfl (ac (.one (.ref rfl)) (ac (.one .sc) (ac (.one .sc) (ac (.one .sc) (ac (.one .sc) an))))) (ac (.cells (ac (.mp rfl) (ac .sc (ac .sc (ac .sc (ac .sc an)))))) (ac .map an)) (vdisk_Disk_change.meets _ p0 true a1 false 0 r1 er1) (s_assign (d := (si r1)) rfl (AWops.nil (AW.seq (AW.seq (AW.region (s_move (d := (si r1)) rfl (s_binI (v := (.bool (r1 == 0))) rfl rfl rfl (AWops.nil ?_))))))))
 rcases itH h with ⟨c2, h⟩ | ⟨c2, h⟩
 ·refine AW.cond_yes rfl c2 (AW.region ?_)
  refine s_move (d := (rf 0 0)) rfl (s_move (d := (st_ a1)) rfl ?_)
  obtain ⟨r3, er3, h⟩ := bnd h
  refine cc [0, 1] [(o_vdisk_Disk_03 false (C.mp 1) np r3), (om_ e_vdisk_file r3.files)] (D.tup []) F.ca_59 rfl rfl (ac (.one (.ref rfl)) (ac (.one .sc) an)) (ac (.cells (ac (.mp rfl) (ac .sc (ac .sc (ac .sc (ac .sc an)))))) (ac .map an)) (vdisk_Disk_cut.meets _ p0 a1 r3 er3) (AWops.nil (AW.seq (AW.region ?_)))
  refine s_move (d := (si r1)) rfl (s_assign (d := (si r1)) rfl (AWops.nil (AW.ret ?_)))
  obtain rfl := Option.some.inj h
  exact ⟨_, rfl, (wg 2 [0, 1] [] rfl (le_upd (le_top _) (o1 .sc)) (ac (qs rfl) (ac .map an)))⟩
 ·refine AW.cond_no rfl c2 (AW.skip (AW.seq (AW.region ?_)))
  refine s_move (d := (si r1)) rfl (s_assign (d := (si r1)) rfl (AWops.nil (AW.ret ?_)))
  obtain rfl := Option.some.inj h
  exact ⟨_, rfl, (wg 2 [0, 1] [] rfl (le_upd (le_top _) (o1 .sc)) (ac (qs rfl) (ac .map an)))⟩
def slices_Clone_byte_byte.f (k : Nat) (a0 : List Int) : Option (List Int) := if (decide (([] : List Int).length + a0.length ≤ 140737488355328)) = true then (some a0) else none
theorem slices_Clone_byte_byte.meets (k : Nat) (a0 : List Int) (r : (List Int)) (h : slices_Clone_byte_byte.f k a0 = some r) : Meets Try.prog 28 [(ds_ e_u8 a0)] [] (D.one (C.own 0 0 r.length 1)) [(ow_ e_u8 r)] := by
 unfold slices_Clone_byte_byte.f at h
 refine Meets.of_body (n := 8) Try.func28 rfl rfl (nl rfl) fun x hx => ?_
 replace hx : x.k = 0 := hx
 show AW _ x _ _ ⟨8, fr0 [(ds_ e_u8 a0)], []⟩
 refine AW.seq (AW.region ?_)
 refine s_assign (d := (sc (.slice none 0 0))) rfl (AWops.nil (AW.seq (AW.seq (AW.region ?_))))
 refine s_move (d := (ds_ e_u8 a0)) rfl (s_eqNil (n := _) F.u_22 rfl (fun _ _ h => by cases h) rfl (.inl rfl) (fun b w => ?_))
 cases b with
 | false =>
  refine AWops.nil ?_
  refine AW.cond_no rfl rfl (AW.skip (AW.seq (AW.region ?_)))
  refine s_buildSlice (n := 0) (ps := []) (cs := rowC e_u8 ([] : List Int)) F.u_22 F.sz_5 F.z_5 rfl rfl (by decide) (by decide) rfl rfl (s_move (d := (ds_ e_u8 a0)) rfl ?_)
  obtain ⟨c1, h⟩ := gdH h
  have dc1 := of_decide_eq_true c1
  refine t_append (xs := ([] : List Int)) (ys := a0) (zs := a0) (H' := [none, (ow_ e_u8 a0)]) F.u_22 F.in_5 rfl e_u8_len (.own rfl rfl) .imm F.u_22 (by omega) (by omega) rfl rfl (s_assign (d := (D.one (C.own 1 0 a0.length 1))) rfl (AWops.nil (AW.ret ?_)))
  obtain rfl := Option.some.inj h
  exact ⟨_, rfl, (wg 0 [1] [] rfl (le_upd (le_top _) (o1 (.own rfl))) (ac (.cells (fun _ => rfl) (all2_row _)) an))⟩
 | true =>
  obtain rfl : a0 = [] := by cases a0 with | nil => rfl | cons _ _ => exact absurd (w (by simp)) (by decide)
  replace h : (some ([] : List Int)) = some r := by simpa [bytesI] using h
  skip
  refine AWops.nil ?_
  refine AW.cond_yes rfl rfl (AW.seq (AW.region ?_))
  refine s_assign (d := (sc (.slice none 0 0))) rfl (AWops.nil (AW.ret ?_))
  obtain rfl := Option.some.inj h
  exact ⟨_, rfl, (Weak.trans (Weak.nil (sz := 1) (i := 0) rfl) (wg 0 [0] [] rfl (le_upd (le_top _) (o1 (CLe.ownN rfl (by simp)))) (ac (.cells (fun _ => rfl) an) an)))⟩
def vdisk_Disk_Read.f (k : Nat) (p0 : vdisk_Disk) (a1 : ByteArray) : Option ((List Int) × Int) := (vdisk_Disk_none.f k p0).bind fun r1 => if p0.dead = true then (some (([] : List Int), 70)) else (if ((mget a1 p0.files).isSome) = true then ((slices_Clone_byte_byte.f k ((lk_vdisk_file a1 p0.files).b)).bind fun r4 => some (r4, 0)) else (some (([] : List Int), 33)))
theorem vdisk_Disk_Read.meets (k : Nat) (p0 : vdisk_Disk) (a1 : ByteArray) (r : (List Int) × Int) (h : vdisk_Disk_Read.f k p0 a1 = some r) : Meets Try.prog 32 [(rf 0 0), (st_ a1)] [(o_vdisk_Disk_03 false (C.mp 1) np p0), (om_ e_vdisk_file p0.files)] (D.tup [(ds_ e_u8 r.1), (si r.2)]) [(o_vdisk_Disk_03 false (C.mp 1) np p0), (om_ e_vdisk_file p0.files)] := by
 unfold vdisk_Disk_Read.f at h
 refine Meets.of_body (n := 30) Try.func32 rfl rfl (nl rfl) fun x hx => ?_
 replace hx : x.k = 2 := hx
 show AW _ x _ _ ⟨30, fr0 [(rf 0 0), (st_ a1)], [(o_vdisk_Disk_03 false (C.mp 1) np p0), (om_ e_vdisk_file p0.files)]⟩
 refine AW.seq (AW.region ?_)
 refine s_assign (d := (sc (.slice none 0 0))) rfl (s_assign (d := (si 0)) rfl (AWops.nil (AW.seq (AW.block (AW.seq (AW.region (s_move (d := (rf 0 0)) rfl ?_)))))))
 obtain ⟨r1, er1, h⟩ := bnd h
 have kr1 := vdisk_Disk_none.const er1
 subst kr1
 refine cc [0, 1] [(o_vdisk_Disk_03 false (C.mp 1) np p0), (om_ e_vdisk_file p0.files)] (sb false) F.ca_34 rfl rfl (ac (.one (.ref rfl)) an) (ac (.cells (ac (.mp rfl) (ac .sc (ac .sc (ac .sc (ac .sc an)))))) (ac .map an)) (vdisk_Disk_none.meets _ p0 false er1) (s_assign (d := (sb false)) rfl (AWops.nil ?_))
 refine AW.cond_no rfl rfl (AW.seq (AW.region ?_))
 refine s_move (d := (rf 0 0)) rfl (s_nilCheck (d := (rf 0 0)) rfl (.inl ⟨_, _, rfl⟩) (s_fieldRef F.fo_37_4 (by decide) rfl (s_load1 (c' := (cb p0.dead)) F.ag_4 rfl rfl (s_assign (d := (sb p0.dead)) rfl (AWops.nil ?_)))))
 rcases itH h with ⟨c2, h⟩ | ⟨c2, h⟩
 ·refine AW.cond_yes rfl c2 (AW.seq (AW.region ?_))
  refine s_assign (d := (sc (.slice none 0 0))) rfl (s_assign (d := (si 70)) rfl (AWops.nil (AW.ret ?_)))
  obtain rfl := Option.some.inj h
  exact ⟨_, rfl, (wg 2 [0, 1] [] rfl (le_upd (le_top _) (DLe.tup (ac (TLe.one .nil) (ac (TLe.one .sc) an)))) (ac (qs rfl) (ac .map an)))⟩
 ·refine AW.cond_no rfl c2 (AW.skip (AW.seq (AW.region ?_)))
  refine s_move (d := (rf 0 0)) rfl (s_nilCheck (d := (rf 0 0)) rfl (.inl ⟨_, _, rfl⟩) (s_fieldRef F.fo_37_0 (by decide) rfl (s_load1 (c' := (C.mp 1)) F.ag_34 rfl rfl (s_move (d := (st_ a1)) rfl (t_lookupOk (b := true) F.u_34 F.u_9 F.z_79 (z := ((⟨([] : List Int), 0⟩ : vdisk_file) : vdisk_file)) (zs := [(.slice none 0 0), (.int .i64 0)]) rfl (fun h => by cases h) (ac ZRel.n (ac (ZRel.v _ rfl) an)) rfl rfl rfl rfl ?_)))))
  refine s_move (d := (D.tup [(D.agg (c_vdisk_file (lk_vdisk_file a1 p0.files))), (sb ((mget a1 p0.files).isSome))])) rfl (s_extract (d := (D.agg (c_vdisk_file (lk_vdisk_file a1 p0.files)))) rfl rfl (s_extract (d := (sb ((mget a1 p0.files).isSome))) rfl rfl (s_alloc (cs := [(C.p true (.v (.slice none 0 0))), (ci 0)]) F.z_79 rfl rfl (s_store (cs' := (c_vdisk_file (lk_vdisk_file a1 p0.files))) rfl rfl rfl (List.cons_ne_nil _ _) rfl F.sz_79 (nl rfl) rfl (s_assign (d := (sb ((mget a1 p0.files).isSome))) rfl (AWops.nil (AW.seq (AW.seq (AW.region ?_)))))))))
  refine s_move (d := (sb ((mget a1 p0.files).isSome))) rfl (s_not rfl (AWops.nil ?_))
  rcases itH h with ⟨c3, h⟩ | ⟨c3, h⟩
  ·refine AW.cond_no rfl (by rw [c3] <;> rfl) (AW.skip (AW.seq (AW.region ?_)))
   refine s_fieldRef F.fo_79_0 (by decide) rfl (s_load1 (c' := (C.p false (.sl ((lk_vdisk_file a1 p0.files).b).length (((lk_vdisk_file a1 p0.files).b).flatMap e_u8)))) F.ag_22 rfl rfl ?_)
   obtain ⟨r4, er4, h⟩ := bnd h
   refine cc [] [(o_vdisk_Disk_03 false (C.mp 1) np p0), (om_ e_vdisk_file p0.files), (some (AObj.cells true (c_vdisk_file (lk_vdisk_file a1 p0.files)))), (ow_ e_u8 r4)] (D.one (C.own 3 0 r4.length 1)) F.ca_28 rfl rfl (ac (.one .imm) an) an (slices_Clone_byte_byte.meets _ ((lk_vdisk_file a1 p0.files).b) r4 er4) (s_assign (d := (D.one (C.own 3 0 r4.length 1))) rfl (s_assign (d := (si 0)) rfl (AWops.nil (AW.ret ?_))))
   obtain rfl := Option.some.inj h
   exact ⟨_, rfl, (wg 2 [0, 1] [3] rfl (le_upd (le_top _) (DLe.tup (ac (TLe.one (CLe.frz e_u8_len rfl rfl rfl)) (ac (TLe.one .sc) an)))) (ac (qs rfl) (ac .map an)))⟩
  ·refine AW.cond_yes rfl (by rw [c3] <;> rfl) (AW.seq (AW.region ?_))
   refine s_assign (d := (sc (.slice none 0 0))) rfl (s_assign (d := (si 33)) rfl (AWops.nil (AW.ret ?_)))
   obtain rfl := Option.some.inj h
   exact ⟨_, rfl, (wg 2 [0, 1] [] rfl (le_upd (le_top _) (DLe.tup (ac (TLe.one .nil) (ac (TLe.one .sc) an)))) (ac (qs rfl) (ac .map an)))⟩
mutual
def wire_Crc.l1 : Nat → Int → Int → (List Int) → Int → Option Int
 | 0, _, _, _, _ => none
 | k + 1, x5, x6, a0, x2 => if (decide (x6 < 8)) = true then (wire_Crc.l1 k (Go.bits .xor .u32 (Int.fdiv x5 (2 ^ 1)) (Go.bits .and .u32 3988292384 (IntKind.u32.wrap (0 - (Go.bits .and .u32 x5 1))))) (IntKind.i64.wrap (x6 + 1)) a0 x2) else (wire_Crc.l0 k x5 (IntKind.i64.wrap (x2 + 1)) a0)
def wire_Crc.l0 : Nat → Int → Int → (List Int) → Option Int
 | 0, _, _, _ => none
 | k + 1, x1, x2, a0 => if (decide (x2 < (a0.length : Int))) = true then ((rd a0 x2).bind fun v4 => wire_Crc.l1 k (Go.bits .xor .u32 x1 (IntKind.u32.wrap v4)) 0 a0 x2) else (some (IntKind.i64.wrap (Go.bits .xor .u32 4294967295 x1)))
end
def wire_Crc.f (k : Nat) (a0 : List Int) : Option Int := wire_Crc.l0 k 4294967295 0 a0
theorem wire_Crc.meets (k : Nat) (a0 : List Int) (r : Int) (h : wire_Crc.f k a0 = some r) : Meets Try.prog 58 [(ds_ e_u8 a0)] [] (si r) [] := by
 unfold wire_Crc.f at h
 refine Meets.of_body (n := 30) Try.func58 rfl rfl (nl rfl) fun x hx => ?_
 replace hx : x.k = 0 := hx
 show AW _ x _ _ ⟨30, fr0 [(ds_ e_u8 a0)], []⟩
 refine AW.seq (AW.region ?_)
 refine s_assign (d := (si 0)) rfl (AWops.nil (AW.seq (AW.region ?_)))
 refine s_assign (d := (sc (.int .u32 4294967295))) rfl (AWops.nil (AW.seq (AW.seq (AW.region ?_))))
 refine s_move (d := (ds_ e_u8 a0)) rfl (s_len (n := a0.length) F.u_22 rfl (.inr ⟨(fun _ _ h => by cases h), ⟨_, rfl⟩⟩) (s_move (d := (si 0)) rfl (AWops.nil (AW.block ?_))))
 refine AW.loopw (st0 := ⟨30, (upd 30 (upd 30 (upd 30 (upd 30 topF 3 (sc (.int .u32 4294967295))) 6 (ds_ e_u8 a0)) 7 (si (a0.length : Int))) 8 (si 0)), []⟩) (fun kv st => kv ≤ k ∧ ∃ (x1 : Int) (x2 : Int), wire_Crc.l0 kv x1 x2 a0 = some r ∧ st = ⟨30, (upd 30 (upd 30 (upd 30 (upd 30 topF 3 (sc (.int .u32 x1))) 6 (ds_ e_u8 a0)) 7 (si (a0.length : Int))) 8 (si x2)), []⟩) (k := k) (wg 0 [] [] hx (le_upd (le_upd (le_upd (le_upd (le_top _) (o1 .sc)) (o1 .same)) (o1 .sc)) (o1 .sc)) an) ⟨Nat.le_refl _, 4294967295, 0, h, rfl⟩ ?_
 rintro ql0 st ⟨hkl0, x1, x2, h, rfl⟩
 cases ql0 with
 | zero => exact absurd h (by simp [wire_Crc.l0])
 | succ ql0 =>
  replace h := (wire_Crc.l0.eq_2 _ _ _ _).symm.trans h
  refine AW.seq (AW.region ?_)
  refine s_binI (v := (.bool (decide (x2 < (a0.length : Int))))) rfl rfl rfl (AWops.nil (AW.seq ?_))
  rcases itH h with ⟨c3, h⟩ | ⟨c3, h⟩
  ·refine AW.cond_yes rfl c3 (AW.skip (AW.seq (AW.block (AW.seq (AW.region ?_)))))
   obtain ⟨v4, ev4, h⟩ := bnd h
   obtain ⟨pv4, qv4, gv4⟩ := rd_some ev4
   refine s_indexImm (ps := [P.v (.int .u8 v4)]) F.u_22 F.sz_5 rfl rfl pv4 qv4 (flat_at e_u8_len gv4 (e_u8_eq v4)) (s_load1 (c' := (C.p true (.v (.int .u8 v4)))) F.ag_5 rfl rfl (s_assign (d := (sc (.int .u8 v4))) rfl (AWops.nil (AW.seq (AW.region (s_move (d := (sc (.int .u32 x1))) rfl (s_move (d := (sc (.int .u8 v4))) rfl (s_convI F.u_5 F.u_120 rfl ?_))))))))
   refine s_binI (v := (.int .u32 (Go.bits .xor .u32 x1 (IntKind.u32.wrap v4)))) rfl rfl rfl (s_assign (d := (sc (.int .u32 (Go.bits .xor .u32 x1 (IntKind.u32.wrap v4))))) rfl (AWops.nil (AW.seq (AW.region (s_move (d := (si 0)) rfl (AWops.nil (AW.block ?_)))))))
   refine AW.loopw (st0 := ⟨30, (upd 30 (upd 30 (upd 30 (upd 30 (upd 30 topF 3 (sc (.int .u32 (Go.bits .xor .u32 x1 (IntKind.u32.wrap v4))))) 6 (ds_ e_u8 a0)) 7 (si (a0.length : Int))) 8 (si x2)) 16 (si 0)), []⟩) (fun kv st => kv ≤ ql0 ∧ ∃ (x5 : Int) (x6 : Int), wire_Crc.l1 kv x5 x6 a0 x2 = some r ∧ st = ⟨30, (upd 30 (upd 30 (upd 30 (upd 30 (upd 30 topF 3 (sc (.int .u32 x5))) 6 (ds_ e_u8 a0)) 7 (si (a0.length : Int))) 8 (si x2)) 16 (si x6)), []⟩) (k := ql0) (wg 0 [] [] hx (le_upd (le_upd (le_upd (le_upd (le_upd (le_top _) (o1 .sc)) (o1 .same)) (o1 .sc)) (o1 .sc)) (o1 .sc)) an) ⟨Nat.le_refl _, Go.bits .xor .u32 x1 (IntKind.u32.wrap v4), 0, h, rfl⟩ ?_
   rintro ql1 st ⟨hkl1, x5, x6, h, rfl⟩
   cases ql1 with
   | zero => exact absurd h (by simp [wire_Crc.l1])
   | succ ql1 =>
    replace h := (wire_Crc.l1.eq_2 _ _ _ _ _).symm.trans h
    refine AW.seq (AW.region ?_)
    refine s_binI (v := (.bool (decide (x6 < 8)))) rfl rfl rfl (AWops.nil (AW.seq ?_))
    rcases itH h with ⟨c7, h⟩ | ⟨c7, h⟩
    ·refine AW.cond_yes rfl c7 (AW.skip (AW.seq (AW.block (AW.region ?_))))
     refine s_move (d := (sc (.int .u32 x5))) rfl (s_shift (v := (.int .u32 (Int.fdiv x5 (2 ^ 1)))) rfl rfl rfl (s_move (d := (sc (.int .u32 x5))) rfl (s_binI (v := (.int .u32 (Go.bits .and .u32 x5 1))) rfl rfl rfl (s_unI (v := (.int .u32 (IntKind.u32.wrap (0 - (Go.bits .and .u32 x5 1))))) rfl rfl (s_binI (v := (.int .u32 (Go.bits .and .u32 3988292384 (IntKind.u32.wrap (0 - (Go.bits .and .u32 x5 1)))))) rfl rfl rfl ?_)))))
     refine s_binI (v := (.int .u32 (Go.bits .xor .u32 (Int.fdiv x5 (2 ^ 1)) (Go.bits .and .u32 3988292384 (IntKind.u32.wrap (0 - (Go.bits .and .u32 x5 1))))))) rfl rfl rfl (s_assign (d := (sc (.int .u32 (Go.bits .xor .u32 (Int.fdiv x5 (2 ^ 1)) (Go.bits .and .u32 3988292384 (IntKind.u32.wrap (0 - (Go.bits .and .u32 x5 1)))))))) rfl (AWops.nil (AW.region (s_binI (v := (.int .i64 (IntKind.i64.wrap (x6 + 1)))) rfl rfl rfl (s_move (d := (si (IntKind.i64.wrap (x6 + 1)))) rfl (AWops.nil ?_))))))
     exact ⟨_, ⟨30, (upd 30 (upd 30 (upd 30 (upd 30 (upd 30 topF 3 (sc (.int .u32 (Go.bits .xor .u32 (Int.fdiv x5 (2 ^ 1)) (Go.bits .and .u32 3988292384 (IntKind.u32.wrap (0 - (Go.bits .and .u32 x5 1)))))))) 6 (ds_ e_u8 a0)) 7 (si (a0.length : Int))) 8 (si x2)) 16 (si (IntKind.i64.wrap (x6 + 1)))), []⟩, by omega, (wg 0 [] [] hx (le_upd (le_upd (le_upd (le_upd (le_upd (le_top _) (o1 .sc)) (o1 .same)) (o1 .sc)) (o1 .sc)) (o1 .sc)) an), by omega, Go.bits .xor .u32 (Int.fdiv x5 (2 ^ 1)) (Go.bits .and .u32 3988292384 (IntKind.u32.wrap (0 - (Go.bits .and .u32 x5 1)))), IntKind.i64.wrap (x6 + 1), h, rfl⟩
    ·refine AW.cond_no rfl c7 (AW.exit (AW.region ?_))
     refine s_binI (v := (.int .i64 (IntKind.i64.wrap (x2 + 1)))) rfl rfl rfl (s_move (d := (si (IntKind.i64.wrap (x2 + 1)))) rfl (AWops.nil ?_))
     exact ⟨_, ⟨30, (upd 30 (upd 30 (upd 30 (upd 30 topF 3 (sc (.int .u32 x5))) 6 (ds_ e_u8 a0)) 7 (si (a0.length : Int))) 8 (si (IntKind.i64.wrap (x2 + 1)))), []⟩, by omega, (wg 0 [] [] hx (le_upd (le_upd (le_upd (le_upd (le_top _) (o1 .sc)) (o1 .same)) (o1 .sc)) (o1 .sc)) an), by omega, x5, IntKind.i64.wrap (x2 + 1), h, rfl⟩
  ·refine AW.cond_no rfl c3 (AW.exit (AW.seq (AW.region ?_)))
   refine s_move (d := (sc (.int .u32 x1))) rfl (s_unI (v := (.int .u32 (Go.bits .xor .u32 4294967295 x1))) rfl rfl (s_convI F.u_120 F.u_3 rfl (s_assign (d := (si (IntKind.i64.wrap (Go.bits .xor .u32 4294967295 x1)))) rfl (AWops.nil (AW.ret ?_)))))
   obtain rfl := Option.some.inj h
   exact ⟨_, rfl, (wg 0 [] [] rfl (le_upd (le_top _) (o1 .sc)) an)⟩
mutual
def slices_Concat_byte_byte_57.l1 : Nat → (List Int) → Int → (List (List Int)) → Option (List Int)
 | 0, _, _, _ => none
 | k + 1, x7, x8, a0 => if (decide (x8 < (a0.length : Int))) = true then ((rd a0 x8).bind fun v10 => if (decide (x7.length + v10.length ≤ 140737488355328)) = true then (slices_Concat_byte_byte_57.l1 k (x7 ++ v10) (IntKind.i64.wrap (x8 + 1)) a0) else none) else (some x7)
def slices_Concat_byte_byte_57.l0 : Nat → Int → Int → (List (List Int)) → Option (List Int)
 | 0, _, _, _ => none
 | k + 1, x1, x2, a0 => if (decide (x2 < (a0.length : Int))) = true then ((rd a0 x2).bind fun v4 => if (decide ((IntKind.i64.wrap (x1 + (v4.length : Int))) < 0)) = true then (none) else (slices_Concat_byte_byte_57.l0 k (IntKind.i64.wrap (x1 + (v4.length : Int))) (IntKind.i64.wrap (x2 + 1)) a0)) else ((slices_Grow_byte_byte_nil0.f k x1).bind fun r6 => slices_Concat_byte_byte_57.l1 k r6 0 a0)
end
def slices_Concat_byte_byte_57.f (k : Nat) (a0 : List (List Int)) : Option (List Int) := slices_Concat_byte_byte_57.l0 k 0 0 a0
theorem slices_Concat_byte_byte_57.meets (k : Nat) (a0 : List (List Int)) (r : (List Int)) (h : slices_Concat_byte_byte_57.f k a0 = some r) : Meets Try.prog 57 [(D.one (C.p false (.sl a0.length (a0.flatMap (e_sl e_u8)))))] [] (D.one (C.own 0 0 r.length 1)) [(ow_ e_u8 r)] := by
 unfold slices_Concat_byte_byte_57.f at h
 refine Meets.of_body (n := 36) Try.func57 rfl rfl (nl rfl) fun x hx => ?_
 replace hx : x.k = 0 := hx
 show AW _ x _ _ ⟨36, fr0 [(D.one (C.p false (.sl a0.length (a0.flatMap (e_sl e_u8)))))], []⟩
 refine AW.seq (AW.region ?_)
 refine s_assign (d := (sc (.slice none 0 0))) rfl (AWops.nil (AW.seq (AW.region ?_)))
 refine s_assign (d := (si 0)) rfl (AWops.nil (AW.seq (AW.seq (AW.region ?_))))
 refine s_move (d := (D.one (C.p false (.sl a0.length (a0.flatMap (e_sl e_u8)))))) rfl (s_len (n := a0.length) F.u_25 rfl (.inr ⟨(fun _ _ h => by cases h), ⟨_, rfl⟩⟩) (s_move (d := (si 0)) rfl (AWops.nil (AW.block ?_))))
 refine AW.loopw (st0 := ⟨36, (upd 36 (upd 36 (upd 36 (upd 36 (upd 36 topF 0 (D.one (C.p false (.sl a0.length (a0.flatMap (e_sl e_u8)))))) 3 (si 0)) 9 (D.one (C.p false (.sl a0.length (a0.flatMap (e_sl e_u8)))))) 10 (si (a0.length : Int))) 11 (si 0)), []⟩) (fun kv st => kv ≤ k ∧ ∃ (x1 : Int) (x2 : Int), slices_Concat_byte_byte_57.l0 kv x1 x2 a0 = some r ∧ st = ⟨36, (upd 36 (upd 36 (upd 36 (upd 36 (upd 36 topF 0 (D.one (C.p false (.sl a0.length (a0.flatMap (e_sl e_u8)))))) 3 (si x1)) 9 (D.one (C.p false (.sl a0.length (a0.flatMap (e_sl e_u8)))))) 10 (si (a0.length : Int))) 11 (si x2)), []⟩) (k := k) (wg 0 [] [] hx (le_upd (le_upd (le_upd (le_upd (le_upd (le_top _) (o1 .same)) (o1 .sc)) (o1 .same)) (o1 .sc)) (o1 .sc)) an) ⟨Nat.le_refl _, 0, 0, h, rfl⟩ ?_
 rintro ql0 st ⟨hkl0, x1, x2, h, rfl⟩
 cases ql0 with
 | zero => exact absurd h (by simp [slices_Concat_byte_byte_57.l0])
 | succ ql0 =>
  replace h := (slices_Concat_byte_byte_57.l0.eq_2 _ _ _ _).symm.trans h
  refine AW.seq (AW.region ?_)
  refine s_binI (v := (.bool (decide (x2 < (a0.length : Int))))) rfl rfl rfl (AWops.nil (AW.seq ?_))
  rcases itH h with ⟨c3, h⟩ | ⟨c3, h⟩
  ·refine AW.cond_yes rfl c3 (AW.skip (AW.seq (AW.block (AW.seq (AW.region ?_)))))
   obtain ⟨v4, ev4, h⟩ := bnd h
   obtain ⟨pv4, qv4, gv4⟩ := rd_some ev4
   refine s_indexImm (ps := [P.sl v4.length (v4.flatMap e_u8)]) F.u_25 F.sz_22 rfl rfl pv4 qv4 (flat_at (e_sl_len _) gv4 (e_sl_eq _ v4)) (s_load1 (c' := (cl_ e_u8 v4)) F.ag_22 rfl rfl (s_assign (d := (ds_ e_u8 v4)) rfl (AWops.nil (AW.seq (AW.region (s_move (d := (si x1)) rfl (s_move (d := (ds_ e_u8 v4)) rfl (s_len (n := v4.length) F.u_22 rfl (.inr ⟨(fun _ _ h => by cases h), ⟨_, rfl⟩⟩) ?_))))))))
   refine s_binI (v := (.int .i64 (IntKind.i64.wrap (x1 + (v4.length : Int))))) rfl rfl rfl (s_assign (d := (si (IntKind.i64.wrap (x1 + (v4.length : Int))))) rfl (AWops.nil (AW.seq (AW.region (s_move (d := (si (IntKind.i64.wrap (x1 + (v4.length : Int))))) rfl (s_binI (v := (.bool (decide ((IntKind.i64.wrap (x1 + (v4.length : Int))) < 0)))) rfl rfl rfl (AWops.nil ?_)))))))
   rcases itH h with ⟨c5, h⟩ | ⟨c5, h⟩
   ·refine AW.cond_yes rfl c5 (AW.region ?_)
    cases h
   ·refine AW.cond_no rfl c5 (AW.skip (AW.region ?_))
    refine s_binI (v := (.int .i64 (IntKind.i64.wrap (x2 + 1)))) rfl rfl rfl (s_move (d := (si (IntKind.i64.wrap (x2 + 1)))) rfl (AWops.nil ?_))
    exact ⟨_, ⟨36, (upd 36 (upd 36 (upd 36 (upd 36 (upd 36 topF 0 (D.one (C.p false (.sl a0.length (a0.flatMap (e_sl e_u8)))))) 3 (si (IntKind.i64.wrap (x1 + (v4.length : Int))))) 9 (D.one (C.p false (.sl a0.length (a0.flatMap (e_sl e_u8)))))) 10 (si (a0.length : Int))) 11 (si (IntKind.i64.wrap (x2 + 1)))), []⟩, by omega, (wg 0 [] [] hx (le_upd (le_upd (le_upd (le_upd (le_upd (le_top _) (o1 .same)) (o1 .sc)) (o1 .same)) (o1 .sc)) (o1 .sc)) an), by omega, IntKind.i64.wrap (x1 + (v4.length : Int)), IntKind.i64.wrap (x2 + 1), h, rfl⟩
  ·refine AW.cond_no rfl c3 (AW.exit (AW.seq (AW.region ?_)))
   refine s_move (d := (si x1)) rfl ?_
   obtain ⟨r6, er6, h⟩ := bnd h
   refine cc [] [(ow_ e_u8 r6)] (D.one (C.own 0 0 r6.length 1)) F.ca_78 rfl rfl (ac (.one .sc) (ac (.one .sc) an)) an (slices_Grow_byte_byte_nil0.meets _ x1 r6 er6) (s_assign (d := (D.one (C.own 0 0 r6.length 1))) rfl (AWops.nil (AW.seq (AW.seq (AW.region (s_move (d := (D.one (C.p false (.sl a0.length (a0.flatMap (e_sl e_u8)))))) rfl (s_len (n := a0.length) F.u_25 rfl (.inr ⟨(fun _ _ h => by cases h), ⟨_, rfl⟩⟩) (s_move (d := (si 0)) rfl (AWops.nil (AW.block ?_))))))))))
   refine AW.loopw (st0 := ⟨36, (upd 36 (upd 36 (upd 36 (upd 36 topF 6 (D.one (C.own 0 0 r6.length 1))) 25 (D.one (C.p false (.sl a0.length (a0.flatMap (e_sl e_u8)))))) 26 (si (a0.length : Int))) 27 (si 0)), [(ow_ e_u8 r6)]⟩) (fun kv st => kv ≤ ql0 ∧ ∃ (x7 : List Int) (x8 : Int), slices_Concat_byte_byte_57.l1 kv x7 x8 a0 = some r ∧ st = ⟨36, (upd 36 (upd 36 (upd 36 (upd 36 topF 6 (D.one (C.own 0 0 x7.length 1))) 25 (D.one (C.p false (.sl a0.length (a0.flatMap (e_sl e_u8)))))) 26 (si (a0.length : Int))) 27 (si x8)), [(ow_ e_u8 x7)]⟩) (k := ql0) (wg 0 [0] [] hx (le_upd (le_upd (le_upd (le_upd (le_top _) (o1 (.own rfl))) (o1 .same)) (o1 .sc)) (o1 .sc)) (ac (.cells (fun _ => rfl) (all2_row _)) an)) ⟨Nat.le_refl _, r6, 0, h, rfl⟩ ?_
   rintro ql1 st ⟨hkl1, x7, x8, h, rfl⟩
   cases ql1 with
   | zero => exact absurd h (by simp [slices_Concat_byte_byte_57.l1])
   | succ ql1 =>
    replace h := (slices_Concat_byte_byte_57.l1.eq_2 _ _ _ _).symm.trans h
    refine AW.seq (AW.region ?_)
    refine s_binI (v := (.bool (decide (x8 < (a0.length : Int))))) rfl rfl rfl (AWops.nil (AW.seq ?_))
    rcases itH h with ⟨c9, h⟩ | ⟨c9, h⟩
    ·refine AW.cond_yes rfl c9 (AW.skip (AW.seq (AW.block (AW.seq (AW.region ?_)))))
     obtain ⟨v10, ev10, h⟩ := bnd h
     obtain ⟨pv10, qv10, gv10⟩ := rd_some ev10
     refine s_indexImm (ps := [P.sl v10.length (v10.flatMap e_u8)]) F.u_25 F.sz_22 rfl rfl pv10 qv10 (flat_at (e_sl_len _) gv10 (e_sl_eq _ v10)) (s_load1 (c' := (cl_ e_u8 v10)) F.ag_22 rfl rfl (s_assign (d := (ds_ e_u8 v10)) rfl (AWops.nil (AW.region (s_move (d := (D.one (C.own 0 0 x7.length 1))) rfl (s_move (d := (ds_ e_u8 v10)) rfl ?_))))))
     obtain ⟨c11, h⟩ := gdH h
     have dc11 := of_decide_eq_true c11
     refine t_append (xs := x7) (ys := v10) (zs := x7 ++ v10) (H' := [none, (some (AObj.cells true (rowC e_u8 (x7 ++ v10))))]) F.u_22 F.in_5 rfl e_u8_len (.own rfl rfl) .imm F.u_22 (by omega) (by omega) rfl rfl (s_assign (d := (D.one (C.own 1 0 ((x7 ++ v10).length) 1))) rfl (AWops.nil (AW.region (s_binI (v := (.int .i64 (IntKind.i64.wrap (x8 + 1)))) rfl rfl rfl (s_move (d := (si (IntKind.i64.wrap (x8 + 1)))) rfl (AWops.nil ?_))))))
     exact ⟨_, ⟨36, (upd 36 (upd 36 (upd 36 (upd 36 topF 6 (D.one (C.own 0 0 (x7 ++ v10).length 1))) 25 (D.one (C.p false (.sl a0.length (a0.flatMap (e_sl e_u8)))))) 26 (si (a0.length : Int))) 27 (si (IntKind.i64.wrap (x8 + 1)))), [(some (AObj.cells true (rowC e_u8 (x7 ++ v10))))]⟩, by omega, (wg 0 [1] [] hx (le_upd (le_upd (le_upd (le_upd (le_top _) (o1 (.own rfl))) (o1 .same)) (o1 .sc)) (o1 .sc)) (ac (.cells (fun _ => rfl) (all2_row _)) an)), by omega, x7 ++ v10, IntKind.i64.wrap (x8 + 1), h, rfl⟩
    ·refine AW.cond_no rfl c9 (AW.exit (AW.seq (AW.region ?_)))
     refine s_move (d := (D.one (C.own 0 0 x7.length 1))) rfl (s_assign (d := (D.one (C.own 0 0 x7.length 1))) rfl (AWops.nil (AW.ret ?_)))
     obtain rfl := Option.some.inj h
     exact ⟨_, rfl, (wg 0 [0] [] rfl (le_upd (le_top _) (o1 (.own rfl))) (ac (.cells (fun _ => rfl) (all2_row _)) an))⟩
mutual
def journal_frame.l0 : Nat → (List Int) → Int → (List Int) → Int → Option (List Int)
 | 0, _, _, _, _ => none
 | k + 1, x2, x3, a0, r1 => if (decide (x3 < 4)) = true then (if (decide (0 ≤ (IntKind.i64.wrap (24 - (IntKind.i64.wrap (8 * x3)))))) = true then (if (decide (x3 < 8)) = true then ((rd x2 x3).bind fun v7 => if (decide ((IntKind.i64.wrap (4 + x3)) < 8)) = true then ((rd (x2.set x3.toNat (IntKind.u8.wrap (Int.fdiv (a0.length : Int) (2 ^ (min (IntKind.i64.wrap (24 - (IntKind.i64.wrap (8 * x3)))).toNat 64))))) (IntKind.i64.wrap (4 + x3))).bind fun v9 => journal_frame.l0 k ((x2.set x3.toNat (IntKind.u8.wrap (Int.fdiv (a0.length : Int) (2 ^ (min (IntKind.i64.wrap (24 - (IntKind.i64.wrap (8 * x3)))).toNat 64))))).set (IntKind.i64.wrap (4 + x3)).toNat (IntKind.u8.wrap (Int.fdiv r1 (2 ^ (min (IntKind.i64.wrap (24 - (IntKind.i64.wrap (8 * x3)))).toNat 64))))) (IntKind.i64.wrap (x3 + 1)) a0 r1) else none) else none) else none) else (if (decide (x2.length = 8)) = true then ((slices_Concat_byte_byte_57.f k ([x2, a0] : List (List Int))).bind fun r11 => some r11) else none)
end
def journal_frame.f (k : Nat) (a0 : List Int) : Option (List Int) := (wire_Crc.f k a0).bind fun r1 => journal_frame.l0 k (List.replicate 8 (0 : Int)) 0 a0 r1
theorem journal_frame.meets (k : Nat) (a0 : List Int) (r : (List Int)) (h : journal_frame.f k a0 = some r) : Meets Try.prog 26 [(ds_ e_u8 a0)] [] (D.one (C.own 0 0 r.length 1)) [(ow_ e_u8 r)] := by
 unfold journal_frame.f at h
 refine Meets.of_body (n := 36) Try.func26 rfl rfl (nl rfl) fun x hx => ?_
 replace hx : x.k = 0 := hx
 show AW _ x _ _ ⟨36, fr0 [(ds_ e_u8 a0)], []⟩
 refine AW.seq (AW.region ?_)
 refine s_assign (d := (sc (.slice none 0 0))) rfl (AWops.nil (AW.seq (AW.region ?_)))
 refine s_move (d := (ds_ e_u8 a0)) rfl (s_len (n := a0.length) F.u_22 rfl (.inr ⟨(fun _ _ h => by cases h), ⟨_, rfl⟩⟩) (s_move (d := (ds_ e_u8 a0)) rfl ?_))
 obtain ⟨r1, er1, h⟩ := bnd h
 refine cc [] [] (si r1) F.ca_58 rfl rfl (ac (.one .imm) an) an (wire_Crc.meets _ a0 r1 er1) (s_assign (d := (si (a0.length : Int))) rfl (s_assign (d := (si r1)) rfl (AWops.nil (AW.seq (AW.region (s_alloc (cs := rowC e_u8 (List.replicate 8 (0 : Int))) F.z_97 rfl rfl (AWops.nil (AW.seq (AW.seq (AW.region (s_move (d := (si 0)) rfl (AWops.nil (AW.block ?_)))))))))))))
 refine AW.loopw (st0 := ⟨36, (upd 36 (upd 36 (upd 36 (upd 36 (upd 36 topF 0 (ds_ e_u8 a0)) 3 (si (a0.length : Int))) 4 (si r1)) 5 (rf 0 0)) 11 (si 0)), [(some (AObj.cells true (rowC e_u8 (List.replicate 8 (0 : Int)))))]⟩) (fun kv st => kv ≤ k ∧ ∃ (x2 : List Int) (x3 : Int), journal_frame.l0 kv x2 x3 a0 r1 = some r ∧ st = ⟨36, (upd 36 (upd 36 (upd 36 (upd 36 (upd 36 topF 0 (ds_ e_u8 a0)) 3 (si (a0.length : Int))) 4 (si r1)) 5 (rf 0 0)) 11 (si x3)), [(ow_ e_u8 x2)]⟩) (k := k) (wg 0 [0] [] hx (le_upd (le_upd (le_upd (le_upd (le_upd (le_top _) (o1 .same)) (o1 .sc)) (o1 .sc)) (o1 (.ref rfl))) (o1 .sc)) (ac (.cells (fun _ => rfl) (all2_row _)) an)) ⟨Nat.le_refl _, (List.replicate 8 (0 : Int)), 0, h, rfl⟩ ?_
 rintro ql0 st ⟨hkl0, x2, x3, h, rfl⟩
 cases ql0 with
 | zero => exact absurd h (by simp [journal_frame.l0])
 | succ ql0 =>
  replace h := (journal_frame.l0.eq_2 _ _ _ _ _).symm.trans h
  refine AW.seq (AW.region ?_)
  refine s_binI (v := (.bool (decide (x3 < 4)))) rfl rfl rfl (AWops.nil (AW.seq ?_))
  rcases itH h with ⟨c4, h⟩ | ⟨c4, h⟩
  ·refine AW.cond_yes rfl c4 (AW.skip (AW.seq (AW.block (AW.seq (AW.region ?_)))))
   refine s_move (d := (si x3)) rfl (s_assign (d := (si x3)) rfl (AWops.nil (AW.seq (AW.region (s_move (d := (si x3)) rfl (s_move (d := (si (a0.length : Int))) rfl (s_move (d := (si x3)) rfl (s_binI (v := (.int .i64 (IntKind.i64.wrap (8 * x3)))) rfl rfl rfl ?_))))))))
   refine s_binI (v := (.int .i64 (IntKind.i64.wrap (24 - (IntKind.i64.wrap (8 * x3)))))) rfl rfl rfl ?_
   obtain ⟨c5, h⟩ := gdH h
   refine s_shift (v := (.int .i64 (Int.fdiv (a0.length : Int) (2 ^ (min (IntKind.i64.wrap (24 - (IntKind.i64.wrap (8 * x3)))).toNat 64))))) rfl rfl (if_neg (by have := of_decide_eq_true c5; omega)) (s_convI F.u_3 F.u_5 rfl ?_)
   obtain ⟨c6, h⟩ := gdH h
   obtain ⟨v7, ev7, h⟩ := bnd h
   obtain ⟨pv7, qv7, gv7⟩ := rd_some ev7
   refine s_indexArr (n := 8) (d := (D.one (C.ref 0 (0 + x3.toNat * 1)))) F.u_97 F.sz_5 rfl rfl pv7 (of_decide_eq_true c6) rfl ?_
   refine s_store (cs' := rowC e_u8 (x2.set x3.toNat (IntKind.u8.wrap (Int.fdiv (a0.length : Int) (2 ^ (min (IntKind.i64.wrap (24 - (IntKind.i64.wrap (8 * x3)))).toNat 64)))))) rfl rfl rfl (List.cons_ne_nil _ _) rfl F.sz_5 (by rw [row_len e_u8_len]; have := (List.getElem?_eq_some_iff.mp gv7).1; show _ + 1 ≤ _; omega) (row_set (f := e_u8) (sz := 1) (o := 0) (ds := [P.v (.int .u8 (IntKind.u8.wrap (Int.fdiv (a0.length : Int) (2 ^ (min (IntKind.i64.wrap (24 - (IntKind.i64.wrap (8 * x3)))).toNat 64)))))]) e_u8_len gv7 rfl (nl rfl) rfl) ?_
   refine AWops.nil (AW.region ?_)
   refine s_move (d := (si x3)) rfl (s_binI (v := (.int .i64 (IntKind.i64.wrap (4 + x3)))) rfl rfl rfl (s_move (d := (si r1)) rfl (s_move (d := (si x3)) rfl (s_binI (v := (.int .i64 (IntKind.i64.wrap (8 * x3)))) rfl rfl rfl (s_binI (v := (.int .i64 (IntKind.i64.wrap (24 - (IntKind.i64.wrap (8 * x3)))))) rfl rfl rfl ?_)))))
   refine s_shift (v := (.int .i64 (Int.fdiv r1 (2 ^ (min (IntKind.i64.wrap (24 - (IntKind.i64.wrap (8 * x3)))).toNat 64))))) rfl rfl (if_neg (by have := of_decide_eq_true c5; omega)) (s_convI F.u_3 F.u_5 rfl ?_)
   obtain ⟨c8, h⟩ := gdH h
   obtain ⟨v9, ev9, h⟩ := bnd h
   obtain ⟨pv9, qv9, gv9⟩ := rd_some ev9
   refine s_indexArr (n := 8) (d := (D.one (C.ref 0 (0 + (IntKind.i64.wrap (4 + x3)).toNat * 1)))) F.u_97 F.sz_5 rfl rfl pv9 (of_decide_eq_true c8) rfl ?_
   refine s_store (cs' := rowC e_u8 ((x2.set x3.toNat (IntKind.u8.wrap (Int.fdiv (a0.length : Int) (2 ^ (min (IntKind.i64.wrap (24 - (IntKind.i64.wrap (8 * x3)))).toNat 64))))).set (IntKind.i64.wrap (4 + x3)).toNat (IntKind.u8.wrap (Int.fdiv r1 (2 ^ (min (IntKind.i64.wrap (24 - (IntKind.i64.wrap (8 * x3)))).toNat 64)))))) rfl rfl rfl (List.cons_ne_nil _ _) rfl F.sz_5 (by rw [row_len e_u8_len]; have := (List.getElem?_eq_some_iff.mp gv9).1; show _ + 1 ≤ _; omega) (row_set (f := e_u8) (sz := 1) (o := 0) (ds := [P.v (.int .u8 (IntKind.u8.wrap (Int.fdiv r1 (2 ^ (min (IntKind.i64.wrap (24 - (IntKind.i64.wrap (8 * x3)))).toNat 64)))))]) e_u8_len gv9 rfl (nl rfl) rfl) ?_
   refine AWops.nil (AW.region ?_)
   refine s_binI (v := (.int .i64 (IntKind.i64.wrap (x3 + 1)))) rfl rfl rfl (s_move (d := (si (IntKind.i64.wrap (x3 + 1)))) rfl (AWops.nil ?_))
   exact ⟨_, ⟨36, (upd 36 (upd 36 (upd 36 (upd 36 (upd 36 topF 0 (ds_ e_u8 a0)) 3 (si (a0.length : Int))) 4 (si r1)) 5 (rf 0 0)) 11 (si (IntKind.i64.wrap (x3 + 1)))), [(some (AObj.cells true (rowC e_u8 ((x2.set x3.toNat (IntKind.u8.wrap (Int.fdiv (a0.length : Int) (2 ^ (min (IntKind.i64.wrap (24 - (IntKind.i64.wrap (8 * x3)))).toNat 64))))).set (IntKind.i64.wrap (4 + x3)).toNat (IntKind.u8.wrap (Int.fdiv r1 (2 ^ (min (IntKind.i64.wrap (24 - (IntKind.i64.wrap (8 * x3)))).toNat 64))))))))]⟩, by omega, (wg 0 [0] [] hx (le_upd (le_upd (le_upd (le_upd (le_upd (le_top _) (o1 .same)) (o1 .sc)) (o1 .sc)) (o1 (.ref rfl))) (o1 .sc)) (ac (.cells (fun _ => rfl) (all2_row _)) an)), by omega, (x2.set x3.toNat (IntKind.u8.wrap (Int.fdiv (a0.length : Int) (2 ^ (min (IntKind.i64.wrap (24 - (IntKind.i64.wrap (8 * x3)))).toNat 64))))).set (IntKind.i64.wrap (4 + x3)).toNat (IntKind.u8.wrap (Int.fdiv r1 (2 ^ (min (IntKind.i64.wrap (24 - (IntKind.i64.wrap (8 * x3)))).toNat 64)))), IntKind.i64.wrap (x3 + 1), h, rfl⟩
  ·refine AW.cond_no rfl c4 (AW.exit (AW.seq (AW.region ?_)))
   obtain ⟨c10, h⟩ := gdH h
   have dc10 := of_decide_eq_true c10
   refine s_sliceArr (n := 8) (l := 0) (h := 8) (d := (D.one (C.own 0 0 x2.length 1))) F.u_97 F.sz_5 rfl rfl (by rw [row_len e_u8_len]; omega) .no .no (by omega) (Nat.le_refl _) (by omega) (by simp [dc10]) (s_move (d := (ds_ e_u8 a0)) rfl ?_)
   refine AWops.weak (st' := ⟨36, (upd 36 (upd 36 (upd 36 (upd 36 (upd 36 (upd 36 (upd 36 topF 0 (ds_ e_u8 a0)) 3 (si (a0.length : Int))) 4 (si r1)) 11 (si x3)) 12 (sb (decide (x3 < 4)))) 32 (ds_ e_u8 x2)) 33 (ds_ e_u8 a0)), []⟩) (wg 0 [] [0] hx (le_upd (le_upd (le_upd (le_upd (le_upd (le_upd (le_upd (le_top _) (o1 .same)) (o1 .sc)) (o1 .sc)) (o1 .sc)) (o1 .sc)) (o1 (CLe.frz e_u8_len rfl rfl rfl))) (o1 .same)) an) ?_
   refine s_buildSlice (n := 2) (ps := [(0, (ds_ e_u8 x2)), (1, (ds_ e_u8 a0))]) (cs := rowC (e_sl e_u8) ([x2, a0] : List (List Int))) F.u_25 F.sz_22 F.z_22 rfl rfl (by decide) (by decide) rfl rfl ?_
   obtain ⟨r11, er11, h⟩ := bnd h
   refine s_call2 (ρ := []) (br := true) (H2 := [(some (AObj.cells true (rowC (e_sl e_u8) ([x2, a0] : List (List Int))))), (ow_ e_u8 r11)]) (d := (D.one (C.own 1 0 r11.length 1))) F.ca_57 rfl rfl (ac (.one (LendC.bor (e_sl_len _) rfl rfl rfl)) an) an (by decide) rfl (slices_Concat_byte_byte_57.meets _ ([x2, a0] : List (List Int)) r11 er11) (.inr ⟨rfl, by simp [frH, frC, fr_row e_u8_fr]⟩) (by first | rfl | (simp only [mS]; done) | (simp only [mS]; rfl)) rfl (s_assign (d := (D.one (C.own 1 0 r11.length 1))) rfl (AWops.nil (AW.ret ?_)))
   obtain rfl := Option.some.inj h
   exact ⟨_, rfl, (wg 0 [1] [] rfl (le_upd (le_top _) (o1 (.own rfl))) (ac (.cells (fun _ => rfl) (all2_row _)) an))⟩
mutual
def slices_Equal_byte_byte.l0 : Nat → Int → (List Int) → (List Int) → Option Bool
 | 0, _, _, _ => none
 | k + 1, x2, a0, a1 => if (decide (x2 < (a0.length : Int))) = true then ((rd a0 x2).bind fun v4 => (rd a1 x2).bind fun v5 => if (v4 != v5) = true then (some false) else (slices_Equal_byte_byte.l0 k (IntKind.i64.wrap (x2 + 1)) a0 a1)) else (some true)
end
def slices_Equal_byte_byte.f (k : Nat) (a0 : List Int) (a1 : List Int) : Option Bool := if ((a0.length : Int) != (a1.length : Int)) = true then (some false) else (slices_Equal_byte_byte.l0 k 0 a0 a1)
theorem slices_Equal_byte_byte.meets (k : Nat) (a0 : List Int) (a1 : List Int) (r : Bool) (h : slices_Equal_byte_byte.f k a0 a1 = some r) : Meets Try.prog 79 [(ds_ e_u8 a0), (ds_ e_u8 a1)] [] (sb r) [] := by
 unfold slices_Equal_byte_byte.f at h
 refine Meets.of_body (n := 26) Try.func79 rfl rfl (nl rfl) fun x hx => ?_
 replace hx : x.k = 0 := hx
 show AW _ x _ _ ⟨26, fr0 [(ds_ e_u8 a0), (ds_ e_u8 a1)], []⟩
 refine AW.seq (AW.region ?_)
 refine s_assign (d := (sb false)) rfl (AWops.nil (AW.seq (AW.seq (AW.region ?_))))
 refine s_move (d := (ds_ e_u8 a0)) rfl (s_len (n := a0.length) F.u_22 rfl (.inr ⟨(fun _ _ h => by cases h), ⟨_, rfl⟩⟩) (s_move (d := (ds_ e_u8 a1)) rfl (s_len (n := a1.length) F.u_22 rfl (.inr ⟨(fun _ _ h => by cases h), ⟨_, rfl⟩⟩) (s_binI (v := (.bool ((a0.length : Int) != (a1.length : Int)))) rfl rfl rfl (AWops.nil ?_)))))
 rcases itH h with ⟨c1, h⟩ | ⟨c1, h⟩
 ·refine AW.cond_yes rfl c1 (AW.seq (AW.region ?_))
  refine s_assign (d := (sb false)) rfl (AWops.nil (AW.ret ?_))
  obtain rfl := Option.some.inj h
  exact ⟨_, rfl, (wg 0 [] [] rfl (le_upd (le_top _) (o1 .sc)) an)⟩
 ·refine AW.cond_no rfl c1 (AW.skip (AW.seq (AW.seq (AW.region ?_))))
  refine s_move (d := (ds_ e_u8 a0)) rfl (s_len (n := a0.length) F.u_22 rfl (.inr ⟨(fun _ _ h => by cases h), ⟨_, rfl⟩⟩) (s_move (d := (si 0)) rfl (AWops.nil (AW.block ?_))))
  refine AW.loopw (st0 := ⟨26, (upd 26 (upd 26 (upd 26 (upd 26 topF 0 (ds_ e_u8 a0)) 1 (ds_ e_u8 a1)) 12 (si (a0.length : Int))) 13 (si 0)), []⟩) (fun kv st => kv ≤ k ∧ ∃ (x2 : Int), slices_Equal_byte_byte.l0 kv x2 a0 a1 = some r ∧ st = ⟨26, (upd 26 (upd 26 (upd 26 (upd 26 topF 0 (ds_ e_u8 a0)) 1 (ds_ e_u8 a1)) 12 (si (a0.length : Int))) 13 (si x2)), []⟩) (k := k) (wg 0 [] [] hx (le_upd (le_upd (le_upd (le_upd (le_top _) (o1 .same)) (o1 .same)) (o1 .sc)) (o1 .sc)) an) ⟨Nat.le_refl _, 0, h, rfl⟩ ?_
  rintro ql0 st ⟨hkl0, x2, h, rfl⟩
  cases ql0 with
  | zero => exact absurd h (by simp [slices_Equal_byte_byte.l0])
  | succ ql0 =>
   replace h := (slices_Equal_byte_byte.l0.eq_2 _ _ _ _).symm.trans h
   refine AW.seq (AW.region ?_)
   refine s_binI (v := (.bool (decide (x2 < (a0.length : Int))))) rfl rfl rfl (AWops.nil (AW.seq ?_))
   rcases itH h with ⟨c3, h⟩ | ⟨c3, h⟩
   ·refine AW.cond_yes rfl c3 (AW.skip (AW.seq (AW.block (AW.seq (AW.region ?_)))))
    refine s_move (d := (si x2)) rfl (s_assign (d := (si x2)) rfl (AWops.nil (AW.seq ?_)))
    refine AW.weak (st' := ⟨26, (upd 26 (upd 26 (upd 26 (upd 26 (upd 26 topF 0 (ds_ e_u8 a0)) 1 (ds_ e_u8 a1)) 5 (si x2)) 12 (si (a0.length : Int))) 13 (si x2)), []⟩) (wg 0 [] [] hx (le_upd (le_upd (le_upd (le_upd (le_upd (le_top _) (o1 .same)) (o1 .same)) (o1 .sc)) (o1 .sc)) (o1 .sc)) an) ?_
    obtain ⟨v4, ev4, h⟩ := bnd h
    obtain ⟨pv4, qv4, gv4⟩ := rd_some ev4
    obtain ⟨v5, ev5, h⟩ := bnd h
    obtain ⟨pv5, qv5, gv5⟩ := rd_some ev5
    refine AW.draw (n := 26) (L := 0) [(ft 0 16 (ds_ e_u8 a0) [(0, (ds_ e_u8 a0))]), (ft 1 17 (si x2) [(5, (si x2))]), (ft 2 18 (D.one (C.peek false [P.v (.int .u8 v4)])) [(16, (ds_ e_u8 a0)), (17, (si x2))]), (ft 3 19 (sc (.int .u8 v4)) [(18, (D.one (C.peek false [P.v (.int .u8 v4)])))]), (ft 4 20 (ds_ e_u8 a1) [(1, (ds_ e_u8 a1))]), (ft 5 21 (si x2) [(5, (si x2))]), (ft 6 22 (D.one (C.peek false [P.v (.int .u8 v5)])) [(20, (ds_ e_u8 a1)), (21, (si x2))]), (ft 7 23 (sc (.int .u8 v5)) [(22, (D.one (C.peek false [P.v (.int .u8 v5)])))]), (ft 8 24 (sb (v4 != v5)) [(19, (sc (.int .u8 v4))), (23, (sc (.int .u8 v5)))])] [[], [], [0, 1], [0, 1, 2], [], [], [4, 5], [4, 5, 6], (.range 8)] (nl rfl) [0, 0, 1, 2, 0, 0, 1, 2, 3] rfl (TK := []) rfl AllK.nil' (by repeat (first | refine fC ⟨?_, ?_⟩ ?_ | refine sC rfl ?_ | refine hC rfl ?_ | trivial)) ?_ ?_
    ·refine y8 ?_ ?_ ?_ ?_ ?_ ?_ ?_ ?_ (pC ?_ yN)
     ·intro K _ f w u k
      show Wp K ⟨26, (upd 26 f 0 (ds_ e_u8 a0)), _⟩
      refine s_move (d := (ds_ e_u8 a0)) rfl k
     ·intro K _ f w u k
      show Wp K ⟨26, (upd 26 f 5 (si x2)), _⟩
      refine s_move (d := (si x2)) rfl k
     ·intro K _ f w u k
      show Wp K ⟨26, (upd 26 (upd 26 f 17 (si x2)) 16 (ds_ e_u8 a0)), []⟩
      refine s_indexImm (ps := [P.v (.int .u8 v4)]) F.u_22 F.sz_5 rfl rfl pv4 qv4 (flat_at e_u8_len gv4 (e_u8_eq v4)) k
     ·intro K _ f w u k
      show Wp K ⟨26, (upd 26 f 18 (D.one (C.peek false [P.v (.int .u8 v4)]))), []⟩
      refine s_load1 (c' := (C.p true (.v (.int .u8 v4)))) F.ag_5 rfl rfl k
     ·intro K _ f w u k
      show Wp K ⟨26, (upd 26 f 1 (ds_ e_u8 a1)), _⟩
      refine s_move (d := (ds_ e_u8 a1)) rfl k
     ·intro K _ f w u k
      show Wp K ⟨26, (upd 26 f 5 (si x2)), _⟩
      refine s_move (d := (si x2)) rfl k
     ·intro K _ f w u k
      show Wp K ⟨26, (upd 26 (upd 26 f 21 (si x2)) 20 (ds_ e_u8 a1)), []⟩
      refine s_indexImm (ps := [P.v (.int .u8 v5)]) F.u_22 F.sz_5 rfl rfl pv5 qv5 (flat_at e_u8_len gv5 (e_u8_eq v5)) k
     ·intro K _ f w u k
      show Wp K ⟨26, (upd 26 f 22 (D.one (C.peek false [P.v (.int .u8 v5)]))), []⟩
      refine s_load1 (c' := (C.p true (.v (.int .u8 v5)))) F.ag_5 rfl rfl k
     ·intro K _ f w u k
      show Wp K ⟨26, (upd 26 (upd 26 f 23 (sc (.int .u8 v5))) 19 (sc (.int .u8 v4))), _⟩
      refine s_binI (v := (.bool (v4 != v5))) rfl rfl rfl k
    ·refine AWops.weak (st' := ⟨26, (upd 26 (upd 26 (upd 26 (upd 26 (upd 26 topF 0 (ds_ e_u8 a0)) 1 (ds_ e_u8 a1)) 12 (si (a0.length : Int))) 13 (si x2)) 24 (sb (v4 != v5))), []⟩) (wg 0 [] [] hx (le_upd (le_upd (le_upd (le_upd (le_upd (le_top _) (o1 .same)) (o1 .same)) (o1 .sc)) (o1 .sc)) (o1 .sc)) an) (AWops.nil ?_)
     rcases itH h with ⟨c6, h⟩ | ⟨c6, h⟩
     ·refine AW.cond_yes rfl c6 (AW.seq (AW.region ?_))
      refine s_assign (d := (sb false)) rfl (AWops.nil (AW.ret ?_))
      obtain rfl := Option.some.inj h
      exact ⟨_, rfl, (wg 0 [] [] rfl (le_upd (le_top _) (o1 .sc)) an)⟩
     ·refine AW.cond_no rfl c6 (AW.skip (AW.region ?_))
      refine s_binI (v := (.int .i64 (IntKind.i64.wrap (x2 + 1)))) rfl rfl rfl (s_move (d := (si (IntKind.i64.wrap (x2 + 1)))) rfl (AWops.nil ?_))
      exact ⟨_, ⟨26, (upd 26 (upd 26 (upd 26 (upd 26 topF 0 (ds_ e_u8 a0)) 1 (ds_ e_u8 a1)) 12 (si (a0.length : Int))) 13 (si (IntKind.i64.wrap (x2 + 1)))), []⟩, by omega, (wg 0 [] [] hx (le_upd (le_upd (le_upd (le_upd (le_top _) (o1 .same)) (o1 .same)) (o1 .sc)) (o1 .sc)) an), by omega, IntKind.i64.wrap (x2 + 1), h, rfl⟩
   ·refine AW.cond_no rfl c3 (AW.exit (AW.seq (AW.region ?_)))
    refine s_assign (d := (sb true)) rfl (AWops.nil (AW.ret ?_))
    obtain rfl := Option.some.inj h
    exact ⟨_, rfl, (wg 0 [] [] rfl (le_upd (le_top _) (o1 .sc)) an)⟩
mutual
def journal_next.l0 : Nat → Int → Int → (List Int) → Option ((List Int) × Bool)
 | 0, _, _, _ => none
 | k + 1, x3, x4, a0 => if (decide (x4 < ((sub a0 0 4).length : Int))) = true then ((rd (sub a0 0 4) x4).bind fun v6 => journal_next.l0 k (Go.bits .or .i64 (IntKind.i64.wrap (x3 * 2 ^ 8)) (IntKind.i64.wrap v6)) (IntKind.i64.wrap (x4 + 1)) a0) else (if (decide (x3 > (IntKind.i64.wrap ((a0.length : Int) - 8)))) = true then (some (([] : List Int), false)) else (if (decide (0 ≤ 8 ∧ 8 ≤ (IntKind.i64.wrap (8 + x3)) ∧ (IntKind.i64.wrap (8 + x3)) ≤ (a0.length : Int))) = true then ((slices_Clone_byte_byte.f k (sub a0 8 (IntKind.i64.wrap (8 + x3)))).bind fun r9 => (journal_frame.f k (sub a0 8 (IntKind.i64.wrap (8 + x3)))).bind fun r10 => if (decide (0 ≤ 0 ∧ 0 ≤ 8 ∧ 8 ≤ (r10.length : Int))) = true then (if (decide (0 ≤ 0 ∧ 0 ≤ 8 ∧ 8 ≤ (a0.length : Int))) = true then ((slices_Equal_byte_byte.f k (sub r10 0 8) (sub a0 0 8)).bind fun r13 => some (r9, r13)) else none) else none) else none))
end
def journal_next.f (k : Nat) (a0 : List Int) : Option ((List Int) × Bool) := if (decide ((a0.length : Int) < 8)) = true then (some (([] : List Int), false)) else (if (decide (0 ≤ 0 ∧ 0 ≤ 4 ∧ 4 ≤ (a0.length : Int))) = true then (journal_next.l0 k 0 0 a0) else none)
theorem journal_next.meets (k : Nat) (a0 : List Int) (r : (List Int) × Bool) (h : journal_next.f k a0 = some r) : Meets Try.prog 60 [(ds_ e_u8 a0)] [] (D.tup [(ds_ e_u8 r.1), (sb r.2)]) [] := by
 unfold journal_next.f at h
 refine Meets.of_body (n := 41) Try.func60 rfl rfl (nl rfl) fun x hx => ?_
 replace hx : x.k = 0 := hx
 show AW _ x _ _ ⟨41, fr0 [(ds_ e_u8 a0)], []⟩
 refine AW.seq (AW.region ?_)
 refine s_assign (d := (sc (.slice none 0 0))) rfl (s_assign (d := (sb false)) rfl (AWops.nil (AW.seq (AW.seq (AW.region (s_move (d := (ds_ e_u8 a0)) rfl (s_len (n := a0.length) F.u_22 rfl (.inr ⟨(fun _ _ h => by cases h), ⟨_, rfl⟩⟩) (s_binI (v := (.bool (decide ((a0.length : Int) < 8)))) rfl rfl rfl (AWops.nil ?_)))))))))
 rcases itH h with ⟨c1, h⟩ | ⟨c1, h⟩
 ·refine AW.cond_yes rfl c1 (AW.seq (AW.region ?_))
  refine s_assign (d := (sc (.slice none 0 0))) rfl (s_assign (d := (sb false)) rfl (AWops.nil (AW.ret ?_)))
  obtain rfl := Option.some.inj h
  exact ⟨_, rfl, (wg 0 [] [] rfl (le_upd (le_top _) (DLe.tup (ac (TLe.one .nil) (ac (TLe.one .sc) an)))) an)⟩
 ·refine AW.cond_no rfl c1 (AW.skip (AW.seq (AW.region ?_)))
  refine s_assign (d := (si 0)) rfl (AWops.nil (AW.seq (AW.seq (AW.region ?_))))
  refine s_move (d := (ds_ e_u8 a0)) rfl ?_
  obtain ⟨c2, h⟩ := gdH h
  have dc2 := of_decide_eq_true c2
  refine t_sliceImm (a := 0) (b := 4) F.u_22 F.sz_5 e_u8_len rfl (by omega) (by omega) (by omega) .no (.yes rfl (by omega) rfl) (s_len (n := (sub a0 0 4).length) F.u_22 rfl (.inr ⟨(fun _ _ h => by cases h), ⟨_, rfl⟩⟩) (s_move (d := (si 0)) rfl (AWops.nil (AW.block ?_))))
  refine AW.loopw (st0 := ⟨41, (upd 41 (upd 41 (upd 41 (upd 41 (upd 41 topF 0 (ds_ e_u8 a0)) 4 (si 0)) 12 (D.one (C.p false (.sl (sub a0 0 4).length ((sub a0 0 4).flatMap e_u8))))) 13 (si ((sub a0 0 4).length : Int))) 14 (si 0)), []⟩) (fun kv st => kv ≤ k ∧ ∃ (x3 : Int) (x4 : Int), journal_next.l0 kv x3 x4 a0 = some r ∧ st = ⟨41, (upd 41 (upd 41 (upd 41 (upd 41 (upd 41 topF 0 (ds_ e_u8 a0)) 4 (si x3)) 12 (D.one (C.p false (.sl (sub a0 0 4).length ((sub a0 0 4).flatMap e_u8))))) 13 (si ((sub a0 0 4).length : Int))) 14 (si x4)), []⟩) (k := k) (wg 0 [] [] hx (le_upd (le_upd (le_upd (le_upd (le_upd (le_top _) (o1 .same)) (o1 .sc)) (o1 .same)) (o1 .sc)) (o1 .sc)) an) ⟨Nat.le_refl _, 0, 0, h, rfl⟩ ?_
  rintro ql0 st ⟨hkl0, x3, x4, h, rfl⟩
  cases ql0 with
  | zero => exact absurd h (by simp [journal_next.l0])
  | succ ql0 =>
   replace h := (journal_next.l0.eq_2 _ _ _ _).symm.trans h
   refine AW.seq (AW.region ?_)
   refine s_binI (v := (.bool (decide (x4 < ((sub a0 0 4).length : Int))))) rfl rfl rfl (AWops.nil (AW.seq ?_))
   rcases itH h with ⟨c5, h⟩ | ⟨c5, h⟩
   ·refine AW.cond_yes rfl c5 (AW.skip (AW.seq (AW.block (AW.seq (AW.region ?_)))))
    obtain ⟨v6, ev6, h⟩ := bnd h
    obtain ⟨pv6, qv6, gv6⟩ := rd_some ev6
    refine s_indexImm (ps := [P.v (.int .u8 v6)]) F.u_22 F.sz_5 rfl rfl pv6 qv6 (flat_at e_u8_len gv6 (e_u8_eq v6)) (s_load1 (c' := (C.p true (.v (.int .u8 v6)))) F.ag_5 rfl rfl (s_assign (d := (sc (.int .u8 v6))) rfl (AWops.nil (AW.region (s_move (d := (si x3)) rfl (s_shift (v := (.int .i64 (IntKind.i64.wrap (x3 * 2 ^ 8)))) rfl rfl rfl (s_move (d := (sc (.int .u8 v6))) rfl ?_)))))))
    refine s_convI F.u_5 F.u_3 rfl (s_binI (v := (.int .i64 (Go.bits .or .i64 (IntKind.i64.wrap (x3 * 2 ^ 8)) (IntKind.i64.wrap v6)))) rfl rfl rfl (s_assign (d := (si (Go.bits .or .i64 (IntKind.i64.wrap (x3 * 2 ^ 8)) (IntKind.i64.wrap v6)))) rfl (AWops.nil (AW.region (s_binI (v := (.int .i64 (IntKind.i64.wrap (x4 + 1)))) rfl rfl rfl (s_move (d := (si (IntKind.i64.wrap (x4 + 1)))) rfl (AWops.nil ?_)))))))
    exact ⟨_, ⟨41, (upd 41 (upd 41 (upd 41 (upd 41 (upd 41 topF 0 (ds_ e_u8 a0)) 4 (si (Go.bits .or .i64 (IntKind.i64.wrap (x3 * 2 ^ 8)) (IntKind.i64.wrap v6)))) 12 (D.one (C.p false (.sl (sub a0 0 4).length ((sub a0 0 4).flatMap e_u8))))) 13 (si ((sub a0 0 4).length : Int))) 14 (si (IntKind.i64.wrap (x4 + 1)))), []⟩, by omega, (wg 0 [] [] hx (le_upd (le_upd (le_upd (le_upd (le_upd (le_top _) (o1 .same)) (o1 .sc)) (o1 .same)) (o1 .sc)) (o1 .sc)) an), by omega, Go.bits .or .i64 (IntKind.i64.wrap (x3 * 2 ^ 8)) (IntKind.i64.wrap v6), IntKind.i64.wrap (x4 + 1), h, rfl⟩
   ·refine AW.cond_no rfl c5 (AW.exit (AW.seq (AW.seq (AW.region ?_))))
    refine s_move (d := (si x3)) rfl (s_move (d := (ds_ e_u8 a0)) rfl (s_len (n := a0.length) F.u_22 rfl (.inr ⟨(fun _ _ h => by cases h), ⟨_, rfl⟩⟩) (s_binI (v := (.int .i64 (IntKind.i64.wrap ((a0.length : Int) - 8)))) rfl rfl rfl (s_binI (v := (.bool (decide (x3 > (IntKind.i64.wrap ((a0.length : Int) - 8)))))) rfl rfl rfl (AWops.nil ?_)))))
    rcases itH h with ⟨c7, h⟩ | ⟨c7, h⟩
    ·refine AW.cond_yes rfl c7 (AW.seq (AW.region ?_))
     refine s_assign (d := (sc (.slice none 0 0))) rfl (s_assign (d := (sb false)) rfl (AWops.nil (AW.ret ?_)))
     obtain rfl := Option.some.inj h
     exact ⟨_, rfl, (wg 0 [] [] rfl (le_upd (le_top _) (DLe.tup (ac (TLe.one .nil) (ac (TLe.one .sc) an)))) an)⟩
    ·refine AW.cond_no rfl c7 (AW.skip (AW.seq (AW.region ?_)))
     refine s_move (d := (ds_ e_u8 a0)) rfl (s_move (d := (si x3)) rfl (s_binI (v := (.int .i64 (IntKind.i64.wrap (8 + x3)))) rfl rfl rfl ?_))
     obtain ⟨c8, h⟩ := gdH h
     have dc8 := of_decide_eq_true c8
     refine t_sliceImm (a := 8) (b := IntKind.i64.wrap (8 + x3)) F.u_22 F.sz_5 e_u8_len rfl (by omega) (by omega) (by omega) (.yes rfl (by omega) rfl) (.yes rfl (by omega) rfl) (s_assign (d := (D.one (C.p false (.sl (sub a0 8 (IntKind.i64.wrap (8 + x3))).length ((sub a0 8 (IntKind.i64.wrap (8 + x3))).flatMap e_u8))))) rfl (AWops.nil (AW.seq ?_)))
     refine AW.weak (st' := ⟨41, (upd 41 (upd 41 topF 0 (ds_ e_u8 a0)) 7 (D.one (C.p false (.sl (sub a0 8 (IntKind.i64.wrap (8 + x3))).length ((sub a0 8 (IntKind.i64.wrap (8 + x3))).flatMap e_u8))))), []⟩) (wg 0 [] [] hx (le_upd (le_upd (le_top _) (o1 .same)) (o1 .same)) an) ?_
     obtain ⟨r9, er9, h⟩ := bnd h
     obtain ⟨r10, er10, h⟩ := bnd h
     obtain ⟨c11, h⟩ := gdH h
     have dc11 := of_decide_eq_true c11
     obtain ⟨c12, h⟩ := gdH h
     have dc12 := of_decide_eq_true c12
     obtain ⟨r13, er13, h⟩ := bnd h
     refine AW.draw (n := 41) (L := 3) [(ft 0 33 (D.one (C.p false (.sl (sub a0 8 (IntKind.i64.wrap (8 + x3))).length ((sub a0 8 (IntKind.i64.wrap (8 + x3))).flatMap e_u8)))) [(7, (D.one (C.p false (.sl (sub a0 8 (IntKind.i64.wrap (8 + x3))).length ((sub a0 8 (IntKind.i64.wrap (8 + x3))).flatMap e_u8)))))]), (1, ⟨some 34, (D.one (C.own 0 0 r9.length 1)), [(33, (D.one (C.p false (.sl (sub a0 8 (IntKind.i64.wrap (8 + x3))).length ((sub a0 8 (IntKind.i64.wrap (8 + x3))).flatMap e_u8)))))], [], [(0, (ow_ e_u8 r9))], some 0⟩), (ft 2 35 (D.one (C.p false (.sl (sub a0 8 (IntKind.i64.wrap (8 + x3))).length ((sub a0 8 (IntKind.i64.wrap (8 + x3))).flatMap e_u8)))) [(7, (D.one (C.p false (.sl (sub a0 8 (IntKind.i64.wrap (8 + x3))).length ((sub a0 8 (IntKind.i64.wrap (8 + x3))).flatMap e_u8)))))]), (3, ⟨some 36, (ds_ e_u8 r10), [(35, (D.one (C.p false (.sl (sub a0 8 (IntKind.i64.wrap (8 + x3))).length ((sub a0 8 (IntKind.i64.wrap (8 + x3))).flatMap e_u8)))))], [], [], some 1⟩), (ft 4 37 (D.one (C.p false (.sl (sub r10 0 8).length ((sub r10 0 8).flatMap e_u8)))) [(36, (ds_ e_u8 r10))]), (ft 5 38 (ds_ e_u8 a0) [(0, (ds_ e_u8 a0))]), (ft 6 39 (D.one (C.p false (.sl (sub a0 0 8).length ((sub a0 0 8).flatMap e_u8)))) [(38, (ds_ e_u8 a0))]), (ft 7 40 (sb r13) [(37, (D.one (C.p false (.sl (sub r10 0 8).length ((sub r10 0 8).flatMap e_u8))))), (39, (D.one (C.p false (.sl (sub a0 0 8).length ((sub a0 0 8).flatMap e_u8)))))]), (ft 8 2 (D.one (C.own 0 0 r9.length 1)) [(34, (D.one (C.own 0 0 r9.length 1)))]), (ft 9 3 (sb r13) [(40, (sb r13))])] [[], [0], [], [0, 1, 2], [0, 1, 2, 3], [], [5], (.range 7), (.range 8), (.range 9)] (nl rfl) [0, 1, 0, 2, 3, 0, 1, 4, 5, 6] rfl (TK := [(1, 0), (3, 1)]) rfl (AllK.cons' ⟨(tk_upd (tk_upd tk_top rfl) rfl), AllT.nil', (fC (.inr rfl) (fC (.inl rfl) (fC (.inr rfl) (fC (.inl rfl) (fC (.inl rfl) (fC (.inr rfl) (fC (.inr rfl) (fC (.inl rfl) (fC (.inl rfl) (fC (.inl rfl) AllF.nil'))))))))))⟩ (AllK.cons' ⟨(tk_upd (tk_upd tk_top rfl) rfl), AllT.nil', (by repeat (first | refine fC (.inl rfl) ?_ | refine fC (.inr rfl) ?_ | refine fC (.inr (by unfold tkFoot; simp only [List.all_cons, List.all_nil, tkO_row, Bool.and_true, Bool.true_and]; rfl)) ?_ | trivial))⟩ AllK.nil')) (by repeat (first | refine fC ⟨?_, ?_⟩ ?_ | refine sC rfl ?_ | refine hC rfl ?_ | trivial)) ?_ ?_
     ·refine y8 ?_ ?_ ?_ ?_ ?_ ?_ ?_ ?_ (y2 ?_ ?_ yN)
      ·intro K _ f w u k
       show Wp K ⟨41, (upd 41 f 7 (D.one (C.p false (.sl (sub a0 8 (IntKind.i64.wrap (8 + x3))).length ((sub a0 8 (IntKind.i64.wrap (8 + x3))).flatMap e_u8))))), _⟩
       refine s_move (d := (D.one (C.p false (.sl (sub a0 8 (IntKind.i64.wrap (8 + x3))).length ((sub a0 8 (IntKind.i64.wrap (8 + x3))).flatMap e_u8))))) rfl k
      ·intro K _ f w u k
       show Wp K ⟨41, (upd 41 f 33 (D.one (C.p false (.sl (sub a0 8 (IntKind.i64.wrap (8 + x3))).length ((sub a0 8 (IntKind.i64.wrap (8 + x3))).flatMap e_u8))))), [_, _, _]⟩
       refine cc [] [(w 0), (w 1), (w 2), (ow_ e_u8 r9)] (D.one (C.own 3 0 r9.length 1)) F.ca_28 rfl rfl (ac (.one .imm) an) an (slices_Clone_byte_byte.meets _ (sub a0 8 (IntKind.i64.wrap (8 + x3))) r9 er9) ?_
       refine AWops.weak (st' := ⟨41, (upd 41 (upd 41 f 33 (D.one (C.p false (.sl (sub a0 8 (IntKind.i64.wrap (8 + x3))).length ((sub a0 8 (IntKind.i64.wrap (8 + x3))).flatMap e_u8))))) 34 (D.one (C.own 0 0 r9.length 1))), [(ow_ e_u8 r9), (w 1), (w 2)]⟩) (wg 0 [3, 1, 2] [] hx (le_upd2 (le_ok (p := 0) (L := 3) rfl (u 0 rfl).1) (o1 (.own rfl))) (ac (.cells (fun _ => rfl) (all2_row _)) (ac (oq 0 3 (u 0 rfl) 1) (ac (oq 0 3 (u 0 rfl) 2) an)))) k
      ·intro K _ f w u k
       show Wp K ⟨41, (upd 41 f 7 (D.one (C.p false (.sl (sub a0 8 (IntKind.i64.wrap (8 + x3))).length ((sub a0 8 (IntKind.i64.wrap (8 + x3))).flatMap e_u8))))), _⟩
       refine s_move (d := (D.one (C.p false (.sl (sub a0 8 (IntKind.i64.wrap (8 + x3))).length ((sub a0 8 (IntKind.i64.wrap (8 + x3))).flatMap e_u8))))) rfl k
      ·intro K _ f w u k
       show Wp K ⟨41, (upd 41 f 35 (D.one (C.p false (.sl (sub a0 8 (IntKind.i64.wrap (8 + x3))).length ((sub a0 8 (IntKind.i64.wrap (8 + x3))).flatMap e_u8))))), [_, _, _]⟩
       refine cc [] [(w 0), (w 1), (w 2), (ow_ e_u8 r10)] (D.one (C.own 3 0 r10.length 1)) F.ca_26 rfl rfl (ac (.one .imm) an) an (journal_frame.meets _ (sub a0 8 (IntKind.i64.wrap (8 + x3))) r10 er10) ?_
       refine AWops.weak (st' := ⟨41, (upd 41 (upd 41 f 35 (D.one (C.p false (.sl (sub a0 8 (IntKind.i64.wrap (8 + x3))).length ((sub a0 8 (IntKind.i64.wrap (8 + x3))).flatMap e_u8))))) 36 (ds_ e_u8 r10)), [(w 0), (w 1), (w 2)]⟩) (wg 0 [0, 1, 2] [3] hx (le_upd2 (le_ok (p := 1) (L := 3) rfl (u 1 rfl).1) (o1 (CLe.frz e_u8_len rfl rfl rfl))) (ac (oq 1 3 (u 1 rfl) 0) (ac (oq 1 3 (u 1 rfl) 1) (ac (oq 1 3 (u 1 rfl) 2) an)))) k
      ·intro K _ f w u k
       show Wp K ⟨41, (upd 41 f 36 (ds_ e_u8 r10)), [_, _, _]⟩
       refine t_sliceImm (a := 0) (b := 8) F.u_22 F.sz_5 e_u8_len rfl (by omega) (by omega) (by omega) .no (.yes rfl (by omega) rfl) k
      ·intro K _ f w u k
       show Wp K ⟨41, (upd 41 f 0 (ds_ e_u8 a0)), _⟩
       refine s_move (d := (ds_ e_u8 a0)) rfl k
      ·intro K _ f w u k
       show Wp K ⟨41, (upd 41 f 38 (ds_ e_u8 a0)), [_, _, _]⟩
       refine t_sliceImm (a := 0) (b := 8) F.u_22 F.sz_5 e_u8_len rfl (by omega) (by omega) (by omega) .no (.yes rfl (by omega) rfl) k
      ·intro K _ f w u k
       show Wp K ⟨41, (upd 41 (upd 41 f 39 (D.one (C.p false (.sl (sub a0 0 8).length ((sub a0 0 8).flatMap e_u8))))) 37 (D.one (C.p false (.sl (sub r10 0 8).length ((sub r10 0 8).flatMap e_u8))))), [_, _, _]⟩
       refine cc [] [(w 0), (w 1), (w 2)] (sb r13) F.ca_79 rfl rfl (ac (.one .imm) (ac (.one .imm) an)) an (slices_Equal_byte_byte.meets _ (sub r10 0 8) (sub a0 0 8) r13 er13) k
      ·intro K _ f w u k
       show Wp K ⟨41, (upd 41 f 34 (D.one (C.own 0 0 r9.length 1))), _⟩
       refine s_assign (d := (D.one (C.own 0 0 r9.length 1))) rfl k
      ·intro K _ f w u k
       show Wp K ⟨41, (upd 41 f 40 (sb r13)), _⟩
       refine s_assign (d := (sb r13)) rfl k
     ·refine AWops.weak (st' := ⟨41, (upd 41 (upd 41 topF 2 (D.one (C.own 0 0 r9.length 1))) 3 (sb r13)), [(ow_ e_u8 r9)]⟩) (wg 0 [0] [] hx (le_upd (le_upd (le_top _) (o1 (.own rfl))) (o1 .sc)) (ac (.cells (fun _ => rfl) (all2_row _)) an)) (AWops.nil (AW.ret ?_))
      obtain rfl := Option.some.inj h
      exact ⟨_, rfl, (wg 0 [] [0] rfl (le_upd (le_top _) (DLe.tup (ac (TLe.one (CLe.frz e_u8_len rfl rfl rfl)) (ac (TLe.one .sc) an)))) an)⟩
def vdisk_Disk_Truncate.f (k : Nat) (p0 : vdisk_Disk) (a1 : ByteArray) (a2 : Int) : Option (Int × vdisk_Disk) := (vdisk_Disk_change.f k p0 (decide (a2 ≥ 0)) a1 false 0).bind fun r1 => if (r1 == 0) = true then (if (decide (0 ≤ (if (((lk_vdisk_file a1 p0.files).b).length : Int) < a2 then (((lk_vdisk_file a1 p0.files).b).length : Int) else a2) ∧ (if (((lk_vdisk_file a1 p0.files).b).length : Int) < a2 then (((lk_vdisk_file a1 p0.files).b).length : Int) else a2) ≤ (((lk_vdisk_file a1 p0.files).b).length : Int))) = true then ((vdisk_Disk_set.f k p0 a1 (⟨sub ((lk_vdisk_file a1 p0.files).b) 0 (if (((lk_vdisk_file a1 p0.files).b).length : Int) < a2 then (((lk_vdisk_file a1 p0.files).b).length : Int) else a2), (if ((lk_vdisk_file a1 p0.files).sure) < (if (((lk_vdisk_file a1 p0.files).b).length : Int) < a2 then (((lk_vdisk_file a1 p0.files).b).length : Int) else a2) then ((lk_vdisk_file a1 p0.files).sure) else (if (((lk_vdisk_file a1 p0.files).b).length : Int) < a2 then (((lk_vdisk_file a1 p0.files).b).length : Int) else a2))⟩ : vdisk_file)).bind fun r4 => some (r1, r4)) else none) else (some (r1, p0))
theorem vdisk_Disk_Truncate.meets (k : Nat) (p0 : vdisk_Disk) (a1 : ByteArray) (a2 : Int) (r : Int × vdisk_Disk) (h : vdisk_Disk_Truncate.f k p0 a1 a2 = some r) : Meets Try.prog 44 [(rf 0 0), (st_ a1), (si a2)] [(o_vdisk_Disk_03 false (C.mp 1) np p0), (om_ e_vdisk_file p0.files)] (si r.1) [(o_vdisk_Disk_03 false (C.mp 1) np r.2), (om_ e_vdisk_file r.2.files)] := by
 unfold vdisk_Disk_Truncate.f at h
 refine Meets.of_body (n := 41) Try.func44 rfl rfl (nl rfl) fun x hx => ?_
 replace hx : x.k = 2 := hx
 show AW _ x _ _ ⟨41, fr0 [(rf 0 0), (st_ a1), (si a2)], [(o_vdisk_Disk_03 false (C.mp 1) np p0), (om_ e_vdisk_file p0.files)]⟩
 refine AW.seq (AW.region ?_)
 refine s_assign (d := (si 0)) rfl (AWops.nil (AW.seq (AW.region ?_)))
 refine s_move (d := (rf 0 0)) rfl (s_move (d := (si a2)) rfl (s_binI (v := (.bool (decide (a2 ≥ 0)))) rfl rfl rfl (s_move (d := (st_ a1)) rfl ?_)))
 obtain ⟨r1, er1, h⟩ := bnd h
 refine cc [0, 1] [(o_vdisk_Disk_03 false (C.mp 1) np p0), (om_ e_vdisk_file p0.files)] (si r1) F.ca_55 rfl rfl (ac (.one (.ref rfl)) (ac (.one .sc) (ac (.one .sc) (ac (.one .sc) (ac (.one .sc) an))))) (ac (.cells (ac (.mp rfl) (ac .sc (ac .sc (ac .sc (ac .sc an)))))) (ac .map an)) (vdisk_Disk_change.meets _ p0 (decide (a2 ≥ 0)) a1 false 0 r1 er1) (s_assign (d := (si r1)) rfl (AWops.nil (AW.seq (AW.seq (AW.region (s_move (d := (si r1)) rfl (s_binI (v := (.bool (r1 == 0))) rfl rfl rfl (AWops.nil ?_))))))))
 rcases itH h with ⟨c2, h⟩ | ⟨c2, h⟩
 ·refine AW.cond_yes rfl c2 (AW.seq (AW.region ?_))
  refine s_move (d := (rf 0 0)) rfl (s_nilCheck (d := (rf 0 0)) rfl (.inl ⟨_, _, rfl⟩) (s_fieldRef F.fo_37_0 (by decide) rfl (s_load1 (c' := (C.mp 1)) F.ag_34 rfl rfl (s_move (d := (st_ a1)) rfl (t_lookup (b := true) F.u_34 F.u_9 F.z_79 (z := ((⟨([] : List Int), 0⟩ : vdisk_file) : vdisk_file)) (zs := [(.slice none 0 0), (.int .i64 0)]) rfl (fun h => by cases h) (ac ZRel.n (ac (ZRel.v _ rfl) an)) rfl rfl rfl rfl ?_)))))
  refine s_alloc (cs := [(C.p true (.v (.slice none 0 0))), (ci 0)]) F.z_79 rfl rfl (s_store (cs' := (c_vdisk_file (lk_vdisk_file a1 p0.files))) rfl rfl rfl (List.cons_ne_nil _ _) rfl F.sz_79 (nl rfl) rfl (AWops.nil (AW.seq (AW.region (s_move (d := (si a2)) rfl (s_fieldRef F.fo_79_0 (by decide) rfl (s_load1 (c' := (C.p false (.sl ((lk_vdisk_file a1 p0.files).b).length (((lk_vdisk_file a1 p0.files).b).flatMap e_u8)))) F.ag_22 rfl rfl (s_len (n := ((lk_vdisk_file a1 p0.files).b).length) F.u_22 rfl (.inr ⟨(fun _ _ h => by cases h), ⟨_, rfl⟩⟩) ?_))))))))
  refine s_min2 (r := (if (((lk_vdisk_file a1 p0.files).b).length : Int) < a2 then (((lk_vdisk_file a1 p0.files).b).length : Int) else a2)) rfl rfl rfl (s_assign (d := (si (if (((lk_vdisk_file a1 p0.files).b).length : Int) < a2 then (((lk_vdisk_file a1 p0.files).b).length : Int) else a2))) rfl (AWops.nil ?_))
  refine AW.weak (st' := ⟨41, (upd 41 (upd 41 (upd 41 (upd 41 (upd 41 topF 0 (rf 0 0)) 1 (st_ a1)) 2 (si (if (((lk_vdisk_file a1 p0.files).b).length : Int) < a2 then (((lk_vdisk_file a1 p0.files).b).length : Int) else a2))) 7 (si r1)) 8 (rf 2 0)), [(o_vdisk_Disk_03 false (C.mp 1) np p0), (om_ e_vdisk_file p0.files), (some (AObj.cells true (c_vdisk_file (lk_vdisk_file a1 p0.files))))]⟩) (wg 2 [0, 1, 2] [] hx (le_upd (le_upd (le_upd (le_upd (le_upd (le_top _) (o1 (.ref rfl))) (o1 .sc)) (o1 .sc)) (o1 .sc)) (o1 (.ref rfl))) (ac (qs rfl) (ac .map (ac (.cells (fun _ => rfl) (ac .same (ac .sc an))) an)))) ?_
  obtain ⟨c3, h⟩ := gdH h
  have dc3 := of_decide_eq_true c3
  obtain ⟨r4, er4, h⟩ := bnd h
  refine AW.draw (n := 41) (L := 4) [(ft 0 27 (rf 0 0) [(0, (rf 0 0))]), (ft 1 28 (st_ a1) [(1, (st_ a1))]), (ft 2 29 (rf 2 0) [(8, (rf 2 0))]), (3, ⟨some 30, (D.one (C.p false (.sl ((lk_vdisk_file a1 p0.files).b).length (((lk_vdisk_file a1 p0.files).b).flatMap e_u8)))), [(29, (rf 2 0))], [(2, (some (AObj.cells true (c_vdisk_file (lk_vdisk_file a1 p0.files)))))], [], none⟩), (ft 4 31 (si (if (((lk_vdisk_file a1 p0.files).b).length : Int) < a2 then (((lk_vdisk_file a1 p0.files).b).length : Int) else a2)) [(2, (si (if (((lk_vdisk_file a1 p0.files).b).length : Int) < a2 then (((lk_vdisk_file a1 p0.files).b).length : Int) else a2)))]), (ft 5 32 (si (if (((lk_vdisk_file a1 p0.files).b).length : Int) < a2 then (((lk_vdisk_file a1 p0.files).b).length : Int) else a2)) [(2, (si (if (((lk_vdisk_file a1 p0.files).b).length : Int) < a2 then (((lk_vdisk_file a1 p0.files).b).length : Int) else a2)))]), (ft 6 33 (D.one (C.p false (.sl (sub ((lk_vdisk_file a1 p0.files).b) 0 (if (((lk_vdisk_file a1 p0.files).b).length : Int) < a2 then (((lk_vdisk_file a1 p0.files).b).length : Int) else a2)).length ((sub ((lk_vdisk_file a1 p0.files).b) 0 (if (((lk_vdisk_file a1 p0.files).b).length : Int) < a2 then (((lk_vdisk_file a1 p0.files).b).length : Int) else a2)).flatMap e_u8)))) [(30, (D.one (C.p false (.sl ((lk_vdisk_file a1 p0.files).b).length (((lk_vdisk_file a1 p0.files).b).flatMap e_u8))))), (31, (si (if (((lk_vdisk_file a1 p0.files).b).length : Int) < a2 then (((lk_vdisk_file a1 p0.files).b).length : Int) else a2))), (32, (si (if (((lk_vdisk_file a1 p0.files).b).length : Int) < a2 then (((lk_vdisk_file a1 p0.files).b).length : Int) else a2)))]), (ft 7 34 (si (if (((lk_vdisk_file a1 p0.files).b).length : Int) < a2 then (((lk_vdisk_file a1 p0.files).b).length : Int) else a2)) [(2, (si (if (((lk_vdisk_file a1 p0.files).b).length : Int) < a2 then (((lk_vdisk_file a1 p0.files).b).length : Int) else a2)))]), (ft 8 35 (rf 2 1) [(8, (rf 2 0))]), (9, ⟨some 36, (si ((lk_vdisk_file a1 p0.files).sure)), [(35, (rf 2 1))], [(2, (some (AObj.cells true (c_vdisk_file (lk_vdisk_file a1 p0.files)))))], [], none⟩), (ft 10 37 (si (if ((lk_vdisk_file a1 p0.files).sure) < (if (((lk_vdisk_file a1 p0.files).b).length : Int) < a2 then (((lk_vdisk_file a1 p0.files).b).length : Int) else a2) then ((lk_vdisk_file a1 p0.files).sure) else (if (((lk_vdisk_file a1 p0.files).b).length : Int) < a2 then (((lk_vdisk_file a1 p0.files).b).length : Int) else a2))) [(34, (si (if (((lk_vdisk_file a1 p0.files).b).length : Int) < a2 then (((lk_vdisk_file a1 p0.files).b).length : Int) else a2))), (36, (si ((lk_vdisk_file a1 p0.files).sure)))]), (ft 11 38 (D.agg [(C.p false (.sl (sub ((lk_vdisk_file a1 p0.files).b) 0 (if (((lk_vdisk_file a1 p0.files).b).length : Int) < a2 then (((lk_vdisk_file a1 p0.files).b).length : Int) else a2)).length ((sub ((lk_vdisk_file a1 p0.files).b) 0 (if (((lk_vdisk_file a1 p0.files).b).length : Int) < a2 then (((lk_vdisk_file a1 p0.files).b).length : Int) else a2)).flatMap e_u8))), (ci (if ((lk_vdisk_file a1 p0.files).sure) < (if (((lk_vdisk_file a1 p0.files).b).length : Int) < a2 then (((lk_vdisk_file a1 p0.files).b).length : Int) else a2) then ((lk_vdisk_file a1 p0.files).sure) else (if (((lk_vdisk_file a1 p0.files).b).length : Int) < a2 then (((lk_vdisk_file a1 p0.files).b).length : Int) else a2)))]) [(33, (D.one (C.p false (.sl (sub ((lk_vdisk_file a1 p0.files).b) 0 (if (((lk_vdisk_file a1 p0.files).b).length : Int) < a2 then (((lk_vdisk_file a1 p0.files).b).length : Int) else a2)).length ((sub ((lk_vdisk_file a1 p0.files).b) 0 (if (((lk_vdisk_file a1 p0.files).b).length : Int) < a2 then (((lk_vdisk_file a1 p0.files).b).length : Int) else a2)).flatMap e_u8))))), (37, (si (if ((lk_vdisk_file a1 p0.files).sure) < (if (((lk_vdisk_file a1 p0.files).b).length : Int) < a2 then (((lk_vdisk_file a1 p0.files).b).length : Int) else a2) then ((lk_vdisk_file a1 p0.files).sure) else (if (((lk_vdisk_file a1 p0.files).b).length : Int) < a2 then (((lk_vdisk_file a1 p0.files).b).length : Int) else a2))))]), (12, ⟨some 39, (D.tup []), [(27, (rf 0 0)), (28, (st_ a1)), (38, (D.agg [(C.p false (.sl (sub ((lk_vdisk_file a1 p0.files).b) 0 (if (((lk_vdisk_file a1 p0.files).b).length : Int) < a2 then (((lk_vdisk_file a1 p0.files).b).length : Int) else a2)).length ((sub ((lk_vdisk_file a1 p0.files).b) 0 (if (((lk_vdisk_file a1 p0.files).b).length : Int) < a2 then (((lk_vdisk_file a1 p0.files).b).length : Int) else a2)).flatMap e_u8))), (ci (if ((lk_vdisk_file a1 p0.files).sure) < (if (((lk_vdisk_file a1 p0.files).b).length : Int) < a2 then (((lk_vdisk_file a1 p0.files).b).length : Int) else a2) then ((lk_vdisk_file a1 p0.files).sure) else (if (((lk_vdisk_file a1 p0.files).b).length : Int) < a2 then (((lk_vdisk_file a1 p0.files).b).length : Int) else a2)))]))], [(0, (o_vdisk_Disk_03 false (C.mp 1) np p0)), (1, (om_ e_vdisk_file p0.files))], [(0, (o_vdisk_Disk_03 false (C.mp 1) np r4)), (1, (om_ e_vdisk_file r4.files))], none⟩)] [[], [], [], [2], [], [], [2, 3, 4, 5], [], [], [8], [7, 8, 9], [2, 3, 4, 5, 6, 7, 8, 9, 10], (.range 12)] (nl rfl) [0, 0, 0, 1, 0, 0, 2, 0, 0, 1, 2, 3, 4] rfl (TK := []) rfl AllK.nil' (by repeat (first | refine fC ⟨?_, ?_⟩ ?_ | refine sC rfl ?_ | refine hC rfl ?_ | trivial)) ?_ ?_
  ·refine y8 ?_ ?_ ?_ ?_ ?_ ?_ ?_ ?_ (y4 ?_ ?_ ?_ ?_ (pC ?_ yN))
   ·intro K _ f w u k
    show Wp K ⟨41, (upd 41 f 0 (rf 0 0)), _⟩
    refine s_move (d := (rf 0 0)) rfl k
   ·intro K _ f w u k
    show Wp K ⟨41, (upd 41 f 1 (st_ a1)), _⟩
    refine s_move (d := (st_ a1)) rfl k
   ·intro K _ f w u k
    show Wp K ⟨41, (upd 41 f 8 (rf 2 0)), [_, _, _, _]⟩
    refine s_fieldRef F.fo_79_0 (by decide) rfl k
   ·intro K _ f w u k
    show Wp K ⟨41, (upd 41 f 29 (rf 2 0)), [_, _, (some (AObj.cells true (c_vdisk_file (lk_vdisk_file a1 p0.files)))), _]⟩
    refine s_load1 (c' := (C.p false (.sl ((lk_vdisk_file a1 p0.files).b).length (((lk_vdisk_file a1 p0.files).b).flatMap e_u8)))) F.ag_22 rfl rfl k
   ·intro K _ f w u k
    show Wp K ⟨41, (upd 41 f 2 (si (if (((lk_vdisk_file a1 p0.files).b).length : Int) < a2 then (((lk_vdisk_file a1 p0.files).b).length : Int) else a2))), _⟩
    refine s_move (d := (si (if (((lk_vdisk_file a1 p0.files).b).length : Int) < a2 then (((lk_vdisk_file a1 p0.files).b).length : Int) else a2))) rfl k
   ·intro K _ f w u k
    show Wp K ⟨41, (upd 41 f 2 (si (if (((lk_vdisk_file a1 p0.files).b).length : Int) < a2 then (((lk_vdisk_file a1 p0.files).b).length : Int) else a2))), _⟩
    refine s_move (d := (si (if (((lk_vdisk_file a1 p0.files).b).length : Int) < a2 then (((lk_vdisk_file a1 p0.files).b).length : Int) else a2))) rfl k
   ·intro K _ f w u k
    show Wp K ⟨41, (upd 41 (upd 41 (upd 41 f 32 (si (if (((lk_vdisk_file a1 p0.files).b).length : Int) < a2 then (((lk_vdisk_file a1 p0.files).b).length : Int) else a2))) 31 (si (if (((lk_vdisk_file a1 p0.files).b).length : Int) < a2 then (((lk_vdisk_file a1 p0.files).b).length : Int) else a2))) 30 (D.one (C.p false (.sl ((lk_vdisk_file a1 p0.files).b).length (((lk_vdisk_file a1 p0.files).b).flatMap e_u8))))), [_, _, _, _]⟩
    refine t_slice3Imm F.u_22 F.sz_5 e_u8_len rfl rfl rfl (by omega) (by omega) k
   ·intro K _ f w u k
    show Wp K ⟨41, (upd 41 f 2 (si (if (((lk_vdisk_file a1 p0.files).b).length : Int) < a2 then (((lk_vdisk_file a1 p0.files).b).length : Int) else a2))), _⟩
    refine s_move (d := (si (if (((lk_vdisk_file a1 p0.files).b).length : Int) < a2 then (((lk_vdisk_file a1 p0.files).b).length : Int) else a2))) rfl k
   ·intro K _ f w u k
    show Wp K ⟨41, (upd 41 f 8 (rf 2 0)), [_, _, _, _]⟩
    refine s_fieldRef F.fo_79_1 (by decide) rfl k
   ·intro K _ f w u k
    show Wp K ⟨41, (upd 41 f 35 (rf 2 1)), [_, _, (some (AObj.cells true (c_vdisk_file (lk_vdisk_file a1 p0.files)))), _]⟩
    refine s_load1 (c' := (ci ((lk_vdisk_file a1 p0.files).sure))) F.ag_3 rfl rfl k
   ·intro K _ f w u k
    show Wp K ⟨41, (upd 41 (upd 41 f 36 (si ((lk_vdisk_file a1 p0.files).sure))) 34 (si (if (((lk_vdisk_file a1 p0.files).b).length : Int) < a2 then (((lk_vdisk_file a1 p0.files).b).length : Int) else a2))), [_, _, _, _]⟩
    refine s_min2 (r := (if ((lk_vdisk_file a1 p0.files).sure) < (if (((lk_vdisk_file a1 p0.files).b).length : Int) < a2 then (((lk_vdisk_file a1 p0.files).b).length : Int) else a2) then ((lk_vdisk_file a1 p0.files).sure) else (if (((lk_vdisk_file a1 p0.files).b).length : Int) < a2 then (((lk_vdisk_file a1 p0.files).b).length : Int) else a2))) rfl rfl rfl k
   ·intro K _ f w u k
    show Wp K ⟨41, (upd 41 (upd 41 f 37 (si (if ((lk_vdisk_file a1 p0.files).sure) < (if (((lk_vdisk_file a1 p0.files).b).length : Int) < a2 then (((lk_vdisk_file a1 p0.files).b).length : Int) else a2) then ((lk_vdisk_file a1 p0.files).sure) else (if (((lk_vdisk_file a1 p0.files).b).length : Int) < a2 then (((lk_vdisk_file a1 p0.files).b).length : Int) else a2)))) 33 (D.one (C.p false (.sl (sub ((lk_vdisk_file a1 p0.files).b) 0 (if (((lk_vdisk_file a1 p0.files).b).length : Int) < a2 then (((lk_vdisk_file a1 p0.files).b).length : Int) else a2)).length ((sub ((lk_vdisk_file a1 p0.files).b) 0 (if (((lk_vdisk_file a1 p0.files).b).length : Int) < a2 then (((lk_vdisk_file a1 p0.files).b).length : Int) else a2)).flatMap e_u8))))), [_, _, _, _]⟩
    refine s_build (ps := [(0, (D.one (C.p false (.sl (sub ((lk_vdisk_file a1 p0.files).b) 0 (if (((lk_vdisk_file a1 p0.files).b).length : Int) < a2 then (((lk_vdisk_file a1 p0.files).b).length : Int) else a2)).length ((sub ((lk_vdisk_file a1 p0.files).b) 0 (if (((lk_vdisk_file a1 p0.files).b).length : Int) < a2 then (((lk_vdisk_file a1 p0.files).b).length : Int) else a2)).flatMap e_u8))))), (1, (si (if ((lk_vdisk_file a1 p0.files).sure) < (if (((lk_vdisk_file a1 p0.files).b).length : Int) < a2 then (((lk_vdisk_file a1 p0.files).b).length : Int) else a2) then ((lk_vdisk_file a1 p0.files).sure) else (if (((lk_vdisk_file a1 p0.files).b).length : Int) < a2 then (((lk_vdisk_file a1 p0.files).b).length : Int) else a2))))]) (cs := [(C.p false (.sl (sub ((lk_vdisk_file a1 p0.files).b) 0 (if (((lk_vdisk_file a1 p0.files).b).length : Int) < a2 then (((lk_vdisk_file a1 p0.files).b).length : Int) else a2)).length ((sub ((lk_vdisk_file a1 p0.files).b) 0 (if (((lk_vdisk_file a1 p0.files).b).length : Int) < a2 then (((lk_vdisk_file a1 p0.files).b).length : Int) else a2)).flatMap e_u8))), (ci (if ((lk_vdisk_file a1 p0.files).sure) < (if (((lk_vdisk_file a1 p0.files).b).length : Int) < a2 then (((lk_vdisk_file a1 p0.files).b).length : Int) else a2) then ((lk_vdisk_file a1 p0.files).sure) else (if (((lk_vdisk_file a1 p0.files).b).length : Int) < a2 then (((lk_vdisk_file a1 p0.files).b).length : Int) else a2)))]) F.z_79 rfl F.so_79 rfl rfl k
   ·intro K _ f w u k
    show Wp K ⟨41, (upd 41 (upd 41 (upd 41 f 38 (D.agg [(C.p false (.sl (sub ((lk_vdisk_file a1 p0.files).b) 0 (if (((lk_vdisk_file a1 p0.files).b).length : Int) < a2 then (((lk_vdisk_file a1 p0.files).b).length : Int) else a2)).length ((sub ((lk_vdisk_file a1 p0.files).b) 0 (if (((lk_vdisk_file a1 p0.files).b).length : Int) < a2 then (((lk_vdisk_file a1 p0.files).b).length : Int) else a2)).flatMap e_u8))), (ci (if ((lk_vdisk_file a1 p0.files).sure) < (if (((lk_vdisk_file a1 p0.files).b).length : Int) < a2 then (((lk_vdisk_file a1 p0.files).b).length : Int) else a2) then ((lk_vdisk_file a1 p0.files).sure) else (if (((lk_vdisk_file a1 p0.files).b).length : Int) < a2 then (((lk_vdisk_file a1 p0.files).b).length : Int) else a2)))])) 28 (st_ a1)) 27 (rf 0 0)), [(o_vdisk_Disk_03 false (C.mp 1) np p0), (om_ e_vdisk_file p0.files), _, _]⟩
    refine cc [0, 1] [(o_vdisk_Disk_03 false (C.mp 1) np r4), (om_ e_vdisk_file r4.files), (w 2), (w 3)] (D.tup []) F.ca_36 rfl rfl (ac (.one (.ref rfl)) (ac (.one .sc) (ac (LendT.aggL (ac .imm (ac .sc an))) an))) (ac (.cells (ac (.mp rfl) (ac .sc (ac .sc (ac .sc (ac .sc an)))))) (ac .map an)) (vdisk_Disk_set.meets _ p0 a1 (⟨sub ((lk_vdisk_file a1 p0.files).b) 0 (if (((lk_vdisk_file a1 p0.files).b).length : Int) < a2 then (((lk_vdisk_file a1 p0.files).b).length : Int) else a2), (if ((lk_vdisk_file a1 p0.files).sure) < (if (((lk_vdisk_file a1 p0.files).b).length : Int) < a2 then (((lk_vdisk_file a1 p0.files).b).length : Int) else a2) then ((lk_vdisk_file a1 p0.files).sure) else (if (((lk_vdisk_file a1 p0.files).b).length : Int) < a2 then (((lk_vdisk_file a1 p0.files).b).length : Int) else a2))⟩ : vdisk_file) r4 er4) k
  ·refine AWops.weak (st' := ⟨41, (upd 41 topF 7 (si r1)), [(o_vdisk_Disk_03 false (C.mp 1) np r4), (om_ e_vdisk_file r4.files)]⟩) (wg 2 [0, 1] [] hx (le_upd (le_top _) (o1 .sc)) (ac (qs rfl) (ac .map an))) (AWops.nil (AW.seq (AW.region ?_)))
   refine s_move (d := (si r1)) rfl (s_assign (d := (si r1)) rfl (AWops.nil (AW.ret ?_)))
   obtain rfl := Option.some.inj h
   exact ⟨_, rfl, (wg 2 [0, 1] [] rfl (le_upd (le_top _) (o1 .sc)) (ac (qs rfl) (ac .map an)))⟩
 ·refine AW.cond_no rfl c2 (AW.skip (AW.seq (AW.region ?_)))
  refine s_move (d := (si r1)) rfl (s_assign (d := (si r1)) rfl (AWops.nil (AW.ret ?_)))
  obtain rfl := Option.some.inj h
  exact ⟨_, rfl, (wg 2 [0, 1] [] rfl (le_upd (le_top _) (o1 .sc)) (ac (qs rfl) (ac .map an)))⟩
mutual
def journal_Journal_scan.j1 : Nat → Int → Int → Bool → (List (ByteArray × vdisk_file)) → journal_Journal → (List (List Int)) → Option ((Option Unit) × Int × journal_Journal × vdisk_Disk)
 | 0, _, _, _, _, _, _ => none
 | k + 1, x11, x12, x13, x14, p0, x1 => (rd x1 0).bind fun v15 => if (decide (0 ≤ 1 ∧ 1 ≤ (x1.length : Int) ∧ (x1.length : Int) ≤ (x1.length : Int))) = true then (some (some (), 0, (⟨(), v15, sub x1 1 (x1.length : Int), p0.stopped⟩ : journal_Journal), (⟨x14, x11, x12, (), x13⟩ : vdisk_Disk))) else none
def journal_Journal_scan.l0 : Nat → (List (List Int)) → Int → journal_Journal → (List Int) → vdisk_Disk → Option ((Option Unit) × Int × journal_Journal × vdisk_Disk)
 | 0, _, _, _, _, _ => none
 | k + 1, x1, x2, p0, a1, p1 => if (decide (0 ≤ x2 ∧ x2 ≤ (a1.length : Int) ∧ (a1.length : Int) ≤ (a1.length : Int))) = true then ((journal_next.f k (sub a1 x2 (a1.length : Int))).bind fun r4 => if r4.2 = true then (if (decide (x1.length + ([r4.1] : List (List Int)).length ≤ 5864062014805)) = true then (journal_Journal_scan.l0 k (x1 ++ ([r4.1] : List (List Int))) (IntKind.i64.wrap (x2 + (IntKind.i64.wrap (8 + (r4.1.length : Int))))) p0 a1 p1) else none) else (if ((x1.length : Int) == 0) = true then (some ((none : Option Unit), 72, (⟨(), p0.snap, p0.l, p0.stopped⟩ : journal_Journal), p1)) else (if (decide (x2 < (a1.length : Int))) = true then ((vdisk_Disk_Truncate.f k p1 (⟨#[106, 111, 117, 114, 110, 97, 108]⟩ : ByteArray) x2).bind fun r9 => if (r9.1 != 0) = true then (some ((none : Option Unit), r9.1, (⟨(), p0.snap, p0.l, p0.stopped⟩ : journal_Journal), r9.2)) else (journal_Journal_scan.j1 k r9.2.room r9.2.used r9.2.dead r9.2.files p0 x1)) else (journal_Journal_scan.j1 k p1.room p1.used p1.dead p1.files p0 x1)))) else none
end
def journal_Journal_scan.f (k : Nat) (p0 : journal_Journal) (a1 : List Int) (p1 : vdisk_Disk) : Option ((Option Unit) × Int × journal_Journal × vdisk_Disk) := journal_Journal_scan.l0 k ([] : List (List Int)) 0 p0 a1 p1
theorem journal_Journal_scan.meets (k : Nat) (p0 : journal_Journal) (a1 : List Int) (p1 : vdisk_Disk) (r : (Option Unit) × Int × journal_Journal × vdisk_Disk) (h : journal_Journal_scan.f k p0 a1 p1 = some r) : Meets Try.prog 33 [(rf 0 0), (ds_ e_u8 a1)] [(o_journal_Journal_0 false (C.ref 1 0) p0), (o_vdisk_Disk_03 false (C.mp 2) np p1), (om_ e_vdisk_file p1.files)] (optE r.1 (D.tup [(sc (.pointer none)), (si r.2.1)]) (fun z1 : Unit => (D.tup [(rf 0 0), (si r.2.1)]))) (optE r.1 [(o_journal_Journal_0 false (C.ref 1 0) r.2.2.1), (o_vdisk_Disk_03 false (C.mp 2) np r.2.2.2), (om_ e_vdisk_file r.2.2.2.files)] (fun z1 : Unit => [(o_journal_Journal_0 false (C.ref 1 0) r.2.2.1), (o_vdisk_Disk_03 false (C.mp 2) np r.2.2.2), (om_ e_vdisk_file r.2.2.2.files)])) := by
 unfold journal_Journal_scan.f at h
 refine Meets.of_body (n := 57) Try.func33 rfl rfl (nl rfl) fun x hx => ?_
 replace hx : x.k = 3 := hx
 show AW _ x _ _ ⟨57, fr0 [(rf 0 0), (ds_ e_u8 a1)], [(o_journal_Journal_0 false (C.ref 1 0) p0), (o_vdisk_Disk_03 false (C.mp 2) np p1), (om_ e_vdisk_file p1.files)]⟩
 refine AW.seq (AW.region ?_)
 refine s_assign (d := (sc (.pointer none))) rfl (s_assign (d := (si 0)) rfl (AWops.nil (AW.seq (AW.region (s_assign (d := (sc (.slice none 0 0))) rfl (AWops.nil (AW.seq (AW.region (s_assign (d := (si 0)) rfl (AWops.nil (AW.seq (AW.block ?_))))))))))))
 refine AW.loopw (st0 := ⟨57, (upd 57 (upd 57 (upd 57 (upd 57 topF 0 (rf 0 0)) 1 (ds_ e_u8 a1)) 6 (D.one (C.own 3 0 ([] : List (List Int)).length 1))) 7 (si 0)), [(o_journal_Journal_0 false (C.ref 1 0) p0), (o_vdisk_Disk_03 false (C.mp 2) np p1), (om_ e_vdisk_file p1.files), (some (AObj.cells true (rowC (e_sl e_u8) ([] : List (List Int)))))]⟩) (fun kv st => kv ≤ k ∧ ∃ (x1 : List (List Int)) (x2 : Int), journal_Journal_scan.l0 kv x1 x2 p0 a1 p1 = some r ∧ st = ⟨57, (upd 57 (upd 57 (upd 57 (upd 57 topF 0 (rf 0 0)) 1 (ds_ e_u8 a1)) 6 (D.one (C.own 3 0 x1.length 1))) 7 (si x2)), [(o_journal_Journal_0 false (C.ref 1 0) p0), (o_vdisk_Disk_03 false (C.mp 2) np p1), (om_ e_vdisk_file p1.files), (some (AObj.cells true (rowC (e_sl e_u8) x1)))]⟩) (k := k) (Weak.trans (Weak.nil (sz := 1) (i := 6) rfl) (wg 3 [0, 1, 2, 3] [] hx (le_upd (le_upd (le_upd (le_upd (le_top _) (o1 (.ref rfl))) (o1 .same)) (o1 (.own rfl))) (o1 .sc)) (ac (.cells id (ac (.ref rfl) (ac .same (ac .same (ac .sc an))))) (ac (qs rfl) (ac .map (ac (.cells (fun _ => rfl) an) an)))))) ⟨Nat.le_refl _, ([] : List (List Int)), 0, h, rfl⟩ ?_
 rintro ql0 st ⟨hkl0, x1, x2, h, rfl⟩
 cases ql0 with
 | zero => exact absurd h (by simp [journal_Journal_scan.l0])
 | succ ql0 =>
  replace h := (journal_Journal_scan.l0.eq_2 _ _ _ _ _ _).symm.trans h
  refine AW.block (AW.seq (AW.region ?_))
  refine s_move (d := (ds_ e_u8 a1)) rfl (s_move (d := (si x2)) rfl ?_)
  obtain ⟨c3, h⟩ := gdH h
  have dc3 := of_decide_eq_true c3
  refine t_sliceImm (a := x2) (b := (a1.length : Int)) F.u_22 F.sz_5 e_u8_len rfl (by omega) (by omega) (by omega) (.yes rfl (by omega) rfl) .no ?_
  obtain ⟨r4, er4, h⟩ := bnd h
  refine cc [] [(o_journal_Journal_0 false (C.ref 1 0) p0), (o_vdisk_Disk_03 false (C.mp 2) np p1), (om_ e_vdisk_file p1.files), (some (AObj.cells true (rowC (e_sl e_u8) x1)))] (D.tup [(ds_ e_u8 r4.1), (sb r4.2)]) F.ca_60 rfl rfl (ac (.one .imm) an) an (journal_next.meets _ (sub a1 x2 (a1.length : Int)) r4 er4) (s_move (d := (D.tup [(ds_ e_u8 r4.1), (sb r4.2)])) rfl (s_extract (d := (ds_ e_u8 r4.1)) rfl rfl (s_extract (d := (sb r4.2)) rfl rfl (s_assign (d := (ds_ e_u8 r4.1)) rfl (s_assign (d := (sb r4.2)) rfl (AWops.nil (AW.seq (AW.seq (AW.region ?_)))))))))
  refine s_move (d := (sb r4.2)) rfl (s_not rfl (AWops.nil ?_))
  rcases itH h with ⟨c5, h⟩ | ⟨c5, h⟩
  ·refine AW.cond_no rfl (by rw [c5] <;> rfl) (AW.skip (AW.seq (AW.region ?_)))
   refine s_move (d := (D.one (C.own 3 0 x1.length 1))) rfl (s_move (d := (ds_ e_u8 r4.1)) rfl (s_buildSlice (n := 1) (ps := [(0, (ds_ e_u8 r4.1))]) (cs := rowC (e_sl e_u8) ([r4.1] : List (List Int))) F.u_25 F.sz_22 F.z_22 rfl rfl (by decide) (by decide) rfl rfl ?_))
   obtain ⟨c6, h⟩ := gdH h
   have dc6 := of_decide_eq_true c6
   refine t_append (xs := x1) (ys := ([r4.1] : List (List Int))) (zs := x1 ++ ([r4.1] : List (List Int))) (H' := [(o_journal_Journal_0 false (C.ref 1 0) p0), (o_vdisk_Disk_03 false (C.mp 2) np p1), (om_ e_vdisk_file p1.files), none, (some (AObj.cells true (rowC (e_sl e_u8) ([r4.1] : List (List Int))))), (some (AObj.cells true (rowC (e_sl e_u8) (x1 ++ ([r4.1] : List (List Int))))))]) F.u_25 F.in_22 rfl (e_sl_len _) (.own rfl rfl) (.own rfl rfl) F.u_25 (by omega) (by omega) rfl rfl (s_assign (d := (D.one (C.own 5 0 ((x1 ++ ([r4.1] : List (List Int))).length) 1))) rfl (AWops.nil (AW.region (s_move (d := (si x2)) rfl (s_move (d := (ds_ e_u8 r4.1)) rfl (s_len (n := r4.1.length) F.u_22 rfl (.inr ⟨(fun _ _ h => by cases h), ⟨_, rfl⟩⟩) (s_binI (v := (.int .i64 (IntKind.i64.wrap (8 + (r4.1.length : Int))))) rfl rfl rfl ?_)))))))
   refine s_binI (v := (.int .i64 (IntKind.i64.wrap (x2 + (IntKind.i64.wrap (8 + (r4.1.length : Int))))))) rfl rfl rfl (s_assign (d := (si (IntKind.i64.wrap (x2 + (IntKind.i64.wrap (8 + (r4.1.length : Int))))))) rfl (AWops.nil ?_))
   exact ⟨_, ⟨57, (upd 57 (upd 57 (upd 57 (upd 57 topF 0 (rf 0 0)) 1 (ds_ e_u8 a1)) 6 (D.one (C.own 3 0 (x1 ++ ([r4.1] : List (List Int))).length 1))) 7 (si (IntKind.i64.wrap (x2 + (IntKind.i64.wrap (8 + (r4.1.length : Int))))))), [(o_journal_Journal_0 false (C.ref 1 0) p0), (o_vdisk_Disk_03 false (C.mp 2) np p1), (om_ e_vdisk_file p1.files), (some (AObj.cells true (rowC (e_sl e_u8) (x1 ++ ([r4.1] : List (List Int))))))]⟩, by omega, (wg 3 [0, 1, 2, 5] [] hx (le_upd (le_upd (le_upd (le_upd (le_top _) (o1 (.ref rfl))) (o1 .same)) (o1 (.own rfl))) (o1 .sc)) (ac (.cells id (ac (.ref rfl) (ac .same (ac .same (ac .sc an))))) (ac (qs rfl) (ac .map (ac (.cells (fun _ => rfl) (all2_row _)) an))))), by omega, x1 ++ ([r4.1] : List (List Int)), IntKind.i64.wrap (x2 + (IntKind.i64.wrap (8 + (r4.1.length : Int)))), h, rfl⟩
  ·refine AW.cond_yes rfl (by rw [c5] <;> rfl) (AW.exit (AW.seq (AW.seq (AW.region ?_))))
   refine s_move (d := (D.one (C.own 3 0 x1.length 1))) rfl (s_len (n := x1.length) F.u_25 rfl (.inr ⟨(fun _ _ h => by cases h), ⟨_, rfl⟩⟩) (s_binI (v := (.bool ((x1.length : Int) == 0))) rfl rfl rfl (AWops.nil ?_)))
   rcases itH h with ⟨c7, h⟩ | ⟨c7, h⟩
   ·refine AW.cond_yes rfl c7 (AW.seq (AW.region ?_))
    refine s_assign (d := (sc (.pointer none))) rfl (s_assign (d := (si 72)) rfl (AWops.nil (AW.ret ?_)))
    obtain rfl := Option.some.inj h
    exact ⟨_, rfl, (wg 3 [0, 1, 2] [] rfl (le_upd (le_top _) (DLe.tup (ac (TLe.one .sc) (ac (TLe.one .sc) an)))) (ac (.cells id (ac (.ref rfl) (ac .same (ac .same (ac .sc an))))) (ac (qs rfl) (ac .map an))))⟩
   ·refine AW.cond_no rfl c7 (AW.skip ?_)
    refine AW.seqJ (fun st => ∃ (x11 : Int) (x12 : Int) (x13 : Bool) (x14 : List (ByteArray × vdisk_file)), journal_Journal_scan.j1 ql0 x11 x12 x13 x14 p0 x1 = some r ∧ st = ⟨57, (upd 57 (upd 57 topF 0 (rf 0 0)) 6 (D.one (C.own 3 0 x1.length 1))), [(o_journal_Journal_0 false (C.ref 1 0) p0), (some (AObj.cells false [(C.mp 2), (ci x11), (ci x12), np, (cb x13)])), (om_ e_vdisk_file x14), (some (AObj.cells true (rowC (e_sl e_u8) x1)))]⟩) ?_ ?_
    ·refine AW.seq (AW.region ?_)
     refine s_move (d := (si x2)) rfl (s_move (d := (ds_ e_u8 a1)) rfl (s_len (n := a1.length) F.u_22 rfl (.inr ⟨(fun _ _ h => by cases h), ⟨_, rfl⟩⟩) (s_binI (v := (.bool (decide (x2 < (a1.length : Int))))) rfl rfl rfl (AWops.nil ?_))))
     rcases itH h with ⟨c8, h⟩ | ⟨c8, h⟩
     ·refine AW.cond_yes rfl c8 (AW.seq (AW.region ?_))
      refine s_move (d := (rf 0 0)) rfl (s_nilCheck (d := (rf 0 0)) rfl (.inl ⟨_, _, rfl⟩) (s_fieldRef F.fo_27_0 (by decide) rfl (s_load1 (c' := (C.ref 1 0)) F.ag_24 rfl rfl (s_move (d := (si x2)) rfl ?_))))
      obtain ⟨r9, er9, h⟩ := bnd h
      refine cc [1, 2] [(o_journal_Journal_0 false (C.ref 1 0) p0), (o_vdisk_Disk_03 false (C.mp 2) np r9.2), (om_ e_vdisk_file r9.2.files), (some (AObj.cells true (rowC (e_sl e_u8) x1)))] (si r9.1) F.ca_44 rfl rfl (ac (.one (.ref rfl)) (ac (.one .sc) (ac (.one .sc) an))) (ac (.cells (ac (.mp rfl) (ac .sc (ac .sc (ac .sc (ac .sc an)))))) (ac .map an)) (vdisk_Disk_Truncate.meets _ p1 (⟨#[106, 111, 117, 114, 110, 97, 108]⟩ : ByteArray) x2 r9 er9) (s_assign (d := (si r9.1)) rfl (AWops.nil (AW.seq (AW.region (s_move (d := (si r9.1)) rfl (s_binI (v := (.bool (r9.1 != 0))) rfl rfl rfl (AWops.nil ?_)))))))
      rcases itH h with ⟨c10, h⟩ | ⟨c10, h⟩
      ·refine AW.cond_yes rfl c10 (AW.seq (AW.region ?_))
       refine s_move (d := (si r9.1)) rfl (s_assign (d := (sc (.pointer none))) rfl (s_assign (d := (si r9.1)) rfl (AWops.nil (AW.ret ?_))))
       obtain rfl := Option.some.inj h
       exact ⟨_, rfl, (wg 3 [0, 1, 2] [] rfl (le_upd (le_top _) (DLe.tup (ac (TLe.one .sc) (ac (TLe.one .sc) an)))) (ac (.cells id (ac (.ref rfl) (ac .same (ac .same (ac .sc an))))) (ac (qs rfl) (ac .map an))))⟩
      ·refine AW.cond_no rfl c10 (AW.skip ?_)
       exact ⟨⟨57, (upd 57 (upd 57 topF 0 (rf 0 0)) 6 (D.one (C.own 3 0 x1.length 1))), [(o_journal_Journal_0 false (C.ref 1 0) p0), (some (AObj.cells false [(C.mp 2), (ci r9.2.room), (ci r9.2.used), np, (cb r9.2.dead)])), (om_ e_vdisk_file r9.2.files), (some (AObj.cells true (rowC (e_sl e_u8) x1)))]⟩, (wg 3 [0, 1, 2, 3] [] hx (le_upd (le_upd (le_top _) (o1 (.ref rfl))) (o1 (.own rfl))) (ac (.cells id (ac (.ref rfl) (ac .same (ac .same (ac .sc an))))) (ac (qs rfl) (ac .map (ac (.cells (fun _ => rfl) (all2_row _)) an))))), r9.2.room, r9.2.used, r9.2.dead, r9.2.files, h, rfl⟩
     ·refine AW.cond_no rfl c8 (AW.skip ?_)
      exact ⟨⟨57, (upd 57 (upd 57 topF 0 (rf 0 0)) 6 (D.one (C.own 3 0 x1.length 1))), [(o_journal_Journal_0 false (C.ref 1 0) p0), (some (AObj.cells false [(C.mp 2), (ci p1.room), (ci p1.used), np, (cb p1.dead)])), (om_ e_vdisk_file p1.files), (some (AObj.cells true (rowC (e_sl e_u8) x1)))]⟩, (wg 3 [0, 1, 2, 3] [] hx (le_upd (le_upd (le_top _) (o1 (.ref rfl))) (o1 (.own rfl))) (ac (.cells id (ac (.ref rfl) (ac .same (ac .same (ac .sc an))))) (ac (qs rfl) (ac .map (ac (.cells (fun _ => rfl) (all2_row _)) an))))), p1.room, p1.used, p1.dead, p1.files, h, rfl⟩
    ·rintro st ⟨x11, x12, x13, x14, h, rfl⟩
     cases ql0 with
     | zero => exact absurd h (by simp [journal_Journal_scan.j1])
     | succ qj1 =>
      replace h := (journal_Journal_scan.j1.eq_2 _ _ _ _ _ _ _).symm.trans h
      refine AW.seq ?_
      refine AW.weak (st' := ⟨57, (upd 57 (upd 57 topF 0 (rf 0 0)) 6 (D.one (C.p false (.sl x1.length (x1.flatMap (e_sl e_u8)))))), [(o_journal_Journal_0 false (C.ref 1 0) p0), (some (AObj.cells false [(C.mp 2), (ci x11), (ci x12), np, (cb x13)])), (om_ e_vdisk_file x14)]⟩) (wg 3 [0, 1, 2] [3] hx (le_upd (le_upd (le_top _) (o1 (.ref rfl))) (o1 (CLe.frz (e_sl_len _) rfl rfl rfl))) (ac (.cells id (ac (.ref rfl) (ac .same (ac .same (ac .sc an))))) (ac (qs rfl) (ac .map an)))) ?_
      refine AW.weak (st' := ⟨57, (upd 57 (upd 57 topF 0 (rf 0 0)) 6 (D.one (C.p false (.sl x1.length (x1.flatMap (e_sl e_u8)))))), [(o_journal_Journal_0 false (C.ref 1 0) p0), (some (AObj.cells false [(C.mp 2), (ci x11), (ci x12), np, (cb x13)])), (om_ e_vdisk_file x14)]⟩) (wg 3 [0, 1, 2] [] hx (le_upd (le_upd (le_top _) (o1 (.ref rfl))) (o1 .same)) (ac (.cells id (ac (.ref rfl) (ac .same (ac .same (ac .sc an))))) (ac (qs rfl) (ac .map an)))) ?_
      obtain ⟨v15, ev15, h⟩ := bnd h
      obtain ⟨pv15, qv15, gv15⟩ := rd_some ev15
      obtain ⟨c16, h⟩ := gdH h
      have dc16 := of_decide_eq_true c16
      refine AW.draw (n := 57) (L := 3) [(ft 0 45 (rf 0 0) [(0, (rf 0 0))]), (ft 1 46 (rf 0 0) [(0, (rf 0 0))]), (ft 2 47 (D.one (C.p false (.sl x1.length (x1.flatMap (e_sl e_u8))))) [(6, (D.one (C.p false (.sl x1.length (x1.flatMap (e_sl e_u8))))))]), (ft 3 48 (D.one (C.peek false [P.sl v15.length (v15.flatMap e_u8)])) [(47, (D.one (C.p false (.sl x1.length (x1.flatMap (e_sl e_u8))))))]), (ft 4 49 (ds_ e_u8 v15) [(48, (D.one (C.peek false [P.sl v15.length (v15.flatMap e_u8)])))]), (ft 5 50 (D.one (C.p false (.sl x1.length (x1.flatMap (e_sl e_u8))))) [(6, (D.one (C.p false (.sl x1.length (x1.flatMap (e_sl e_u8))))))]), (ft 6 51 (D.one (C.p false (.sl (sub x1 1 (x1.length : Int)).length ((sub x1 1 (x1.length : Int)).flatMap (e_sl e_u8))))) [(50, (D.one (C.p false (.sl x1.length (x1.flatMap (e_sl e_u8))))))]), (ft 7 52 (rf 0 0) [(45, (rf 0 0))]), (ft 8 53 (rf 0 1) [(52, (rf 0 0))]), (9, ⟨none, (D.one C.top), [(49, (ds_ e_u8 v15)), (53, (rf 0 1))], [(0, (o_journal_Journal_0 false (C.ref 1 0) p0))], [(0, (some (AObj.cells false [(C.ref 1 0), (cl_ e_u8 v15), (C.p false (.sl p0.l.length (p0.l.flatMap (e_sl e_u8)))), (cb p0.stopped)])))], none⟩), (ft 10 54 (rf 0 0) [(46, (rf 0 0))]), (ft 11 55 (rf 0 2) [(54, (rf 0 0))]), (12, ⟨none, (D.one C.top), [(51, (D.one (C.p false (.sl (sub x1 1 (x1.length : Int)).length ((sub x1 1 (x1.length : Int)).flatMap (e_sl e_u8)))))), (55, (rf 0 2))], [(0, (some (AObj.cells false [(C.ref 1 0), (cl_ e_u8 v15), (C.p false (.sl p0.l.length (p0.l.flatMap (e_sl e_u8)))), (cb p0.stopped)])))], [(0, (some (AObj.cells false [(C.ref 1 0), (cl_ e_u8 v15), (C.p false (.sl (sub x1 1 (x1.length : Int)).length ((sub x1 1 (x1.length : Int)).flatMap (e_sl e_u8)))), (cb p0.stopped)])))], none⟩)] [[], [], [], [2], [2, 3], [], [5], [0, 2, 3, 4], [0, 2, 3, 4, 7], [0, 2, 3, 4, 7, 8], (.range 10), (.range 11), (.range 12)] (nl rfl) [0, 6, 0, 1, 2, 0, 1, 3, 4, 5, 7, 8, 9] rfl (TK := []) rfl AllK.nil' (by repeat (first | refine fC ⟨?_, ?_⟩ ?_ | refine sC rfl ?_ | refine hC rfl ?_ | trivial)) ?_ ?_
      ·refine y8 ?_ ?_ ?_ ?_ ?_ ?_ ?_ ?_ (y4 ?_ ?_ ?_ ?_ (pC ?_ yN))
       ·intro K _ f w u k
        show Wp K ⟨57, (upd 57 f 0 (rf 0 0)), _⟩
        refine s_move (d := (rf 0 0)) rfl k
       ·intro K _ f w u k
        show Wp K ⟨57, (upd 57 f 0 (rf 0 0)), _⟩
        refine s_move (d := (rf 0 0)) rfl k
       ·intro K _ f w u k
        show Wp K ⟨57, (upd 57 f 6 (D.one (C.p false (.sl x1.length (x1.flatMap (e_sl e_u8)))))), _⟩
        refine s_move (d := (D.one (C.p false (.sl x1.length (x1.flatMap (e_sl e_u8)))))) rfl k
       ·intro K _ f w u k
        show Wp K ⟨57, (upd 57 f 47 (D.one (C.p false (.sl x1.length (x1.flatMap (e_sl e_u8)))))), [_, _, _]⟩
        refine s_indexImm (ps := [P.sl v15.length (v15.flatMap e_u8)]) F.u_25 F.sz_22 rfl rfl pv15 qv15 (flat_at (e_sl_len _) gv15 (e_sl_eq _ v15)) k
       ·intro K _ f w u k
        show Wp K ⟨57, (upd 57 f 48 (D.one (C.peek false [P.sl v15.length (v15.flatMap e_u8)]))), [_, _, _]⟩
        refine s_load1 (c' := (cl_ e_u8 v15)) F.ag_22 rfl rfl k
       ·intro K _ f w u k
        show Wp K ⟨57, (upd 57 f 6 (D.one (C.p false (.sl x1.length (x1.flatMap (e_sl e_u8)))))), _⟩
        refine s_move (d := (D.one (C.p false (.sl x1.length (x1.flatMap (e_sl e_u8)))))) rfl k
       ·intro K _ f w u k
        show Wp K ⟨57, (upd 57 f 50 (D.one (C.p false (.sl x1.length (x1.flatMap (e_sl e_u8)))))), [_, _, _]⟩
        refine t_sliceImm (a := 1) (b := (x1.length : Int)) F.u_25 F.sz_22 (e_sl_len _) rfl (by omega) (by omega) (by omega) (.yes rfl (by omega) rfl) .no k
       ·intro K _ f w u k
        show Wp K ⟨57, (upd 57 f 45 (rf 0 0)), [_, _, _]⟩
        refine s_nilCheck (d := (rf 0 0)) rfl (.inl ⟨_, _, rfl⟩) k
       ·intro K _ f w u k
        show Wp K ⟨57, (upd 57 f 52 (rf 0 0)), [_, _, _]⟩
        refine s_fieldRef F.fo_27_1 (by decide) rfl k
       ·intro K _ f w u k
        show Wp K ⟨57, (upd 57 (upd 57 f 53 (rf 0 1)) 49 (ds_ e_u8 v15)), [(o_journal_Journal_0 false (C.ref 1 0) p0), _, _]⟩
        refine s_store (cs' := [(C.ref 1 0), (cl_ e_u8 v15), (C.p false (.sl p0.l.length (p0.l.flatMap (e_sl e_u8)))), (cb p0.stopped)]) rfl rfl rfl (List.cons_ne_nil _ _) rfl F.sz_22 (nl rfl) rfl k
       ·intro K _ f w u k
        show Wp K ⟨57, (upd 57 f 46 (rf 0 0)), [_, _, _]⟩
        refine s_nilCheck (d := (rf 0 0)) rfl (.inl ⟨_, _, rfl⟩) k
       ·intro K _ f w u k
        show Wp K ⟨57, (upd 57 f 54 (rf 0 0)), [_, _, _]⟩
        refine s_fieldRef F.fo_27_2 (by decide) rfl k
       ·intro K _ f w u k
        show Wp K ⟨57, (upd 57 (upd 57 f 55 (rf 0 2)) 51 (D.one (C.p false (.sl (sub x1 1 (x1.length : Int)).length ((sub x1 1 (x1.length : Int)).flatMap (e_sl e_u8)))))), [(some (AObj.cells false [(C.ref 1 0), (cl_ e_u8 v15), (C.p false (.sl p0.l.length (p0.l.flatMap (e_sl e_u8)))), (cb p0.stopped)])), _, _]⟩
        refine s_store (cs' := [(C.ref 1 0), (cl_ e_u8 v15), (C.p false (.sl (sub x1 1 (x1.length : Int)).length ((sub x1 1 (x1.length : Int)).flatMap (e_sl e_u8)))), (cb p0.stopped)]) rfl rfl rfl (List.cons_ne_nil _ _) rfl F.sz_25 (nl rfl) rfl k
      ·refine AWops.weak (st' := ⟨57, (upd 57 topF 0 (rf 0 0)), [(some (AObj.cells false [(C.ref 1 0), (cl_ e_u8 v15), (C.p false (.sl (sub x1 1 (x1.length : Int)).length ((sub x1 1 (x1.length : Int)).flatMap (e_sl e_u8)))), (cb p0.stopped)])), (some (AObj.cells false [(C.mp 2), (ci x11), (ci x12), np, (cb x13)])), (om_ e_vdisk_file x14)]⟩) (wg 3 [0, 1, 2] [] hx (le_upd (le_top _) (o1 (.ref rfl))) (ac (.cells id (ac (.ref rfl) (ac .same (ac .same (ac .sc an))))) (ac (qs rfl) (ac .map an)))) (AWops.nil (AW.seq (AW.region ?_)))
       refine s_move (d := (rf 0 0)) rfl (s_assign (d := (rf 0 0)) rfl (s_assign (d := (si 0)) rfl (AWops.nil (AW.ret ?_))))
       obtain rfl := Option.some.inj h
       exact ⟨_, rfl, (wg 3 [0, 1, 2] [] rfl (le_upd (le_top _) (DLe.tup (ac (TLe.one (.ref rfl)) (ac (TLe.one .sc) an)))) (ac (.cells id (ac (.ref rfl) (ac .same (ac .same (ac .sc an))))) (ac (qs rfl) (ac .map an))))⟩
def vdisk_Disk_Sync.f (k : Nat) (p0 : vdisk_Disk) (a1 : ByteArray) : Option (Int × vdisk_Disk) := (vdisk_Disk_change.f k p0 true a1 false 0).bind fun r1 => if (r1 == 0) = true then ((vdisk_Disk_set.f k p0 a1 (⟨(lk_vdisk_file a1 p0.files).b, (((lk_vdisk_file a1 p0.files).b).length : Int)⟩ : vdisk_file)).bind fun r3 => some (r1, r3)) else (some (r1, p0))
theorem vdisk_Disk_Sync.meets (k : Nat) (p0 : vdisk_Disk) (a1 : ByteArray) (r : Int × vdisk_Disk) (h : vdisk_Disk_Sync.f k p0 a1 = some r) : Meets Try.prog 27 [(rf 0 0), (st_ a1)] [(o_vdisk_Disk_03 false (C.mp 1) np p0), (om_ e_vdisk_file p0.files)] (si r.1) [(o_vdisk_Disk_03 false (C.mp 1) np r.2), (om_ e_vdisk_file r.2.files)] := by
 unfold vdisk_Disk_Sync.f at h
 refine Meets.of_body (n := 27) Try.func27 rfl rfl (nl rfl) fun x hx => ?_
 replace hx : x.k = 2 := hx
 show AW _ x _ _ ⟨27, fr0 [(rf 0 0), (st_ a1)], [(o_vdisk_Disk_03 false (C.mp 1) np p0), (om_ e_vdisk_file p0.files)]⟩
 refine AW.seq (AW.region ?_)
 refine s_assign (d := (si 0)) rfl (AWops.nil (AW.seq (AW.region ?_)))
 refine s_move (d := (rf 0 0)) rfl (s_move (d := (st_ a1)) rfl ?_)
 obtain ⟨r1, er1, h⟩ := bnd h
 refine cc [0, 1] [(o_vdisk_Disk_03 false (C.mp 1) np p0), (om_ e_vdisk_file p0.files)] (si r1) F.ca_55 rfl rfl (ac (.one (.ref rfl)) (ac (.one .sc) (ac (.one .sc) (ac (.one .sc) (ac (.one .sc) an))))) (ac (.cells (ac (.mp rfl) (ac .sc (ac .sc (ac .sc (ac .sc an)))))) (ac .map an)) (vdisk_Disk_change.meets _ p0 true a1 false 0 r1 er1) (s_assign (d := (si r1)) rfl (AWops.nil (AW.seq (AW.seq (AW.region (s_move (d := (si r1)) rfl (s_binI (v := (.bool (r1 == 0))) rfl rfl rfl (AWops.nil ?_))))))))
 rcases itH h with ⟨c2, h⟩ | ⟨c2, h⟩
 ·refine AW.cond_yes rfl c2 (AW.seq (AW.region ?_))
  refine s_move (d := (rf 0 0)) rfl (s_nilCheck (d := (rf 0 0)) rfl (.inl ⟨_, _, rfl⟩) (s_fieldRef F.fo_37_0 (by decide) rfl (s_load1 (c' := (C.mp 1)) F.ag_34 rfl rfl (s_move (d := (st_ a1)) rfl (t_lookup (b := true) F.u_34 F.u_9 F.z_79 (z := ((⟨([] : List Int), 0⟩ : vdisk_file) : vdisk_file)) (zs := [(.slice none 0 0), (.int .i64 0)]) rfl (fun h => by cases h) (ac ZRel.n (ac (ZRel.v _ rfl) an)) rfl rfl rfl rfl ?_)))))
  refine s_field1 (c := (C.p false (.sl ((lk_vdisk_file a1 p0.files).b).length (((lk_vdisk_file a1 p0.files).b).flatMap e_u8)))) F.fo_79_0 rfl rfl (s_assign (d := (D.one (C.p false (.sl ((lk_vdisk_file a1 p0.files).b).length (((lk_vdisk_file a1 p0.files).b).flatMap e_u8))))) rfl (AWops.nil (AW.region (s_move (d := (rf 0 0)) rfl (s_move (d := (st_ a1)) rfl (s_move (d := (D.one (C.p false (.sl ((lk_vdisk_file a1 p0.files).b).length (((lk_vdisk_file a1 p0.files).b).flatMap e_u8))))) rfl (s_move (d := (D.one (C.p false (.sl ((lk_vdisk_file a1 p0.files).b).length (((lk_vdisk_file a1 p0.files).b).flatMap e_u8))))) rfl ?_)))))))
  refine s_len (n := ((lk_vdisk_file a1 p0.files).b).length) F.u_22 rfl (.inr ⟨(fun _ _ h => by cases h), ⟨_, rfl⟩⟩) (s_build (ps := [(0, (D.one (C.p false (.sl ((lk_vdisk_file a1 p0.files).b).length (((lk_vdisk_file a1 p0.files).b).flatMap e_u8))))), (1, (si (((lk_vdisk_file a1 p0.files).b).length : Int)))]) (cs := [(C.p false (.sl ((lk_vdisk_file a1 p0.files).b).length (((lk_vdisk_file a1 p0.files).b).flatMap e_u8))), (ci (((lk_vdisk_file a1 p0.files).b).length : Int))]) F.z_79 rfl F.so_79 rfl rfl ?_)
  obtain ⟨r3, er3, h⟩ := bnd h
  refine cc [0, 1] [(o_vdisk_Disk_03 false (C.mp 1) np r3), (om_ e_vdisk_file r3.files)] (D.tup []) F.ca_36 rfl rfl (ac (.one (.ref rfl)) (ac (.one .sc) (ac (LendT.aggL (ac .imm (ac .sc an))) an))) (ac (.cells (ac (.mp rfl) (ac .sc (ac .sc (ac .sc (ac .sc an)))))) (ac .map an)) (vdisk_Disk_set.meets _ p0 a1 (⟨(lk_vdisk_file a1 p0.files).b, (((lk_vdisk_file a1 p0.files).b).length : Int)⟩ : vdisk_file) r3 er3) (AWops.nil (AW.seq (AW.region ?_)))
  refine s_move (d := (si r1)) rfl (s_assign (d := (si r1)) rfl (AWops.nil (AW.ret ?_)))
  obtain rfl := Option.some.inj h
  exact ⟨_, rfl, (wg 2 [0, 1] [] rfl (le_upd (le_top _) (o1 .sc)) (ac (qs rfl) (ac .map an)))⟩
 ·refine AW.cond_no rfl c2 (AW.skip (AW.seq (AW.region ?_)))
  refine s_move (d := (si r1)) rfl (s_assign (d := (si r1)) rfl (AWops.nil (AW.ret ?_)))
  obtain rfl := Option.some.inj h
  exact ⟨_, rfl, (wg 2 [0, 1] [] rfl (le_upd (le_top _) (o1 .sc)) (ac (qs rfl) (ac .map an)))⟩
end Go.Abs.GenO
