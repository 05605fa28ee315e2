import Derived.Test.YtiegaebmhpdnmaaGenRda
set_option linter.unusedVariables false
set_option linter.unusedSimpArgs false
set_option maxRecDepth 100000
set_option maxHeartbeats 4000000
namespace Go.Abs.GenRd
open Go.Abs Go.Proofs
mutual
def dossierref03_Disk_Append_38.j0 : Nat → dossierref03_File → (List Int) → (Int × dossierref03_Disk) → Option (Int × dossierref03_Disk)
 | 0, _, _, _ => none
 | k + 1, x13, a2, r7 => if (decide (([] : List Int).length + x13.B.length ≤ 140737488355328)) = true then (if (decide (x13.B.length + a2.length ≤ 140737488355328)) = true then ((dossierref03_Disk_set_58.f k r7.2 (⟨x13.Name, x13.B ++ a2, x13.Sure⟩ : dossierref03_File)).bind fun r16 => some (0, r16)) else none) else none
def dossierref03_Disk_Append_38.j1 : Nat → dossierref03_File → (List Int) → (Int × dossierref03_Disk) → Option (Int × dossierref03_Disk)
 | 0, _, _, _ => none
 | k + 1, x23, a2, r17 => if (decide (([] : List Int).length + x23.B.length ≤ 140737488355328)) = true then (if (decide (x23.B.length + a2.length ≤ 140737488355328)) = true then ((dossierref03_Disk_set_58.f k r17.2 (⟨x23.Name, x23.B ++ a2, x23.Sure⟩ : dossierref03_File)).bind fun r26 => some (0, r26)) else none) else none
end
def dossierref03_Disk_Append_38.f (k : Nat) (p0 : dossierref03_Disk) (a1 : ByteArray) (a2 : List Int) : Option (Int × dossierref03_Disk) := (dossierref03_named.f k a1).bind fun r1 => if r1 = true then (if p0.Off = true then (some (70, p0)) else (if (decide ((a2.length : Int) > 0)) = true then ((dossierref03_Disk_Used.f k p0).bind fun r5 => if (decide ((a2.length : Int) > (IntKind.i64.wrap (p0.Most - r5)))) = true then (some (71, p0)) else ((dossierref03_Disk_burn.f k p0).bind fun r7 => if (r7.1 != 0) = true then (some (r7.1, r7.2)) else ((dossierref03_Disk_place.f k r7.2 a1).bind fun r9 => if r9.2 = true then ((rd r7.2.L r9.1).bind fun v11 => dossierref03_Disk_Append_38.j0 k v11 a2 r7) else (dossierref03_Disk_Append_38.j0 k (⟨a1, ([] : List Int), 0⟩ : dossierref03_File) a2 r7)))) else ((dossierref03_Disk_burn.f k p0).bind fun r17 => if (r17.1 != 0) = true then (some (r17.1, r17.2)) else ((dossierref03_Disk_place.f k r17.2 a1).bind fun r19 => if r19.2 = true then ((rd r17.2.L r19.1).bind fun v21 => dossierref03_Disk_Append_38.j1 k v21 a2 r17) else (dossierref03_Disk_Append_38.j1 k (⟨a1, ([] : List Int), 0⟩ : dossierref03_File) a2 r17))))) else (some (1, p0))
theorem dossierref03_Disk_Append_38.meets (k : Nat) (p0 : dossierref03_Disk) (a1 : ByteArray) (a2 : List Int) (r : Int × dossierref03_Disk) (h : dossierref03_Disk_Append_38.f k p0 a1 a2 = some r) : Meets Try.prog 38 [(rf 0 0), (st_ a1), (D.one (C.p false (.sl a2.length (a2.flatMap e_u8))))] [(o_dossierref03_Disk_0 false (C.own 1 0 p0.L.length 3) p0), (or_ e_dossierref03_File p0.L)] (si r.1) [(o_dossierref03_Disk_0 false (C.own 2 0 r.2.L.length 3) r.2), none, (or_ e_dossierref03_File r.2.L)] := by
 unfold dossierref03_Disk_Append_38.f at h
 refine Meets.of_body (n := 64) Try.func38 rfl rfl (nl rfl) fun x hx => ?_
 replace hx : x.k = 2 := hx
 show AW _ x _ _ ⟨64, fr0 [(rf 0 0), (st_ a1), (D.one (C.p false (.sl a2.length (a2.flatMap e_u8))))], [(o_dossierref03_Disk_0 false (C.own 1 0 p0.L.length 3) p0), (or_ e_dossierref03_File p0.L)]⟩
 refine AW.weak (st' := ⟨64, (upd 64 (upd 64 (upd 64 topF 0 (rf 0 0)) 1 (st_ a1)) 2 (D.one (C.p false (.sl a2.length (a2.flatMap e_u8))))), [(o_dossierref03_Disk_0 false (C.own 2 0 p0.L.length 3) p0), none, (or_ e_dossierref03_File p0.L)]⟩) (Weak.genL (kk := 2) [0, 1, 1] [] hx rfl (by decide) rfl rfl rfl rfl (le_upd (le_upd (le_upd (le_top _) (o1 (.ref rfl))) (o1 .sc)) (o1 .same)) (ac (qo rfl) (ac (.none _) (ac (.cells id (all2_row _)) an)))) (AW.seq (AW.region ?_))
 refine s_assign (d := (si 0)) rfl (AWops.nil (AW.seq (AW.seq (AW.region ?_))))
 refine s_move (d := (st_ a1)) rfl ?_
 obtain ⟨r1, er1, h⟩ := bnd h
 refine cc [] [(o_dossierref03_Disk_0 false (C.own 2 0 p0.L.length 3) p0), none, (or_ e_dossierref03_File p0.L)] (sb r1) F.ca_55 rfl rfl (ac (.one .sc) an) an (dossierref03_named.meets _ a1 r1 er1) (s_not rfl (AWops.nil ?_))
 rcases itH h with ⟨c2, h⟩ | ⟨c2, h⟩
 ·refine AW.cond_no rfl (by rw [c2] <;> rfl) (AW.skip (AW.seq (AW.seq (AW.region ?_))))
  refine s_move (d := (rf 0 0)) rfl (s_nilCheck (d := (rf 0 0)) rfl (.inl ⟨_, _, rfl⟩) (s_fieldRef F.fo_72_3 (by decide) rfl (s_load1 (c' := (cb p0.Off)) F.ag_4 rfl rfl (AWops.nil ?_))))
  rcases itH h with ⟨c3, h⟩ | ⟨c3, h⟩
  ·refine AW.cond_yes rfl c3 (AW.seq (AW.region ?_))
   refine s_assign (d := (si 70)) rfl (AWops.nil (AW.ret ?_))
   obtain rfl := Option.some.inj h
   exact ⟨_, rfl, (wg 2 [0, 1, 2] [] rfl (le_upd (le_top _) (o1 .sc)) (ac (qo rfl) (ac (.none _) (ac (.cells id (all2_row _)) an))))⟩
  ·refine AW.cond_no rfl c3 (AW.skip (AW.seq (AW.seq ?_)))
   refine AW.weak (st' := ⟨64, (upd 64 (upd 64 (upd 64 topF 0 (rf 0 0)) 1 (st_ a1)) 2 (D.one (C.p false (.sl a2.length (a2.flatMap e_u8))))), [(o_dossierref03_Disk_0 false (C.own 2 0 p0.L.length 3) p0), none, (or_ e_dossierref03_File p0.L)]⟩) (wg 2 [0, 1, 2] [] hx (le_upd (le_upd (le_upd (le_top _) (o1 (.ref rfl))) (o1 .sc)) (o1 .same)) (ac (qo rfl) (ac (.none _) (ac (.cells id (all2_row _)) an)))) ?_
   rcases itH h with ⟨c4, h⟩ | ⟨c4, h⟩
   ·obtain ⟨r5, er5, h⟩ := bnd h
    refine AW.draw (n := 64) (L := 4) [(ft 0 18 (D.one (C.p false (.sl a2.length (a2.flatMap e_u8)))) [(2, (D.one (C.p false (.sl a2.length (a2.flatMap e_u8)))))]), (ft 1 19 (si (a2.length : Int)) [(18, (D.one (C.p false (.sl a2.length (a2.flatMap e_u8)))))]), (ft 2 20 (sb (decide ((a2.length : Int) > 0))) [(19, (si (a2.length : Int)))]), (ft 3 21 (sb (decide ((a2.length : Int) > 0))) [(20, (sb (decide ((a2.length : Int) > 0))))]), (ft 4 22 (D.one (C.p false (.sl a2.length (a2.flatMap e_u8)))) [(2, (D.one (C.p false (.sl a2.length (a2.flatMap e_u8))))), (21, (sb (decide ((a2.length : Int) > 0))))]), (ft 5 23 (si (a2.length : Int)) [(21, (sb (decide ((a2.length : Int) > 0)))), (22, (D.one (C.p false (.sl a2.length (a2.flatMap e_u8)))))]), (ft 6 24 (rf 0 0) [(0, (rf 0 0)), (21, (sb (decide ((a2.length : Int) > 0))))]), (ft 7 25 (rf 0 0) [(21, (sb (decide ((a2.length : Int) > 0)))), (24, (rf 0 0))]), (ft 8 26 (rf 0 1) [(21, (sb (decide ((a2.length : Int) > 0)))), (25, (rf 0 0))]), (9, ⟨some 27, (si p0.Most), [(21, (sb (decide ((a2.length : Int) > 0)))), (26, (rf 0 1))], [(0, (o_dossierref03_Disk_0 false (C.own 2 0 p0.L.length 3) p0))], [], none⟩), (ft 10 28 (rf 0 0) [(0, (rf 0 0)), (21, (sb (decide ((a2.length : Int) > 0))))]), (11, ⟨some 29, (si r5), [(21, (sb (decide ((a2.length : Int) > 0)))), (28, (rf 0 0))], [(0, (o_dossierref03_Disk_0 false (C.own 2 0 p0.L.length 3) p0)), (2, (or_ e_dossierref03_File p0.L))], [], none⟩), (ft 12 30 (si (IntKind.i64.wrap (p0.Most - r5))) [(21, (sb (decide ((a2.length : Int) > 0)))), (27, (si p0.Most)), (29, (si r5))]), (ft 13 31 (sb (decide ((a2.length : Int) > (IntKind.i64.wrap (p0.Most - r5))))) [(21, (sb (decide ((a2.length : Int) > 0)))), (23, (si (a2.length : Int))), (30, (si (IntKind.i64.wrap (p0.Most - r5))))]), (ft 14 32 (sb (decide ((a2.length : Int) > (IntKind.i64.wrap (p0.Most - r5))))) [(21, (sb (decide ((a2.length : Int) > 0)))), (31, (sb (decide ((a2.length : Int) > (IntKind.i64.wrap (p0.Most - r5))))))])] [[], [0], [0, 1], [0, 1, 2], [0, 1, 2, 3], (.range 5), [0, 1, 2, 3], [0, 1, 2, 3, 6], [0, 1, 2, 3, 6, 7], [0, 1, 2, 3, 6, 7, 8], [0, 1, 2, 3], [0, 1, 2, 3, 10], [0, 1, 2, 3, 6, 7, 8, 9, 10, 11], (.range 13), (.range 14)] (nl rfl) [0, 1, 2, 3, 4, 5, 4, 5, 6, 7, 4, 5, 8, 9, 10] rfl (TK := []) rfl AllK.nil' (by repeat (first | refine fC ⟨?_, ?_⟩ ?_ | refine sC rfl ?_ | refine hC rfl ?_ | trivial)) ?_ ?_
    ·refine y8 ?_ ?_ ?_ ?_ ?_ ?_ ?_ ?_ (y4 ?_ ?_ ?_ ?_ (y2 ?_ ?_ (pC ?_ yN)))
     ·intro K _ f w u k
      show Wp K ⟨64, (upd 64 f 2 (D.one (C.p false (.sl a2.length (a2.flatMap e_u8))))), _⟩
      refine s_move (d := (D.one (C.p false (.sl a2.length (a2.flatMap e_u8))))) rfl k
     ·intro K _ f w u k
      show Wp K ⟨64, (upd 64 f 18 (D.one (C.p false (.sl a2.length (a2.flatMap e_u8))))), [_, _, _, _]⟩
      refine s_len (n := a2.length) F.u_22 rfl (.inr ⟨(fun _ _ h => by cases h), ⟨_, rfl⟩⟩) k
     ·intro K _ f w u k
      show Wp K ⟨64, (upd 64 f 19 (si (a2.length : Int))), _⟩
      refine s_binI (v := (.bool (decide ((a2.length : Int) > 0)))) rfl rfl rfl k
     ·intro K _ f w u k
      show Wp K ⟨64, (upd 64 f 20 (sb (decide ((a2.length : Int) > 0)))), _⟩
      refine s_move (d := (sb (decide ((a2.length : Int) > 0)))) rfl k
     ·intro K _ f w u k
      show Wp K ⟨64, (upd 64 (upd 64 f 21 (sb (decide ((a2.length : Int) > 0)))) 2 (D.one (C.p false (.sl a2.length (a2.flatMap e_u8))))), _⟩
      refine AWops.guard_yes rfl (nl rfl) rfl c4 ?_
      refine s_move (d := (D.one (C.p false (.sl a2.length (a2.flatMap e_u8))))) rfl k
     ·intro K _ f w u k
      show Wp K ⟨64, (upd 64 (upd 64 f 22 (D.one (C.p false (.sl a2.length (a2.flatMap e_u8))))) 21 (sb (decide ((a2.length : Int) > 0)))), [_, _, _, _]⟩
      refine AWops.guard_yes rfl (nl rfl) rfl c4 ?_
      refine s_len (n := a2.length) F.u_22 rfl (.inr ⟨(fun _ _ h => by cases h), ⟨_, rfl⟩⟩) k
     ·intro K _ f w u k
      show Wp K ⟨64, (upd 64 (upd 64 f 21 (sb (decide ((a2.length : Int) > 0)))) 0 (rf 0 0)), _⟩
      refine AWops.guard_yes rfl (nl rfl) rfl c4 ?_
      refine s_move (d := (rf 0 0)) rfl k
     ·intro K _ f w u k
      show Wp K ⟨64, (upd 64 (upd 64 f 24 (rf 0 0)) 21 (sb (decide ((a2.length : Int) > 0)))), [_, _, _, _]⟩
      refine AWops.guard_yes rfl (nl rfl) rfl c4 ?_
      refine s_nilCheck (d := (rf 0 0)) rfl (.inl ⟨_, _, rfl⟩) k
     ·intro K _ f w u k
      show Wp K ⟨64, (upd 64 (upd 64 f 25 (rf 0 0)) 21 (sb (decide ((a2.length : Int) > 0)))), [_, _, _, _]⟩
      refine AWops.guard_yes rfl (nl rfl) rfl c4 ?_
      refine s_fieldRef F.fo_72_1 (by decide) rfl k
     ·intro K _ f w u k
      show Wp K ⟨64, (upd 64 (upd 64 f 26 (rf 0 1)) 21 (sb (decide ((a2.length : Int) > 0)))), [(o_dossierref03_Disk_0 false (C.own 2 0 p0.L.length 3) p0), _, _, _]⟩
      refine AWops.guard_yes rfl (nl rfl) rfl c4 ?_
      refine s_load1 (c' := (ci p0.Most)) F.ag_3 rfl rfl k
     ·intro K _ f w u k
      show Wp K ⟨64, (upd 64 (upd 64 f 21 (sb (decide ((a2.length : Int) > 0)))) 0 (rf 0 0)), _⟩
      refine AWops.guard_yes rfl (nl rfl) rfl c4 ?_
      refine s_move (d := (rf 0 0)) rfl k
     ·intro K _ f w u k
      show Wp K ⟨64, (upd 64 (upd 64 f 28 (rf 0 0)) 21 (sb (decide ((a2.length : Int) > 0)))), [(o_dossierref03_Disk_0 false (C.own 2 0 p0.L.length 3) p0), _, (or_ e_dossierref03_File p0.L), _]⟩
      refine AWops.guard_yes rfl (nl rfl) rfl c4 ?_
      refine cc [0, 2] [(o_dossierref03_Disk_0 false (C.own 2 0 p0.L.length 3) p0), (w 1), (or_ e_dossierref03_File p0.L), (w 3)] (si r5) F.ca_52 rfl rfl (ac (.one (.ref rfl)) an) (ac (.cells (ac (.own rfl) (ac .sc (ac .sc (ac .sc an))))) (ac (.cells (lend_row _)) an)) (dossierref03_Disk_Used.meets _ p0 r5 er5) k
     ·intro K _ f w u k
      show Wp K ⟨64, (upd 64 (upd 64 (upd 64 f 29 (si r5)) 27 (si p0.Most)) 21 (sb (decide ((a2.length : Int) > 0)))), _⟩
      refine AWops.guard_yes rfl (nl rfl) rfl c4 ?_
      refine s_binI (v := (.int .i64 (IntKind.i64.wrap (p0.Most - r5)))) rfl rfl rfl k
     ·intro K _ f w u k
      show Wp K ⟨64, (upd 64 (upd 64 (upd 64 f 30 (si (IntKind.i64.wrap (p0.Most - r5)))) 23 (si (a2.length : Int))) 21 (sb (decide ((a2.length : Int) > 0)))), _⟩
      refine AWops.guard_yes rfl (nl rfl) rfl c4 ?_
      refine s_binI (v := (.bool (decide ((a2.length : Int) > (IntKind.i64.wrap (p0.Most - r5)))))) rfl rfl rfl k
     ·intro K _ f w u k
      show Wp K ⟨64, (upd 64 (upd 64 f 31 (sb (decide ((a2.length : Int) > (IntKind.i64.wrap (p0.Most - r5)))))) 21 (sb (decide ((a2.length : Int) > 0)))), _⟩
      refine s_pick_yes (d := (sb (decide ((a2.length : Int) > (IntKind.i64.wrap (p0.Most - r5)))))) rfl c4 rfl k
    ·refine AWops.weak (st' := ⟨64, (upd 64 (upd 64 (upd 64 (upd 64 topF 0 (rf 0 0)) 1 (st_ a1)) 2 (D.one (C.p false (.sl a2.length (a2.flatMap e_u8))))) 32 (sb (decide ((a2.length : Int) > (IntKind.i64.wrap (p0.Most - r5)))))), [(o_dossierref03_Disk_0 false (C.own 2 0 p0.L.length 3) p0), none, (or_ e_dossierref03_File p0.L)]⟩) (wg 2 [0, 1, 2] [] hx (le_upd (le_upd (le_upd (le_upd (le_top _) (o1 (.ref rfl))) (o1 .sc)) (o1 .same)) (o1 .sc)) (ac (qo rfl) (ac (.none _) (ac (.cells id (all2_row _)) an)))) (AWops.nil ?_)
     rcases itH h with ⟨c6, h⟩ | ⟨c6, h⟩
     ·refine AW.cond_yes rfl c6 (AW.seq (AW.region ?_))
      refine s_assign (d := (si 71)) rfl (AWops.nil (AW.ret ?_))
      obtain rfl := Option.some.inj h
      exact ⟨_, rfl, (wg 2 [0, 1, 2] [] rfl (le_upd (le_top _) (o1 .sc)) (ac (qo rfl) (ac (.none _) (ac (.cells id (all2_row _)) an))))⟩
     ·refine AW.cond_no rfl c6 (AW.skip (AW.seq (AW.seq (AW.region ?_))))
      refine s_move (d := (rf 0 0)) rfl ?_
      obtain ⟨r7, er7, h⟩ := bnd h
      refine cc [0, 2] [(o_dossierref03_Disk_0 false (C.own 2 0 r7.2.L.length 3) r7.2), none, (or_ e_dossierref03_File r7.2.L)] (si r7.1) F.ca_56 rfl rfl (ac (.one (.ref rfl)) an) (ac (.cells (ac (.own rfl) (ac .sc (ac .sc (ac .sc an))))) (ac (.cells (lend_row _)) an)) (dossierref03_Disk_burn.meets _ p0 r7 er7) (s_assign (d := (si r7.1)) rfl (AWops.nil (AW.seq (AW.region (s_move (d := (si r7.1)) rfl (s_binI (v := (.bool (r7.1 != 0))) rfl rfl rfl (AWops.nil ?_)))))))
      rcases itH h with ⟨c8, h⟩ | ⟨c8, h⟩
      ·refine AW.cond_yes rfl c8 (AW.seq (AW.region ?_))
       refine s_move (d := (si r7.1)) rfl (s_assign (d := (si r7.1)) rfl (AWops.nil (AW.ret ?_)))
       obtain rfl := Option.some.inj h
       exact ⟨_, rfl, (wg 2 [0, 1, 2] [] rfl (le_upd (le_top _) (o1 .sc)) (ac (qo rfl) (ac (.none _) (ac (.cells id (all2_row _)) an))))⟩
      ·refine AW.cond_no rfl c8 (AW.skip (AW.seq (AW.region ?_)))
       refine s_move (d := (st_ a1)) rfl (s_build (ps := [(0, (st_ a1))]) (cs := [(ct a1), (C.p true (.v (.slice none 0 0))), (ci 0)]) F.z_82 rfl F.so_82 rfl rfl (s_alloc (cs := [(ct (⟨#[]⟩ : ByteArray)), (C.p true (.v (.slice none 0 0))), (ci 0)]) F.z_82 rfl rfl (s_store (cs' := [(ct a1), (C.p true (.v (.slice none 0 0))), (ci 0)]) rfl rfl rfl (List.cons_ne_nil _ _) rfl F.sz_82 (nl rfl) rfl (AWops.nil ?_))))
       refine AW.seqJ (fun st => ∃ (x13 : dossierref03_File), dossierref03_Disk_Append_38.j0 k x13 a2 r7 = some r ∧ st = ⟨64, (upd 64 (upd 64 (upd 64 topF 0 (rf 0 0)) 2 (D.one (C.p false (.sl a2.length (a2.flatMap e_u8))))) 8 (rf 2 0)), [(o_dossierref03_Disk_0 false (C.own 3 0 r7.2.L.length 3) r7.2), none, (some (AObj.cells true (c_dossierref03_File x13))), (or_ e_dossierref03_File r7.2.L)]⟩) ?_ ?_
       ·refine AW.seq (AW.region ?_)
        refine s_move (d := (rf 0 0)) rfl (s_move (d := (st_ a1)) rfl ?_)
        obtain ⟨r9, er9, h⟩ := bnd h
        refine cc [0, 2] [(o_dossierref03_Disk_0 false (C.own 2 0 r7.2.L.length 3) r7.2), none, (or_ e_dossierref03_File r7.2.L), (some (AObj.cells true [(ct a1), (C.p true (.v (.slice none 0 0))), (ci 0)]))] (D.tup [(si r9.1), (sb r9.2)]) F.ca_57 rfl rfl (ac (.one (.ref rfl)) (ac (.one .sc) an)) (ac (.cells (ac (.own rfl) (ac .sc (ac .sc (ac .sc an))))) (ac (.cells (lend_row _)) an)) (dossierref03_Disk_place.meets _ r7.2 a1 r9 er9) (s_move (d := (D.tup [(si r9.1), (sb r9.2)])) rfl (s_extract (d := (si r9.1)) rfl rfl (s_extract (d := (sb r9.2)) rfl rfl (s_assign (d := (si r9.1)) rfl (s_assign (d := (sb r9.2)) rfl (AWops.nil (AW.seq (AW.region ?_))))))))
        refine s_move (d := (sb r9.2)) rfl (AWops.nil ?_)
        rcases itH h with ⟨c10, h⟩ | ⟨c10, h⟩
        ·refine AW.cond_yes rfl c10 (AW.region ?_)
         refine s_move (d := (rf 0 0)) rfl (s_nilCheck (d := (rf 0 0)) rfl (.inl ⟨_, _, rfl⟩) (s_fieldRef F.fo_72_0 (by decide) rfl (s_load1 (c' := (C.own 2 0 r7.2.L.length 3)) F.ag_70 rfl rfl (s_move (d := (si r9.1)) rfl ?_))))
         obtain ⟨v11, ev11, h⟩ := bnd h
         obtain ⟨pv11, qv11, gv11⟩ := rd_some ev11
         refine s_indexOwn (d := (D.one (C.ref 2 (0 + r9.1.toNat * 3)))) F.u_70 F.sz_82 rfl rfl pv11 qv11 rfl ?_
         obtain ⟨R12, hR12⟩ := row_at (f := e_dossierref03_File) (sz := 3) (o := 0) e_dossierref03_File_len gv11 (e_dossierref03_File_eq v11) (by decide)
         refine s_loadN (ds := (c_dossierref03_File v11)) F.ag_82 F.sz_82 (congrArg some hR12) rfl rfl (s_store (cs' := (c_dossierref03_File v11)) rfl rfl rfl (List.cons_ne_nil _ _) rfl F.sz_82 (nl rfl) rfl (AWops.nil ?_))
         exact ⟨⟨64, (upd 64 (upd 64 (upd 64 topF 0 (rf 0 0)) 2 (D.one (C.p false (.sl a2.length (a2.flatMap e_u8))))) 8 (rf 2 0)), [(o_dossierref03_Disk_0 false (C.own 3 0 r7.2.L.length 3) r7.2), none, (some (AObj.cells true (c_dossierref03_File v11))), (or_ e_dossierref03_File r7.2.L)]⟩, (wg 2 [0, 1, 3, 2] [] hx (le_upd (le_upd (le_upd (le_top _) (o1 (.ref rfl))) (o1 .same)) (o1 (.ref rfl))) (ac (qo rfl) (ac (.none _) (ac (.cells (fun _ => rfl) (ac .sc (ac .same (ac .sc an)))) (ac (.cells id (all2_row _)) an))))), v11, h, rfl⟩
        ·refine AW.cond_no rfl c10 (AW.skip ?_)
         exact ⟨⟨64, (upd 64 (upd 64 (upd 64 topF 0 (rf 0 0)) 2 (D.one (C.p false (.sl a2.length (a2.flatMap e_u8))))) 8 (rf 2 0)), [(o_dossierref03_Disk_0 false (C.own 3 0 r7.2.L.length 3) r7.2), none, (some (AObj.cells true (c_dossierref03_File (⟨a1, ([] : List Int), 0⟩ : dossierref03_File)))), (or_ e_dossierref03_File r7.2.L)]⟩, (wg 2 [0, 1, 3, 2] [] hx (le_upd (le_upd (le_upd (le_top _) (o1 (.ref rfl))) (o1 .same)) (o1 (.ref rfl))) (ac (qo rfl) (ac (.none _) (ac (.cells (fun _ => rfl) (ac .sc (ac .nil (ac .sc an)))) (ac (.cells id (all2_row _)) an))))), (⟨a1, ([] : List Int), 0⟩ : dossierref03_File), h, rfl⟩
       ·rintro st ⟨x13, h, rfl⟩
        cases k with
        | zero => exact absurd h (by simp [dossierref03_Disk_Append_38.j0])
        | succ qj0 =>
         replace h := (dossierref03_Disk_Append_38.j0.eq_2 _ _ _ _).symm.trans h
         refine AW.seq (AW.region ?_)
         refine s_buildSlice (n := 0) (ps := []) (cs := rowC e_u8 ([] : List Int)) F.u_22 F.sz_5 F.z_5 rfl rfl (by decide) (by decide) rfl rfl (s_fieldRef F.fo_82_1 (by decide) rfl (s_load1 (c' := (C.p false (.sl x13.B.length (x13.B.flatMap e_u8)))) F.ag_22 rfl rfl ?_))
         obtain ⟨c14, h⟩ := gdH h
         have dc14 := of_decide_eq_true c14
         refine t_append (xs := ([] : List Int)) (ys := x13.B) (zs := x13.B) (H' := [(o_dossierref03_Disk_0 false (C.own 3 0 r7.2.L.length 3) r7.2), none, (some (AObj.cells true (c_dossierref03_File x13))), (or_ e_dossierref03_File r7.2.L), none, (ow_ e_u8 x13.B)]) F.u_22 F.in_5 rfl e_u8_len (.own rfl rfl) .imm F.u_22 (by omega) (by omega) rfl rfl (s_move (d := (D.one (C.p false (.sl a2.length (a2.flatMap e_u8))))) rfl ?_)
         obtain ⟨c15, h⟩ := gdH h
         have dc15 := of_decide_eq_true c15
         refine t_append (xs := x13.B) (ys := a2) (zs := x13.B ++ a2) (H' := [(o_dossierref03_Disk_0 false (C.own 3 0 r7.2.L.length 3) r7.2), none, (some (AObj.cells true (c_dossierref03_File x13))), (or_ e_dossierref03_File r7.2.L), none, none, (some (AObj.cells true (rowC e_u8 (x13.B ++ a2))))]) F.u_22 F.in_5 rfl e_u8_len (.own rfl rfl) .imm F.u_22 (by omega) (by omega) rfl rfl (s_fieldRef F.fo_82_1 (by decide) rfl (s_store (cs' := [(ct x13.Name), (C.own 6 0 ((x13.B ++ a2).length) 1), (ci x13.Sure)]) rfl rfl rfl (List.cons_ne_nil _ _) rfl F.sz_22 (nl rfl) rfl (AWops.nil (AW.seq (AW.region (s_move (d := (rf 0 0)) rfl (s_loadN (ds := [(ct x13.Name), (C.own 6 0 ((x13.B ++ a2).length) 1), (ci x13.Sure)]) F.ag_82 F.sz_82 rfl rfl rfl ?_)))))))
         obtain ⟨r16, er16, h⟩ := bnd h
         refine AWops.weak (st' := ⟨64, (upd 64 (upd 64 (upd 64 (upd 64 (upd 64 (upd 64 (upd 64 (upd 64 (upd 64 (upd 64 topF 0 (rf 0 0)) 2 (D.one (C.p false (.sl a2.length (a2.flatMap e_u8))))) 8 (rf 2 0)) 55 (rf 2 1)) 56 (D.one (C.p false (.sl x13.B.length (x13.B.flatMap e_u8))))) 58 (D.one (C.p false (.sl a2.length (a2.flatMap e_u8))))) 59 (D.one (C.p false (.sl (x13.B ++ a2).length ((x13.B ++ a2).flatMap e_u8))))) 60 (rf 2 1)) 61 (rf 0 0)) 62 (D.agg [(ct x13.Name), (C.p false (.sl (x13.B ++ a2).length ((x13.B ++ a2).flatMap e_u8))), (ci x13.Sure)])), [(o_dossierref03_Disk_0 false (C.own 3 0 r7.2.L.length 3) r7.2), none, (some (AObj.cells true [(ct x13.Name), (C.p false (.sl (x13.B ++ a2).length ((x13.B ++ a2).flatMap e_u8))), (ci x13.Sure)])), (or_ e_dossierref03_File r7.2.L)]⟩) (wg 2 [0, 1, 2, 3] [6] hx (le_upd (le_upd (le_upd (le_upd (le_upd (le_upd (le_upd (le_upd (le_upd (le_upd (le_top _) (o1 (.ref rfl))) (o1 .same)) (o1 (.ref rfl))) (o1 (.ref rfl))) (o1 .same)) (o1 .same)) (o1 (CLe.frz e_u8_len rfl rfl rfl))) (o1 (.ref rfl))) (o1 (.ref rfl))) (.t (.agg (ac .sc (ac (CLe.frz e_u8_len rfl rfl rfl) (ac .sc an)))))) (ac (qo rfl) (ac (.none _) (ac (.cells (fun _ => rfl) (ac .sc (ac (CLe.frz e_u8_len rfl rfl rfl) (ac .sc an)))) (ac (.cells id (all2_row _)) an))))) ?_
         refine cc [0, 3] [(o_dossierref03_Disk_0 false (C.own 4 0 r16.L.length 3) r16), none, (some (AObj.cells true [(ct x13.Name), (C.p false (.sl (x13.B ++ a2).length ((x13.B ++ a2).flatMap e_u8))), (ci x13.Sure)])), none, (or_ e_dossierref03_File r16.L)] (D.tup []) F.ca_58 rfl rfl (ac (.one (.ref rfl)) (ac (LendT.aggL (ac .sc (ac .imm (ac .sc an)))) an)) (ac (.cells (ac (.own rfl) (ac .sc (ac .sc (ac .sc an))))) (ac (.cells (lend_row _)) an)) (dossierref03_Disk_set_58.meets _ r7.2 (⟨x13.Name, x13.B ++ a2, x13.Sure⟩ : dossierref03_File) r16 er16) (AWops.nil (AW.seq (AW.region ?_)))
         refine s_assign (d := (si 0)) rfl (AWops.nil (AW.ret ?_))
         obtain rfl := Option.some.inj h
         exact ⟨_, rfl, (wg 2 [0, 1, 4] [] rfl (le_upd (le_top _) (o1 .sc)) (ac (qo rfl) (ac (.none _) (ac (.cells id (all2_row _)) an))))⟩
   ·refine AW.draw (n := 64) (L := 4) [(ft 0 18 (D.one (C.p false (.sl a2.length (a2.flatMap e_u8)))) [(2, (D.one (C.p false (.sl a2.length (a2.flatMap e_u8)))))]), (ft 1 19 (si (a2.length : Int)) [(18, (D.one (C.p false (.sl a2.length (a2.flatMap e_u8)))))]), (ft 2 20 (sb (decide ((a2.length : Int) > 0))) [(19, (si (a2.length : Int)))]), (ft 3 21 (sb (decide ((a2.length : Int) > 0))) [(20, (sb (decide ((a2.length : Int) > 0))))]), (ft 4 22 (D.tup []) [(2, (D.one (C.p false (.sl a2.length (a2.flatMap e_u8))))), (21, (sb (decide ((a2.length : Int) > 0))))]), (ft 5 23 (D.tup []) [(21, (sb (decide ((a2.length : Int) > 0))))]), (ft 6 24 (D.tup []) [(21, (sb (decide ((a2.length : Int) > 0))))]), (ft 7 25 (D.tup []) [(21, (sb (decide ((a2.length : Int) > 0))))]), (ft 8 26 (D.tup []) [(21, (sb (decide ((a2.length : Int) > 0))))]), (ft 9 27 (D.tup []) [(21, (sb (decide ((a2.length : Int) > 0))))]), (ft 10 28 (D.tup []) [(21, (sb (decide ((a2.length : Int) > 0))))]), (ft 11 29 (D.tup []) [(21, (sb (decide ((a2.length : Int) > 0))))]), (ft 12 30 (D.tup []) [(21, (sb (decide ((a2.length : Int) > 0))))]), (ft 13 31 (D.tup []) [(21, (sb (decide ((a2.length : Int) > 0))))]), (ft 14 32 (sb false) [(21, (sb (decide ((a2.length : Int) > 0))))])] [[], [0], [0, 1], [0, 1, 2], [0, 1, 2, 3], (.range 5), [0, 1, 2, 3], [0, 1, 2, 3, 6], [0, 1, 2, 3, 6, 7], [0, 1, 2, 3, 6, 7, 8], [0, 1, 2, 3], [0, 1, 2, 3, 10], [0, 1, 2, 3, 6, 7, 8, 9, 10, 11], (.range 13), (.range 14)] (nl rfl) [0, 1, 2, 3, 4, 5, 4, 5, 6, 7, 4, 5, 8, 9, 10] rfl (TK := []) rfl AllK.nil' (by repeat (first | refine fC ⟨?_, ?_⟩ ?_ | refine sC rfl ?_ | refine hC rfl ?_ | trivial)) ?_ ?_
    ·refine y8 ?_ ?_ ?_ ?_ ?_ ?_ ?_ ?_ (y4 ?_ ?_ ?_ ?_ (y2 ?_ ?_ (pC ?_ yN)))
     ·intro K _ f w u k
      show Wp K ⟨64, (upd 64 f 2 (D.one (C.p false (.sl a2.length (a2.flatMap e_u8))))), _⟩
      refine s_move (d := (D.one (C.p false (.sl a2.length (a2.flatMap e_u8))))) rfl k
     ·intro K _ f w u k
      show Wp K ⟨64, (upd 64 f 18 (D.one (C.p false (.sl a2.length (a2.flatMap e_u8))))), [_, _, _, _]⟩
      refine s_len (n := a2.length) F.u_22 rfl (.inr ⟨(fun _ _ h => by cases h), ⟨_, rfl⟩⟩) k
     ·intro K _ f w u k
      show Wp K ⟨64, (upd 64 f 19 (si (a2.length : Int))), _⟩
      refine s_binI (v := (.bool (decide ((a2.length : Int) > 0)))) rfl rfl rfl k
     ·intro K _ f w u k
      show Wp K ⟨64, (upd 64 f 20 (sb (decide ((a2.length : Int) > 0)))), _⟩
      refine s_move (d := (sb (decide ((a2.length : Int) > 0)))) rfl k
     ·intro K _ f w u k
      show Wp K ⟨64, (upd 64 (upd 64 f 21 (sb (decide ((a2.length : Int) > 0)))) 2 (D.one (C.p false (.sl a2.length (a2.flatMap e_u8))))), _⟩
      refine AWops.guard_no rfl (nl rfl) rfl c4 k
     ·intro K _ f w u k
      show Wp K ⟨64, (upd 64 f 21 (sb (decide ((a2.length : Int) > 0)))), _⟩
      refine AWops.guard_no rfl (nl rfl) rfl c4 k
     ·intro K _ f w u k
      show Wp K ⟨64, (upd 64 f 21 (sb (decide ((a2.length : Int) > 0)))), _⟩
      refine AWops.guard_no rfl (nl rfl) rfl c4 k
     ·intro K _ f w u k
      show Wp K ⟨64, (upd 64 f 21 (sb (decide ((a2.length : Int) > 0)))), _⟩
      refine AWops.guard_no rfl (nl rfl) rfl c4 k
     ·intro K _ f w u k
      show Wp K ⟨64, (upd 64 f 21 (sb (decide ((a2.length : Int) > 0)))), _⟩
      refine AWops.guard_no rfl (nl rfl) rfl c4 k
     ·intro K _ f w u k
      show Wp K ⟨64, (upd 64 f 21 (sb (decide ((a2.length : Int) > 0)))), _⟩
      refine AWops.guard_no rfl (nl rfl) rfl c4 k
     ·intro K _ f w u k
      show Wp K ⟨64, (upd 64 f 21 (sb (decide ((a2.length : Int) > 0)))), _⟩
      refine AWops.guard_no rfl (nl rfl) rfl c4 k
     ·intro K _ f w u k
      show Wp K ⟨64, (upd 64 f 21 (sb (decide ((a2.length : Int) > 0)))), _⟩
      refine AWops.guard_no rfl (nl rfl) rfl c4 k
     ·intro K _ f w u k
      show Wp K ⟨64, (upd 64 f 21 (sb (decide ((a2.length : Int) > 0)))), _⟩
      refine AWops.guard_no rfl (nl rfl) rfl c4 k
     ·intro K _ f w u k
      show Wp K ⟨64, (upd 64 f 21 (sb (decide ((a2.length : Int) > 0)))), _⟩
      refine AWops.guard_no rfl (nl rfl) rfl c4 k
     ·intro K _ f w u k
      show Wp K ⟨64, (upd 64 f 21 (sb (decide ((a2.length : Int) > 0)))), _⟩
      refine s_pick_no (d := (sb false)) rfl c4 rfl k
    ·refine AWops.weak (st' := ⟨64, (upd 64 (upd 64 (upd 64 (upd 64 topF 0 (rf 0 0)) 1 (st_ a1)) 2 (D.one (C.p false (.sl a2.length (a2.flatMap e_u8))))) 32 (sb false)), [(o_dossierref03_Disk_0 false (C.own 2 0 p0.L.length 3) p0), none, (or_ e_dossierref03_File p0.L)]⟩) (wg 2 [0, 1, 2] [] hx (le_upd (le_upd (le_upd (le_upd (le_top _) (o1 (.ref rfl))) (o1 .sc)) (o1 .same)) (o1 .sc)) (ac (qo rfl) (ac (.none _) (ac (.cells id (all2_row _)) an)))) (AWops.nil ?_)
     refine AW.cond_no rfl rfl (AW.skip (AW.seq (AW.seq (AW.region ?_))))
     refine s_move (d := (rf 0 0)) rfl ?_
     obtain ⟨r17, er17, h⟩ := bnd h
     refine cc [0, 2] [(o_dossierref03_Disk_0 false (C.own 2 0 r17.2.L.length 3) r17.2), none, (or_ e_dossierref03_File r17.2.L)] (si r17.1) F.ca_56 rfl rfl (ac (.one (.ref rfl)) an) (ac (.cells (ac (.own rfl) (ac .sc (ac .sc (ac .sc an))))) (ac (.cells (lend_row _)) an)) (dossierref03_Disk_burn.meets _ p0 r17 er17) (s_assign (d := (si r17.1)) rfl (AWops.nil (AW.seq (AW.region (s_move (d := (si r17.1)) rfl (s_binI (v := (.bool (r17.1 != 0))) rfl rfl rfl (AWops.nil ?_)))))))
     rcases itH h with ⟨c18, h⟩ | ⟨c18, h⟩
     ·refine AW.cond_yes rfl c18 (AW.seq (AW.region ?_))
      refine s_move (d := (si r17.1)) rfl (s_assign (d := (si r17.1)) rfl (AWops.nil (AW.ret ?_)))
      obtain rfl := Option.some.inj h
      exact ⟨_, rfl, (wg 2 [0, 1, 2] [] rfl (le_upd (le_top _) (o1 .sc)) (ac (qo rfl) (ac (.none _) (ac (.cells id (all2_row _)) an))))⟩
     ·refine AW.cond_no rfl c18 (AW.skip (AW.seq (AW.region ?_)))
      refine s_move (d := (st_ a1)) rfl (s_build (ps := [(0, (st_ a1))]) (cs := [(ct a1), (C.p true (.v (.slice none 0 0))), (ci 0)]) F.z_82 rfl F.so_82 rfl rfl (s_alloc (cs := [(ct (⟨#[]⟩ : ByteArray)), (C.p true (.v (.slice none 0 0))), (ci 0)]) F.z_82 rfl rfl (s_store (cs' := [(ct a1), (C.p true (.v (.slice none 0 0))), (ci 0)]) rfl rfl rfl (List.cons_ne_nil _ _) rfl F.sz_82 (nl rfl) rfl (AWops.nil ?_))))
      refine AW.seqJ (fun st => ∃ (x23 : dossierref03_File), dossierref03_Disk_Append_38.j1 k x23 a2 r17 = some r ∧ st = ⟨64, (upd 64 (upd 64 (upd 64 topF 0 (rf 0 0)) 2 (D.one (C.p false (.sl a2.length (a2.flatMap e_u8))))) 8 (rf 2 0)), [(o_dossierref03_Disk_0 false (C.own 3 0 r17.2.L.length 3) r17.2), none, (some (AObj.cells true (c_dossierref03_File x23))), (or_ e_dossierref03_File r17.2.L)]⟩) ?_ ?_
      ·refine AW.seq (AW.region ?_)
       refine s_move (d := (rf 0 0)) rfl (s_move (d := (st_ a1)) rfl ?_)
       obtain ⟨r19, er19, h⟩ := bnd h
       refine cc [0, 2] [(o_dossierref03_Disk_0 false (C.own 2 0 r17.2.L.length 3) r17.2), none, (or_ e_dossierref03_File r17.2.L), (some (AObj.cells true [(ct a1), (C.p true (.v (.slice none 0 0))), (ci 0)]))] (D.tup [(si r19.1), (sb r19.2)]) F.ca_57 rfl rfl (ac (.one (.ref rfl)) (ac (.one .sc) an)) (ac (.cells (ac (.own rfl) (ac .sc (ac .sc (ac .sc an))))) (ac (.cells (lend_row _)) an)) (dossierref03_Disk_place.meets _ r17.2 a1 r19 er19) (s_move (d := (D.tup [(si r19.1), (sb r19.2)])) rfl (s_extract (d := (si r19.1)) rfl rfl (s_extract (d := (sb r19.2)) rfl rfl (s_assign (d := (si r19.1)) rfl (s_assign (d := (sb r19.2)) rfl (AWops.nil (AW.seq (AW.region ?_))))))))
       refine s_move (d := (sb r19.2)) rfl (AWops.nil ?_)
       rcases itH h with ⟨c20, h⟩ | ⟨c20, h⟩
       ·refine AW.cond_yes rfl c20 (AW.region ?_)
        refine s_move (d := (rf 0 0)) rfl (s_nilCheck (d := (rf 0 0)) rfl (.inl ⟨_, _, rfl⟩) (s_fieldRef F.fo_72_0 (by decide) rfl (s_load1 (c' := (C.own 2 0 r17.2.L.length 3)) F.ag_70 rfl rfl (s_move (d := (si r19.1)) rfl ?_))))
        obtain ⟨v21, ev21, h⟩ := bnd h
        obtain ⟨pv21, qv21, gv21⟩ := rd_some ev21
        refine s_indexOwn (d := (D.one (C.ref 2 (0 + r19.1.toNat * 3)))) F.u_70 F.sz_82 rfl rfl pv21 qv21 rfl ?_
        obtain ⟨R22, hR22⟩ := row_at (f := e_dossierref03_File) (sz := 3) (o := 0) e_dossierref03_File_len gv21 (e_dossierref03_File_eq v21) (by decide)
        refine s_loadN (ds := (c_dossierref03_File v21)) F.ag_82 F.sz_82 (congrArg some hR22) rfl rfl (s_store (cs' := (c_dossierref03_File v21)) rfl rfl rfl (List.cons_ne_nil _ _) rfl F.sz_82 (nl rfl) rfl (AWops.nil ?_))
        exact ⟨⟨64, (upd 64 (upd 64 (upd 64 topF 0 (rf 0 0)) 2 (D.one (C.p false (.sl a2.length (a2.flatMap e_u8))))) 8 (rf 2 0)), [(o_dossierref03_Disk_0 false (C.own 3 0 r17.2.L.length 3) r17.2), none, (some (AObj.cells true (c_dossierref03_File v21))), (or_ e_dossierref03_File r17.2.L)]⟩, (wg 2 [0, 1, 3, 2] [] hx (le_upd (le_upd (le_upd (le_top _) (o1 (.ref rfl))) (o1 .same)) (o1 (.ref rfl))) (ac (qo rfl) (ac (.none _) (ac (.cells (fun _ => rfl) (ac .sc (ac .same (ac .sc an)))) (ac (.cells id (all2_row _)) an))))), v21, h, rfl⟩
       ·refine AW.cond_no rfl c20 (AW.skip ?_)
        exact ⟨⟨64, (upd 64 (upd 64 (upd 64 topF 0 (rf 0 0)) 2 (D.one (C.p false (.sl a2.length (a2.flatMap e_u8))))) 8 (rf 2 0)), [(o_dossierref03_Disk_0 false (C.own 3 0 r17.2.L.length 3) r17.2), none, (some (AObj.cells true (c_dossierref03_File (⟨a1, ([] : List Int), 0⟩ : dossierref03_File)))), (or_ e_dossierref03_File r17.2.L)]⟩, (wg 2 [0, 1, 3, 2] [] hx (le_upd (le_upd (le_upd (le_top _) (o1 (.ref rfl))) (o1 .same)) (o1 (.ref rfl))) (ac (qo rfl) (ac (.none _) (ac (.cells (fun _ => rfl) (ac .sc (ac .nil (ac .sc an)))) (ac (.cells id (all2_row _)) an))))), (⟨a1, ([] : List Int), 0⟩ : dossierref03_File), h, rfl⟩
      ·rintro st ⟨x23, h, rfl⟩
       cases k with
       | zero => exact absurd h (by simp [dossierref03_Disk_Append_38.j1])
       | succ qj1 =>
        replace h := (dossierref03_Disk_Append_38.j1.eq_2 _ _ _ _).symm.trans h
        refine AW.seq (AW.region ?_)
        refine s_buildSlice (n := 0) (ps := []) (cs := rowC e_u8 ([] : List Int)) F.u_22 F.sz_5 F.z_5 rfl rfl (by decide) (by decide) rfl rfl (s_fieldRef F.fo_82_1 (by decide) rfl (s_load1 (c' := (C.p false (.sl x23.B.length (x23.B.flatMap e_u8)))) F.ag_22 rfl rfl ?_))
        obtain ⟨c24, h⟩ := gdH h
        have dc24 := of_decide_eq_true c24
        refine t_append (xs := ([] : List Int)) (ys := x23.B) (zs := x23.B) (H' := [(o_dossierref03_Disk_0 false (C.own 3 0 r17.2.L.length 3) r17.2), none, (some (AObj.cells true (c_dossierref03_File x23))), (or_ e_dossierref03_File r17.2.L), none, (ow_ e_u8 x23.B)]) F.u_22 F.in_5 rfl e_u8_len (.own rfl rfl) .imm F.u_22 (by omega) (by omega) rfl rfl (s_move (d := (D.one (C.p false (.sl a2.length (a2.flatMap e_u8))))) rfl ?_)
        obtain ⟨c25, h⟩ := gdH h
        have dc25 := of_decide_eq_true c25
        refine t_append (xs := x23.B) (ys := a2) (zs := x23.B ++ a2) (H' := [(o_dossierref03_Disk_0 false (C.own 3 0 r17.2.L.length 3) r17.2), none, (some (AObj.cells true (c_dossierref03_File x23))), (or_ e_dossierref03_File r17.2.L), none, none, (some (AObj.cells true (rowC e_u8 (x23.B ++ a2))))]) F.u_22 F.in_5 rfl e_u8_len (.own rfl rfl) .imm F.u_22 (by omega) (by omega) rfl rfl (s_fieldRef F.fo_82_1 (by decide) rfl (s_store (cs' := [(ct x23.Name), (C.own 6 0 ((x23.B ++ a2).length) 1), (ci x23.Sure)]) rfl rfl rfl (List.cons_ne_nil _ _) rfl F.sz_22 (nl rfl) rfl (AWops.nil (AW.seq (AW.region (s_move (d := (rf 0 0)) rfl (s_loadN (ds := [(ct x23.Name), (C.own 6 0 ((x23.B ++ a2).length) 1), (ci x23.Sure)]) F.ag_82 F.sz_82 rfl rfl rfl ?_)))))))
        obtain ⟨r26, er26, h⟩ := bnd h
        refine AWops.weak (st' := ⟨64, (upd 64 (upd 64 (upd 64 (upd 64 (upd 64 (upd 64 (upd 64 (upd 64 (upd 64 (upd 64 topF 0 (rf 0 0)) 2 (D.one (C.p false (.sl a2.length (a2.flatMap e_u8))))) 8 (rf 2 0)) 55 (rf 2 1)) 56 (D.one (C.p false (.sl x23.B.length (x23.B.flatMap e_u8))))) 58 (D.one (C.p false (.sl a2.length (a2.flatMap e_u8))))) 59 (D.one (C.p false (.sl (x23.B ++ a2).length ((x23.B ++ a2).flatMap e_u8))))) 60 (rf 2 1)) 61 (rf 0 0)) 62 (D.agg [(ct x23.Name), (C.p false (.sl (x23.B ++ a2).length ((x23.B ++ a2).flatMap e_u8))), (ci x23.Sure)])), [(o_dossierref03_Disk_0 false (C.own 3 0 r17.2.L.length 3) r17.2), none, (some (AObj.cells true [(ct x23.Name), (C.p false (.sl (x23.B ++ a2).length ((x23.B ++ a2).flatMap e_u8))), (ci x23.Sure)])), (or_ e_dossierref03_File r17.2.L)]⟩) (wg 2 [0, 1, 2, 3] [6] hx (le_upd (le_upd (le_upd (le_upd (le_upd (le_upd (le_upd (le_upd (le_upd (le_upd (le_top _) (o1 (.ref rfl))) (o1 .same)) (o1 (.ref rfl))) (o1 (.ref rfl))) (o1 .same)) (o1 .same)) (o1 (CLe.frz e_u8_len rfl rfl rfl))) (o1 (.ref rfl))) (o1 (.ref rfl))) (.t (.agg (ac .sc (ac (CLe.frz e_u8_len rfl rfl rfl) (ac .sc an)))))) (ac (qo rfl) (ac (.none _) (ac (.cells (fun _ => rfl) (ac .sc (ac (CLe.frz e_u8_len rfl rfl rfl) (ac .sc an)))) (ac (.cells id (all2_row _)) an))))) ?_
        refine cc [0, 3] [(o_dossierref03_Disk_0 false (C.own 4 0 r26.L.length 3) r26), none, (some (AObj.cells true [(ct x23.Name), (C.p false (.sl (x23.B ++ a2).length ((x23.B ++ a2).flatMap e_u8))), (ci x23.Sure)])), none, (or_ e_dossierref03_File r26.L)] (D.tup []) F.ca_58 rfl rfl (ac (.one (.ref rfl)) (ac (LendT.aggL (ac .sc (ac .imm (ac .sc an)))) an)) (ac (.cells (ac (.own rfl) (ac .sc (ac .sc (ac .sc an))))) (ac (.cells (lend_row _)) an)) (dossierref03_Disk_set_58.meets _ r17.2 (⟨x23.Name, x23.B ++ a2, x23.Sure⟩ : dossierref03_File) r26 er26) (AWops.nil (AW.seq (AW.region ?_)))
        refine s_assign (d := (si 0)) rfl (AWops.nil (AW.ret ?_))
        obtain rfl := Option.some.inj h
        exact ⟨_, rfl, (wg 2 [0, 1, 4] [] rfl (le_upd (le_top _) (o1 .sc)) (ac (qo rfl) (ac (.none _) (ac (.cells id (all2_row _)) an))))⟩
 ·refine AW.cond_yes rfl (by rw [c2] <;> rfl) (AW.seq (AW.region ?_))
  refine s_assign (d := (si 1)) rfl (AWops.nil (AW.ret ?_))
  obtain rfl := Option.some.inj h
  exact ⟨_, rfl, (wg 2 [0, 1, 2] [] rfl (le_upd (le_top _) (o1 .sc)) (ac (qo rfl) (ac (.none _) (ac (.cells id (all2_row _)) an))))⟩
def vdisk_Disk_Sync.f (k : Nat) (p0 : vdisk_Disk) (a1 : ByteArray) : Option (Int × vdisk_Disk) := (vdisk_Disk_change.f k p0 true a1 false 0).bind fun r1 => if (r1 == 0) = true then ((vdisk_Disk_set.f k p0 a1 (⟨(lk_vdisk_file a1 p0.files).b, (((lk_vdisk_file a1 p0.files).b).length : Int)⟩ : vdisk_file)).bind fun r3 => some (r1, r3)) else (some (r1, p0))
theorem vdisk_Disk_Sync.meets (k : Nat) (p0 : vdisk_Disk) (a1 : ByteArray) (r : Int × vdisk_Disk) (h : vdisk_Disk_Sync.f k p0 a1 = some r) : Meets Try.prog 10 [(rf 0 0), (st_ a1)] [(o_vdisk_Disk_03 false (C.mp 1) (C.p true (.v (.pointer none))) p0), (om_ e_vdisk_file p0.files)] (si r.1) [(o_vdisk_Disk_03 false (C.mp 1) (C.p true (.v (.pointer none))) r.2), (om_ e_vdisk_file r.2.files)] := by
 unfold vdisk_Disk_Sync.f at h
 refine Meets.of_body (n := 27) Try.func10 rfl rfl (nl rfl) fun x hx => ?_
 replace hx : x.k = 2 := hx
 show AW _ x _ _ ⟨27, fr0 [(rf 0 0), (st_ a1)], [(o_vdisk_Disk_03 false (C.mp 1) (C.p true (.v (.pointer none))) p0), (om_ e_vdisk_file p0.files)]⟩
 refine AW.seq (AW.region ?_)
 refine s_assign (d := (si 0)) rfl (AWops.nil (AW.seq (AW.region ?_)))
 refine s_move (d := (rf 0 0)) rfl (s_move (d := (st_ a1)) rfl ?_)
 obtain ⟨r1, er1, h⟩ := bnd h
 refine cc [0, 1] [(o_vdisk_Disk_03 false (C.mp 1) (C.p true (.v (.pointer none))) p0), (om_ e_vdisk_file p0.files)] (si r1) F.ca_31 rfl rfl (ac (.one (.ref rfl)) (ac (.one .sc) (ac (.one .sc) (ac (.one .sc) (ac (.one .sc) an))))) (ac (.cells (ac (.mp rfl) (ac .sc (ac .sc (ac .sc (ac .sc an)))))) (ac .map an)) (vdisk_Disk_change.meets _ p0 true a1 false 0 r1 er1) (s_assign (d := (si r1)) rfl (AWops.nil (AW.seq (AW.seq (AW.region (s_move (d := (si r1)) rfl (s_binI (v := (.bool (r1 == 0))) rfl rfl rfl (AWops.nil ?_))))))))
 rcases itH h with ⟨c2, h⟩ | ⟨c2, h⟩
 ·refine AW.cond_yes rfl c2 (AW.seq (AW.region ?_))
  refine s_move (d := (rf 0 0)) rfl (s_nilCheck (d := (rf 0 0)) rfl (.inl ⟨_, _, rfl⟩) (s_fieldRef F.fo_50_0 (by decide) rfl (s_load1 (c' := (C.mp 1)) F.ag_47 rfl rfl (s_move (d := (st_ a1)) rfl (t_lookup (b := true) F.u_47 F.u_9 F.z_65 (z := ((⟨([] : List Int), 0⟩ : vdisk_file) : vdisk_file)) (zs := [(.slice none 0 0), (.int .i64 0)]) rfl (fun h => by cases h) (ac ZRel.n (ac (ZRel.v _ rfl) an)) rfl rfl rfl rfl ?_)))))
  refine s_field1 (c := (C.p false (.sl ((lk_vdisk_file a1 p0.files).b).length (((lk_vdisk_file a1 p0.files).b).flatMap e_u8)))) F.fo_65_0 rfl rfl (s_assign (d := (D.one (C.p false (.sl ((lk_vdisk_file a1 p0.files).b).length (((lk_vdisk_file a1 p0.files).b).flatMap e_u8))))) rfl (AWops.nil (AW.region (s_move (d := (rf 0 0)) rfl (s_move (d := (st_ a1)) rfl (s_move (d := (D.one (C.p false (.sl ((lk_vdisk_file a1 p0.files).b).length (((lk_vdisk_file a1 p0.files).b).flatMap e_u8))))) rfl (s_move (d := (D.one (C.p false (.sl ((lk_vdisk_file a1 p0.files).b).length (((lk_vdisk_file a1 p0.files).b).flatMap e_u8))))) rfl ?_)))))))
  refine s_len (n := ((lk_vdisk_file a1 p0.files).b).length) F.u_22 rfl (.inr ⟨(fun _ _ h => by cases h), ⟨_, rfl⟩⟩) (s_build (ps := [(0, (D.one (C.p false (.sl ((lk_vdisk_file a1 p0.files).b).length (((lk_vdisk_file a1 p0.files).b).flatMap e_u8))))), (1, (si (((lk_vdisk_file a1 p0.files).b).length : Int)))]) (cs := [(C.p false (.sl ((lk_vdisk_file a1 p0.files).b).length (((lk_vdisk_file a1 p0.files).b).flatMap e_u8))), (ci (((lk_vdisk_file a1 p0.files).b).length : Int))]) F.z_65 rfl F.so_65 rfl rfl ?_)
  obtain ⟨r3, er3, h⟩ := bnd h
  refine cc [0, 1] [(o_vdisk_Disk_03 false (C.mp 1) (C.p true (.v (.pointer none))) r3), (om_ e_vdisk_file r3.files)] (D.tup []) F.ca_33 rfl rfl (ac (.one (.ref rfl)) (ac (.one .sc) (ac (LendT.aggL (ac .imm (ac .sc an))) an))) (ac (.cells (ac (.mp rfl) (ac .sc (ac .sc (ac .sc (ac .sc an)))))) (ac .map an)) (vdisk_Disk_set.meets _ p0 a1 (⟨(lk_vdisk_file a1 p0.files).b, (((lk_vdisk_file a1 p0.files).b).length : Int)⟩ : vdisk_file) r3 er3) (AWops.nil (AW.seq (AW.region ?_)))
  refine s_move (d := (si r1)) rfl (s_assign (d := (si r1)) rfl (AWops.nil (AW.ret ?_)))
  obtain rfl := Option.some.inj h
  exact ⟨_, rfl, (wg 2 [0, 1] [] rfl (le_upd (le_top _) (o1 .sc)) (ac (qs rfl) (ac .map an)))⟩
 ·refine AW.cond_no rfl c2 (AW.skip (AW.seq (AW.region ?_)))
  refine s_move (d := (si r1)) rfl (s_assign (d := (si r1)) rfl (AWops.nil (AW.ret ?_)))
  obtain rfl := Option.some.inj h
  exact ⟨_, rfl, (wg 2 [0, 1] [] rfl (le_upd (le_top _) (o1 .sc)) (ac (qs rfl) (ac .map an)))⟩
def dossierref03_Disk_there.f (k : Nat) (p0 : dossierref03_Disk) (a1 : ByteArray) : Option (dossierref03_File × Int) := if p0.Off = true then (some ((⟨(⟨#[]⟩ : ByteArray), ([] : List Int), 0⟩ : dossierref03_File), 70)) else ((dossierref03_Disk_place.f k p0 a1).bind fun r2 => if r2.2 = true then ((rd p0.L r2.1).bind fun v4 => some (v4, 0)) else (some ((⟨(⟨#[]⟩ : ByteArray), ([] : List Int), 0⟩ : dossierref03_File), 33)))
theorem dossierref03_Disk_there.meets (k : Nat) (p0 : dossierref03_Disk) (a1 : ByteArray) (r : dossierref03_File × Int) (h : dossierref03_Disk_there.f k p0 a1 = some r) : Meets Try.prog 53 [(rf 0 0), (st_ a1)] [(o_dossierref03_Disk_0 false (C.own 1 0 p0.L.length 3) p0), (or_ e_dossierref03_File p0.L)] (D.tup [(D.agg (c_dossierref03_File r.1)), (si r.2)]) [(o_dossierref03_Disk_0 false (C.own 1 0 p0.L.length 3) p0), (or_ e_dossierref03_File p0.L)] := by
 unfold dossierref03_Disk_there.f at h
 refine Meets.of_body (n := 29) Try.func53 rfl rfl (nl rfl) fun x hx => ?_
 replace hx : x.k = 2 := hx
 show AW _ x _ _ ⟨29, fr0 [(rf 0 0), (st_ a1)], [(o_dossierref03_Disk_0 false (C.own 1 0 p0.L.length 3) p0), (or_ e_dossierref03_File p0.L)]⟩
 refine AW.seq (AW.region ?_)
 refine s_alloc (cs := [(ct (⟨#[]⟩ : ByteArray)), (C.p true (.v (.slice none 0 0))), (ci 0)]) F.z_82 rfl rfl (s_assign (d := (si 0)) rfl (AWops.nil (AW.seq (AW.seq (AW.region (s_move (d := (rf 0 0)) rfl (s_nilCheck (d := (rf 0 0)) rfl (.inl ⟨_, _, rfl⟩) (s_fieldRef F.fo_72_3 (by decide) rfl (s_load1 (c' := (cb p0.Off)) F.ag_4 rfl rfl (AWops.nil ?_))))))))))
 rcases itH h with ⟨c1, h⟩ | ⟨c1, h⟩
 ·refine AW.cond_yes rfl c1 (AW.seq (AW.region ?_))
  refine s_build (ps := []) (cs := [(ct (⟨#[]⟩ : ByteArray)), (C.p true (.v (.slice none 0 0))), (ci 0)]) F.z_82 rfl F.so_82 rfl rfl (s_store (cs' := [(ct (⟨#[]⟩ : ByteArray)), (C.p true (.v (.slice none 0 0))), (ci 0)]) rfl rfl rfl (List.cons_ne_nil _ _) rfl F.sz_82 (nl rfl) rfl (s_assign (d := (si 70)) rfl (AWops.nil (AW.ret ?_))))
  obtain rfl := Option.some.inj h
  exact ⟨_, rfl, (wg 2 [0, 1] [] rfl (le_upd (le_top _) (DLe.tup (ac (TLe.agg (ac .sc (ac .nil (ac .sc an)))) (ac (TLe.one .sc) an)))) (ac (qo rfl) (ac (.cells id (all2_row _)) an)))⟩
 ·refine AW.cond_no rfl c1 (AW.skip (AW.seq (AW.region ?_)))
  refine s_move (d := (rf 0 0)) rfl (s_move (d := (st_ a1)) rfl ?_)
  obtain ⟨r2, er2, h⟩ := bnd h
  refine cc [0, 1] [(o_dossierref03_Disk_0 false (C.own 1 0 p0.L.length 3) p0), (or_ e_dossierref03_File p0.L), (some (AObj.cells true [(ct (⟨#[]⟩ : ByteArray)), (C.p true (.v (.slice none 0 0))), (ci 0)]))] (D.tup [(si r2.1), (sb r2.2)]) F.ca_57 rfl rfl (ac (.one (.ref rfl)) (ac (.one .sc) an)) (ac (.cells (ac (.own rfl) (ac .sc (ac .sc (ac .sc an))))) (ac (.cells (lend_row _)) an)) (dossierref03_Disk_place.meets _ p0 a1 r2 er2) (s_move (d := (D.tup [(si r2.1), (sb r2.2)])) rfl (s_extract (d := (si r2.1)) rfl rfl (s_extract (d := (sb r2.2)) rfl rfl (s_assign (d := (si r2.1)) rfl (s_assign (d := (sb r2.2)) rfl (AWops.nil (AW.seq (AW.seq (AW.region ?_)))))))))
  refine s_move (d := (sb r2.2)) rfl (s_not rfl (AWops.nil ?_))
  rcases itH h with ⟨c3, h⟩ | ⟨c3, h⟩
  ·refine AW.cond_no rfl (by rw [c3] <;> rfl) (AW.skip (AW.seq (AW.region ?_)))
   refine s_move (d := (rf 0 0)) rfl (s_nilCheck (d := (rf 0 0)) rfl (.inl ⟨_, _, rfl⟩) (s_fieldRef F.fo_72_0 (by decide) rfl (s_load1 (c' := (C.own 1 0 p0.L.length 3)) F.ag_70 rfl rfl (s_move (d := (si r2.1)) rfl ?_))))
   obtain ⟨v4, ev4, h⟩ := bnd h
   obtain ⟨pv4, qv4, gv4⟩ := rd_some ev4
   refine s_indexOwn (d := (D.one (C.ref 1 (0 + r2.1.toNat * 3)))) F.u_70 F.sz_82 rfl rfl pv4 qv4 rfl ?_
   obtain ⟨R5, hR5⟩ := row_at (f := e_dossierref03_File) (sz := 3) (o := 0) e_dossierref03_File_len gv4 (e_dossierref03_File_eq v4) (by decide)
   refine s_loadN (ds := (c_dossierref03_File v4)) F.ag_82 F.sz_82 (congrArg some hR5) rfl rfl (s_store (cs' := (c_dossierref03_File v4)) rfl rfl rfl (List.cons_ne_nil _ _) rfl F.sz_82 (nl rfl) rfl (s_assign (d := (si 0)) rfl (AWops.nil (AW.ret ?_))))
   obtain rfl := Option.some.inj h
   exact ⟨_, rfl, (wg 2 [0, 1] [] rfl (le_upd (le_top _) (DLe.tup (ac (TLe.agg (ac .sc (ac .same (ac .sc an)))) (ac (TLe.one .sc) an)))) (ac (qo rfl) (ac (.cells id (all2_row _)) an)))⟩
  ·refine AW.cond_yes rfl (by rw [c3] <;> rfl) (AW.seq (AW.region ?_))
   refine s_build (ps := []) (cs := [(ct (⟨#[]⟩ : ByteArray)), (C.p true (.v (.slice none 0 0))), (ci 0)]) F.z_82 rfl F.so_82 rfl rfl (s_store (cs' := [(ct (⟨#[]⟩ : ByteArray)), (C.p true (.v (.slice none 0 0))), (ci 0)]) rfl rfl rfl (List.cons_ne_nil _ _) rfl F.sz_82 (nl rfl) rfl (s_assign (d := (si 33)) rfl (AWops.nil (AW.ret ?_))))
   obtain rfl := Option.some.inj h
   exact ⟨_, rfl, (wg 2 [0, 1] [] rfl (le_upd (le_top _) (DLe.tup (ac (TLe.agg (ac .sc (ac .nil (ac .sc an)))) (ac (TLe.one .sc) an)))) (ac (qo rfl) (ac (.cells id (all2_row _)) an)))⟩
mutual
def dossierref03_Disk_Sync_39.j0 : Nat → Int → Int → Bool → (List dossierref03_File) → Int → (dossierref03_File × Int) → Option (Int × dossierref03_Disk)
 | 0, _, _, _, _, _, _ => none
 | k + 1, x4, x5, x6, x7, x8, r1 => if (x8 == 0) = true then ((dossierref03_Disk_set_58.f k (⟨x7, x4, x5, x6⟩ : dossierref03_Disk) (⟨r1.1.Name, r1.1.B, (r1.1.B.length : Int)⟩ : dossierref03_File)).bind fun r10 => some (x8, r10)) else (some (x8, (⟨x7, x4, x5, x6⟩ : dossierref03_Disk)))
end
def dossierref03_Disk_Sync_39.f (k : Nat) (p0 : dossierref03_Disk) (a1 : ByteArray) : Option (Int × dossierref03_Disk) := (dossierref03_Disk_there.f k p0 a1).bind fun r1 => if (r1.2 == 0) = true then ((dossierref03_Disk_burn.f k p0).bind fun r3 => dossierref03_Disk_Sync_39.j0 k r3.2.Most r3.2.Burns r3.2.Off r3.2.L r3.1 r1) else (dossierref03_Disk_Sync_39.j0 k p0.Most p0.Burns p0.Off p0.L r1.2 r1)
theorem dossierref03_Disk_Sync_39.meets (k : Nat) (p0 : dossierref03_Disk) (a1 : ByteArray) (r : Int × dossierref03_Disk) (h : dossierref03_Disk_Sync_39.f k p0 a1 = some r) : Meets Try.prog 39 [(rf 0 0), (st_ a1)] [(o_dossierref03_Disk_0 false (C.own 1 0 p0.L.length 3) p0), (or_ e_dossierref03_File p0.L)] (si r.1) [(o_dossierref03_Disk_0 false (C.own 2 0 r.2.L.length 3) r.2), none, (or_ e_dossierref03_File r.2.L)] := by
 unfold dossierref03_Disk_Sync_39.f at h
 refine Meets.of_body (n := 27) Try.func39 rfl rfl (nl rfl) fun x hx => ?_
 replace hx : x.k = 2 := hx
 show AW _ x _ _ ⟨27, fr0 [(rf 0 0), (st_ a1)], [(o_dossierref03_Disk_0 false (C.own 1 0 p0.L.length 3) p0), (or_ e_dossierref03_File p0.L)]⟩
 refine AW.weak (st' := ⟨27, (upd 27 (upd 27 topF 0 (rf 0 0)) 1 (st_ a1)), [(o_dossierref03_Disk_0 false (C.own 2 0 p0.L.length 3) p0), none, (or_ e_dossierref03_File p0.L)]⟩) (Weak.genL (kk := 2) [0, 1, 1] [] hx rfl (by decide) rfl rfl rfl rfl (le_upd (le_upd (le_top _) (o1 (.ref rfl))) (o1 .sc)) (ac (qo rfl) (ac (.none _) (ac (.cells id (all2_row _)) an)))) (AW.seq (AW.region ?_))
 refine s_assign (d := (si 0)) rfl (AWops.nil (AW.seq (AW.region ?_)))
 refine s_move (d := (rf 0 0)) rfl (s_move (d := (st_ a1)) rfl ?_)
 obtain ⟨r1, er1, h⟩ := bnd h
 refine cc [0, 2] [(o_dossierref03_Disk_0 false (C.own 2 0 p0.L.length 3) p0), none, (or_ e_dossierref03_File p0.L)] (D.tup [(D.agg (c_dossierref03_File r1.1)), (si r1.2)]) F.ca_53 rfl rfl (ac (.one (.ref rfl)) (ac (.one .sc) an)) (ac (.cells (ac (.own rfl) (ac .sc (ac .sc (ac .sc an))))) (ac (.cells (lend_row _)) an)) (dossierref03_Disk_there.meets _ p0 a1 r1 er1) (s_move (d := (D.tup [(D.agg (c_dossierref03_File r1.1)), (si r1.2)])) rfl (s_extract (d := (D.agg (c_dossierref03_File r1.1))) rfl rfl (s_extract (d := (si r1.2)) rfl rfl (s_alloc (cs := [(ct (⟨#[]⟩ : ByteArray)), (C.p true (.v (.slice none 0 0))), (ci 0)]) F.z_82 rfl rfl (s_store (cs' := (c_dossierref03_File r1.1)) rfl rfl rfl (List.cons_ne_nil _ _) rfl F.sz_82 (nl rfl) rfl ?_)))))
 refine s_assign (d := (si r1.2)) rfl (AWops.nil ?_)
 refine AW.seqJ (fun st => ∃ (x4 : Int) (x5 : Int) (x6 : Bool) (x7 : List dossierref03_File) (x8 : Int), dossierref03_Disk_Sync_39.j0 k x4 x5 x6 x7 x8 r1 = some r ∧ st = ⟨27, (upd 27 (upd 27 (upd 27 topF 0 (rf 0 0)) 5 (rf 2 0)) 6 (si x8)), [(some (AObj.cells false [(C.own 3 0 x7.length 3), (ci x4), (ci x5), (cb x6)])), none, (some (AObj.cells true (c_dossierref03_File r1.1))), (or_ e_dossierref03_File x7)]⟩) ?_ ?_
 ·refine AW.seq (AW.region ?_)
  refine s_move (d := (si r1.2)) rfl (s_binI (v := (.bool (r1.2 == 0))) rfl rfl rfl (AWops.nil ?_))
  rcases itH h with ⟨c2, h⟩ | ⟨c2, h⟩
  ·refine AW.cond_yes rfl c2 (AW.region ?_)
   refine s_move (d := (rf 0 0)) rfl ?_
   obtain ⟨r3, er3, h⟩ := bnd h
   refine cc [0, 2] [(o_dossierref03_Disk_0 false (C.own 2 0 r3.2.L.length 3) r3.2), none, (or_ e_dossierref03_File r3.2.L), (some (AObj.cells true (c_dossierref03_File r1.1)))] (si r3.1) F.ca_56 rfl rfl (ac (.one (.ref rfl)) an) (ac (.cells (ac (.own rfl) (ac .sc (ac .sc (ac .sc an))))) (ac (.cells (lend_row _)) an)) (dossierref03_Disk_burn.meets _ p0 r3 er3) (s_assign (d := (si r3.1)) rfl (AWops.nil ?_))
   exact ⟨⟨27, (upd 27 (upd 27 (upd 27 topF 0 (rf 0 0)) 5 (rf 2 0)) 6 (si r3.1)), [(some (AObj.cells false [(C.own 3 0 r3.2.L.length 3), (ci r3.2.Most), (ci r3.2.Burns), (cb r3.2.Off)])), none, (some (AObj.cells true (c_dossierref03_File r1.1))), (or_ e_dossierref03_File r3.2.L)]⟩, (wg 2 [0, 1, 3, 2] [] hx (le_upd (le_upd (le_upd (le_top _) (o1 (.ref rfl))) (o1 (.ref rfl))) (o1 .sc)) (ac (qo rfl) (ac (.none _) (ac (.cells (fun _ => rfl) (ac .sc (ac .same (ac .sc an)))) (ac (.cells id (all2_row _)) an))))), r3.2.Most, r3.2.Burns, r3.2.Off, r3.2.L, r3.1, h, rfl⟩
  ·refine AW.cond_no rfl c2 (AW.skip ?_)
   exact ⟨⟨27, (upd 27 (upd 27 (upd 27 topF 0 (rf 0 0)) 5 (rf 2 0)) 6 (si r1.2)), [(some (AObj.cells false [(C.own 3 0 p0.L.length 3), (ci p0.Most), (ci p0.Burns), (cb p0.Off)])), none, (some (AObj.cells true (c_dossierref03_File r1.1))), (or_ e_dossierref03_File p0.L)]⟩, (wg 2 [0, 1, 3, 2] [] hx (le_upd (le_upd (le_upd (le_top _) (o1 (.ref rfl))) (o1 (.ref rfl))) (o1 .sc)) (ac (qo rfl) (ac (.none _) (ac (.cells (fun _ => rfl) (ac .sc (ac .same (ac .sc an)))) (ac (.cells id (all2_row _)) an))))), p0.Most, p0.Burns, p0.Off, p0.L, r1.2, h, rfl⟩
 ·rintro st ⟨x4, x5, x6, x7, x8, h, rfl⟩
  cases k with
  | zero => exact absurd h (by simp [dossierref03_Disk_Sync_39.j0])
  | succ qj0 =>
   replace h := (dossierref03_Disk_Sync_39.j0.eq_2 _ _ _ _ _ _ _).symm.trans h
   refine AW.seq (AW.seq (AW.region ?_))
   refine s_move (d := (si x8)) rfl (s_binI (v := (.bool (x8 == 0))) rfl rfl rfl (AWops.nil ?_))
   rcases itH h with ⟨c9, h⟩ | ⟨c9, h⟩
   ·refine AW.cond_yes rfl c9 (AW.seq (AW.region ?_))
    refine s_fieldRef F.fo_82_1 (by decide) rfl (s_load1 (c' := (C.p false (.sl r1.1.B.length (r1.1.B.flatMap e_u8)))) F.ag_22 rfl rfl (s_len (n := r1.1.B.length) F.u_22 rfl (.inr ⟨(fun _ _ h => by cases h), ⟨_, rfl⟩⟩) (s_fieldRef F.fo_82_2 (by decide) rfl (s_store (cs' := [(ct r1.1.Name), (C.p false (.sl r1.1.B.length (r1.1.B.flatMap e_u8))), (ci (r1.1.B.length : Int))]) rfl rfl rfl (List.cons_ne_nil _ _) rfl F.sz_3 (nl rfl) rfl (AWops.nil (AW.region (s_move (d := (rf 0 0)) rfl ?_)))))))
    refine s_loadN (ds := [(ct r1.1.Name), (C.p false (.sl r1.1.B.length (r1.1.B.flatMap e_u8))), (ci (r1.1.B.length : Int))]) F.ag_82 F.sz_82 rfl rfl rfl ?_
    obtain ⟨r10, er10, h⟩ := bnd h
    refine cc [0, 3] [(o_dossierref03_Disk_0 false (C.own 4 0 r10.L.length 3) r10), none, (some (AObj.cells true [(ct r1.1.Name), (C.p false (.sl r1.1.B.length (r1.1.B.flatMap e_u8))), (ci (r1.1.B.length : Int))])), none, (or_ e_dossierref03_File r10.L)] (D.tup []) F.ca_58 rfl rfl (ac (.one (.ref rfl)) (ac (LendT.aggL (ac .sc (ac .imm (ac .sc an)))) an)) (ac (.cells (ac (.own rfl) (ac .sc (ac .sc (ac .sc an))))) (ac (.cells (lend_row _)) an)) (dossierref03_Disk_set_58.meets _ (⟨x7, x4, x5, x6⟩ : dossierref03_Disk) (⟨r1.1.Name, r1.1.B, (r1.1.B.length : Int)⟩ : dossierref03_File) r10 er10) (AWops.nil (AW.seq (AW.region ?_)))
    refine s_move (d := (si x8)) rfl (s_assign (d := (si x8)) rfl (AWops.nil (AW.ret ?_)))
    obtain rfl := Option.some.inj h
    exact ⟨_, rfl, (wg 2 [0, 1, 4] [] rfl (le_upd (le_top _) (o1 .sc)) (ac (qo rfl) (ac (.none _) (ac (.cells id (all2_row _)) an))))⟩
   ·refine AW.cond_no rfl c9 (AW.skip (AW.seq (AW.region ?_)))
    refine s_move (d := (si x8)) rfl (s_assign (d := (si x8)) rfl (AWops.nil (AW.ret ?_)))
    obtain rfl := Option.some.inj h
    exact ⟨_, rfl, (wg 2 [0, 1, 3] [] rfl (le_upd (le_top _) (o1 .sc)) (ac (qo rfl) (ac (.none _) (ac (.cells id (all2_row _)) an))))⟩
def vdisk_Disk_cut.f (k : Nat) (p0 : vdisk_Disk) (a1 : ByteArray) : Option vdisk_Disk := some (⟨mdel a1 p0.files, p0.room, IntKind.i64.wrap (p0.used - (((lk_vdisk_file a1 p0.files).b).length : Int)), (), p0.dead⟩ : vdisk_Disk)
theorem vdisk_Disk_cut.meets (k : Nat) (p0 : vdisk_Disk) (a1 : ByteArray) (r : vdisk_Disk) (h : vdisk_Disk_cut.f k p0 a1 = some r) : Meets Try.prog 46 [(rf 0 0), (st_ a1)] [(o_vdisk_Disk_03 false (C.mp 1) (C.p true (.v (.pointer none))) p0), (om_ e_vdisk_file p0.files)] (D.tup []) [(o_vdisk_Disk_03 false (C.mp 1) (C.p true (.v (.pointer none))) r), (om_ e_vdisk_file r.files)] := by
 unfold vdisk_Disk_cut.f at h
 refine Meets.of_body (n := 24) Try.func46 rfl rfl (nl rfl) fun x hx => ?_
 replace hx : x.k = 2 := hx
 show AW _ x _ _ ⟨24, fr0 [(rf 0 0), (st_ a1)], [(o_vdisk_Disk_03 false (C.mp 1) (C.p true (.v (.pointer none))) p0), (om_ e_vdisk_file p0.files)]⟩
 refine AW.seq ?_
 refine AW.weak (st' := ⟨24, (upd 24 (upd 24 topF 0 (rf 0 0)) 1 (st_ a1)), [(o_vdisk_Disk_03 false (C.mp 1) (C.p true (.v (.pointer none))) p0), (om_ e_vdisk_file p0.files)]⟩) (wg 2 [0, 1] [] hx (le_upd (le_upd (le_top _) (o1 (.ref rfl))) (o1 .sc)) (ac (qs rfl) (ac .map an))) ?_
 refine AW.draw (n := 24) (L := 2) [(ft 0 4 (rf 0 0) [(0, (rf 0 0))]), (ft 1 5 (rf 0 0) [(4, (rf 0 0))]), (ft 2 6 (rf 0 2) [(5, (rf 0 0))]), (3, ⟨some 7, (si p0.used), [(6, (rf 0 2))], [(0, (o_vdisk_Disk_03 false (C.mp 1) (C.p true (.v (.pointer none))) p0))], [], none⟩), (ft 4 8 (rf 0 0) [(0, (rf 0 0))]), (ft 5 9 (rf 0 0) [(8, (rf 0 0))]), (ft 6 10 (rf 0 0) [(9, (rf 0 0))]), (7, ⟨some 11, (D.one (C.mp 1)), [(10, (rf 0 0))], [(0, (o_vdisk_Disk_03 false (C.mp 1) (C.p true (.v (.pointer none))) p0))], [], none⟩), (ft 8 12 (st_ a1) [(1, (st_ a1))]), (9, ⟨some 13, (D.agg (c_vdisk_file (lk_vdisk_file a1 p0.files))), [(11, (D.one (C.mp 1))), (12, (st_ a1))], [(1, (om_ e_vdisk_file p0.files))], [], none⟩), (ft 10 14 (D.one (C.p false (.sl ((lk_vdisk_file a1 p0.files).b).length (((lk_vdisk_file a1 p0.files).b).flatMap e_u8)))) [(13, (D.agg (c_vdisk_file (lk_vdisk_file a1 p0.files))))]), (ft 11 15 (si (((lk_vdisk_file a1 p0.files).b).length : Int)) [(14, (D.one (C.p false (.sl ((lk_vdisk_file a1 p0.files).b).length (((lk_vdisk_file a1 p0.files).b).flatMap e_u8)))))]), (ft 12 16 (si (IntKind.i64.wrap (p0.used - (((lk_vdisk_file a1 p0.files).b).length : Int)))) [(7, (si p0.used)), (15, (si (((lk_vdisk_file a1 p0.files).b).length : Int)))]), (ft 13 17 (rf 0 0) [(4, (rf 0 0))]), (ft 14 18 (rf 0 2) [(17, (rf 0 0))]), (15, ⟨none, (D.one C.top), [(16, (si (IntKind.i64.wrap (p0.used - (((lk_vdisk_file a1 p0.files).b).length : Int))))), (18, (rf 0 2))], [(0, (o_vdisk_Disk_03 false (C.mp 1) (C.p true (.v (.pointer none))) p0))], [(0, (some (AObj.cells false [(C.mp 1), (ci p0.room), (ci (IntKind.i64.wrap (p0.used - (((lk_vdisk_file a1 p0.files).b).length : Int)))), (C.p true (.v (.pointer none))), (cb p0.dead)])))], none⟩)] [[], [0], [0, 1], [0, 1, 2], [], [4], [4, 5], [4, 5, 6], [], [4, 5, 6, 7, 8], [4, 5, 6, 7, 8, 9], [4, 5, 6, 7, 8, 9, 10], (.range 12), (.range 13), (.range 14), (.range 15)] (nl rfl) [0, 1, 2, 3, 0, 1, 2, 3, 0, 4, 5, 6, 7, 8, 9, 10] rfl (TK := []) rfl AllK.nil' (by repeat (first | refine fC ⟨?_, ?_⟩ ?_ | refine sC rfl ?_ | refine hC rfl ?_ | trivial)) ?_ ?_
 ·refine y8 ?_ ?_ ?_ ?_ ?_ ?_ ?_ ?_ (y8 ?_ ?_ ?_ ?_ ?_ ?_ ?_ ?_ yN)
  ·intro K _ f w u k
   show Wp K ⟨24, (upd 24 f 0 (rf 0 0)), _⟩
   refine s_move (d := (rf 0 0)) rfl k
  ·intro K _ f w u k
   show Wp K ⟨24, (upd 24 f 4 (rf 0 0)), [_, _]⟩
   refine s_nilCheck (d := (rf 0 0)) rfl (.inl ⟨_, _, rfl⟩) k
  ·intro K _ f w u k
   show Wp K ⟨24, (upd 24 f 5 (rf 0 0)), [_, _]⟩
   refine s_fieldRef F.fo_50_2 (by decide) rfl k
  ·intro K _ f w u k
   show Wp K ⟨24, (upd 24 f 6 (rf 0 2)), [(o_vdisk_Disk_03 false (C.mp 1) (C.p true (.v (.pointer none))) p0), _]⟩
   refine s_load1 (c' := (ci p0.used)) F.ag_3 rfl rfl k
  ·intro K _ f w u k
   show Wp K ⟨24, (upd 24 f 0 (rf 0 0)), _⟩
   refine s_move (d := (rf 0 0)) rfl k
  ·intro K _ f w u k
   show Wp K ⟨24, (upd 24 f 8 (rf 0 0)), [_, _]⟩
   refine s_nilCheck (d := (rf 0 0)) rfl (.inl ⟨_, _, rfl⟩) k
  ·intro K _ f w u k
   show Wp K ⟨24, (upd 24 f 9 (rf 0 0)), [_, _]⟩
   refine s_fieldRef F.fo_50_0 (by decide) rfl k
  ·intro K _ f w u k
   show Wp K ⟨24, (upd 24 f 10 (rf 0 0)), [(o_vdisk_Disk_03 false (C.mp 1) (C.p true (.v (.pointer none))) p0), _]⟩
   refine s_load1 (c' := (C.mp 1)) F.ag_47 rfl rfl k
  ·intro K _ f w u k
   show Wp K ⟨24, (upd 24 f 1 (st_ a1)), _⟩
   refine s_move (d := (st_ a1)) rfl k
  ·intro K _ f w u k
   show Wp K ⟨24, (upd 24 (upd 24 f 12 (st_ a1)) 11 (D.one (C.mp 1))), [_, (om_ e_vdisk_file p0.files)]⟩
   refine t_lookup (b := true) F.u_47 F.u_9 F.z_65 (z := ((⟨([] : List Int), 0⟩ : vdisk_file) : vdisk_file)) (zs := [(.slice none 0 0), (.int .i64 0)]) rfl (fun h => by cases h) (ac ZRel.n (ac (ZRel.v _ rfl) an)) rfl rfl rfl rfl k
  ·intro K _ f w u k
   show Wp K ⟨24, (upd 24 f 13 (D.agg (c_vdisk_file (lk_vdisk_file a1 p0.files)))), [_, _]⟩
   refine s_field1 (c := (C.p false (.sl ((lk_vdisk_file a1 p0.files).b).length (((lk_vdisk_file a1 p0.files).b).flatMap e_u8)))) F.fo_65_0 rfl rfl k
  ·intro K _ f w u k
   show Wp K ⟨24, (upd 24 f 14 (D.one (C.p false (.sl ((lk_vdisk_file a1 p0.files).b).length (((lk_vdisk_file a1 p0.files).b).flatMap e_u8))))), [_, _]⟩
   refine s_len (n := ((lk_vdisk_file a1 p0.files).b).length) F.u_22 rfl (.inr ⟨(fun _ _ h => by cases h), ⟨_, rfl⟩⟩) k
  ·intro K _ f w u k
   show Wp K ⟨24, (upd 24 (upd 24 f 15 (si (((lk_vdisk_file a1 p0.files).b).length : Int))) 7 (si p0.used)), _⟩
   refine s_binI (v := (.int .i64 (IntKind.i64.wrap (p0.used - (((lk_vdisk_file a1 p0.files).b).length : Int))))) rfl rfl rfl k
  ·intro K _ f w u k
   show Wp K ⟨24, (upd 24 f 4 (rf 0 0)), [_, _]⟩
   refine s_nilCheck (d := (rf 0 0)) rfl (.inl ⟨_, _, rfl⟩) k
  ·intro K _ f w u k
   show Wp K ⟨24, (upd 24 f 17 (rf 0 0)), [_, _]⟩
   refine s_fieldRef F.fo_50_2 (by decide) rfl k
  ·intro K _ f w u k
   show Wp K ⟨24, (upd 24 (upd 24 f 18 (rf 0 2)) 16 (si (IntKind.i64.wrap (p0.used - (((lk_vdisk_file a1 p0.files).b).length : Int))))), [(o_vdisk_Disk_03 false (C.mp 1) (C.p true (.v (.pointer none))) p0), _]⟩
   refine s_store (cs' := [(C.mp 1), (ci p0.room), (ci (IntKind.i64.wrap (p0.used - (((lk_vdisk_file a1 p0.files).b).length : Int)))), (C.p true (.v (.pointer none))), (cb p0.dead)]) rfl rfl rfl (List.cons_ne_nil _ _) rfl F.sz_3 (nl rfl) rfl k
 ·refine AWops.weak (st' := ⟨24, (upd 24 (upd 24 topF 0 (rf 0 0)) 1 (st_ a1)), [(some (AObj.cells false [(C.mp 1), (ci p0.room), (ci (IntKind.i64.wrap (p0.used - (((lk_vdisk_file a1 p0.files).b).length : Int)))), (C.p true (.v (.pointer none))), (cb p0.dead)])), (om_ e_vdisk_file p0.files)]⟩) (wg 2 [0, 1] [] hx (le_upd (le_upd (le_top _) (o1 (.ref rfl))) (o1 .sc)) (ac (qs rfl) (ac .map an))) (AWops.nil (AW.region ?_))
  refine s_move (d := (rf 0 0)) rfl (s_nilCheck (d := (rf 0 0)) rfl (.inl ⟨_, _, rfl⟩) (s_fieldRef F.fo_50_0 (by decide) rfl (s_load1 (c' := (C.mp 1)) F.ag_47 rfl rfl (s_move (d := (st_ a1)) rfl (t_mapDel F.u_47 F.u_9 rfl rfl rfl rfl rfl (AWops.nil ?_))))))
  obtain rfl := Option.some.inj h
  exact ⟨_, rfl, (wg 2 [0, 1] [] rfl (le_upd (le_top _) (DLe.tup an)) (ac (qs rfl) (ac .map an)))⟩
def vdisk_Disk_Rename.f (k : Nat) (p0 : vdisk_Disk) (a1 : ByteArray) (a2 : ByteArray) : Option (Int × vdisk_Disk) := (vdisk_named.f k a2).bind fun r1 => (vdisk_Disk_change.f k p0 r1 a1 false 0).bind fun r2 => if (r2 == 0) = true then (if (a1.toList == a2.toList) = true then (some (r2, p0)) else ((vdisk_Disk_cut.f k p0 a1).bind fun r5 => (vdisk_Disk_set.f k r5 a2 (lk_vdisk_file a1 p0.files)).bind fun r6 => some (r2, r6))) else (some (r2, p0))
theorem vdisk_Disk_Rename.meets (k : Nat) (p0 : vdisk_Disk) (a1 : ByteArray) (a2 : ByteArray) (r : Int × vdisk_Disk) (h : vdisk_Disk_Rename.f k p0 a1 a2 = some r) : Meets Try.prog 18 [(rf 0 0), (st_ a1), (st_ a2)] [(o_vdisk_Disk_03 false (C.mp 1) (C.p true (.v (.pointer none))) p0), (om_ e_vdisk_file p0.files)] (si r.1) [(o_vdisk_Disk_03 false (C.mp 1) (C.p true (.v (.pointer none))) r.2), (om_ e_vdisk_file r.2.files)] := by
 unfold vdisk_Disk_Rename.f at h
 refine Meets.of_body (n := 35) Try.func18 rfl rfl (nl rfl) fun x hx => ?_
 replace hx : x.k = 2 := hx
 show AW _ x _ _ ⟨35, fr0 [(rf 0 0), (st_ a1), (st_ a2)], [(o_vdisk_Disk_03 false (C.mp 1) (C.p true (.v (.pointer none))) p0), (om_ e_vdisk_file p0.files)]⟩
 refine AW.seq (AW.region ?_)
 refine s_assign (d := (si 0)) rfl (AWops.nil (AW.seq (AW.region ?_)))
 refine s_move (d := (rf 0 0)) rfl (s_move (d := (st_ a2)) rfl ?_)
 obtain ⟨r1, er1, h⟩ := bnd h
 refine cc [] [(o_vdisk_Disk_03 false (C.mp 1) (C.p true (.v (.pointer none))) p0), (om_ e_vdisk_file p0.files)] (sb r1) F.ca_32 rfl rfl (ac (.one .sc) an) an (vdisk_named.meets _ a2 r1 er1) (s_move (d := (st_ a1)) rfl ?_)
 obtain ⟨r2, er2, h⟩ := bnd h
 refine cc [0, 1] [(o_vdisk_Disk_03 false (C.mp 1) (C.p true (.v (.pointer none))) p0), (om_ e_vdisk_file p0.files)] (si r2) F.ca_31 rfl rfl (ac (.one (.ref rfl)) (ac (.one .sc) (ac (.one .sc) (ac (.one .sc) (ac (.one .sc) an))))) (ac (.cells (ac (.mp rfl) (ac .sc (ac .sc (ac .sc (ac .sc an)))))) (ac .map an)) (vdisk_Disk_change.meets _ p0 r1 a1 false 0 r2 er2) (s_assign (d := (si r2)) rfl (AWops.nil (AW.seq (AW.seq (AW.region (s_move (d := (si r2)) rfl (s_binI (v := (.bool (r2 == 0))) rfl rfl rfl (s_move (d := (sb (r2 == 0))) rfl ?_))))))))
 rcases itH h with ⟨c3, h⟩ | ⟨c3, h⟩
 ·refine AWops.guard_yes rfl (nl rfl) rfl c3 ?_
  refine s_move (d := (st_ a1)) rfl ?_
  refine AWops.guard_yes rfl (nl rfl) rfl c3 ?_
  refine s_move (d := (st_ a2)) rfl ?_
  refine AWops.guard_yes rfl (nl rfl) rfl c3 ?_
  refine s_binS (v := (.bool (!(a1.toList == a2.toList)))) rfl rfl rfl (s_pick_yes (d := (sb (!(a1.toList == a2.toList)))) rfl c3 rfl (AWops.nil ?_))
  rcases itH h with ⟨c4, h⟩ | ⟨c4, h⟩
  ·refine AW.cond_no rfl (by rw [c4] <;> rfl) (AW.skip (AW.seq (AW.region ?_)))
   refine s_move (d := (si r2)) rfl (s_assign (d := (si r2)) rfl (AWops.nil (AW.ret ?_)))
   obtain rfl := Option.some.inj h
   exact ⟨_, rfl, (wg 2 [0, 1] [] rfl (le_upd (le_top _) (o1 .sc)) (ac (qs rfl) (ac .map an)))⟩
  ·refine AW.cond_yes rfl (by rw [c4] <;> rfl) (AW.seq (AW.region ?_))
   refine s_move (d := (rf 0 0)) rfl (s_nilCheck (d := (rf 0 0)) rfl (.inl ⟨_, _, rfl⟩) (s_fieldRef F.fo_50_0 (by decide) rfl (s_load1 (c' := (C.mp 1)) F.ag_47 rfl rfl (s_move (d := (st_ a1)) rfl (t_lookup (b := true) F.u_47 F.u_9 F.z_65 (z := ((⟨([] : List Int), 0⟩ : vdisk_file) : vdisk_file)) (zs := [(.slice none 0 0), (.int .i64 0)]) rfl (fun h => by cases h) (ac ZRel.n (ac (ZRel.v _ rfl) an)) rfl rfl rfl rfl ?_)))))
   refine s_alloc (cs := [(C.p true (.v (.slice none 0 0))), (ci 0)]) F.z_65 rfl rfl (s_store (cs' := (c_vdisk_file (lk_vdisk_file a1 p0.files))) rfl rfl rfl (List.cons_ne_nil _ _) rfl F.sz_65 (nl rfl) rfl (AWops.nil (AW.seq (AW.region (s_move (d := (rf 0 0)) rfl (s_move (d := (st_ a1)) rfl ?_))))))
   obtain ⟨r5, er5, h⟩ := bnd h
   refine cc [0, 1] [(o_vdisk_Disk_03 false (C.mp 1) (C.p true (.v (.pointer none))) r5), (om_ e_vdisk_file r5.files), (some (AObj.cells true (c_vdisk_file (lk_vdisk_file a1 p0.files))))] (D.tup []) F.ca_46 rfl rfl (ac (.one (.ref rfl)) (ac (.one .sc) an)) (ac (.cells (ac (.mp rfl) (ac .sc (ac .sc (ac .sc (ac .sc an)))))) (ac .map an)) (vdisk_Disk_cut.meets _ p0 a1 r5 er5) (AWops.nil (AW.region ?_))
   refine s_move (d := (rf 0 0)) rfl (s_move (d := (st_ a2)) rfl (s_loadN (ds := (c_vdisk_file (lk_vdisk_file a1 p0.files))) F.ag_65 F.sz_65 rfl rfl rfl ?_))
   obtain ⟨r6, er6, h⟩ := bnd h
   refine cc [0, 1] [(o_vdisk_Disk_03 false (C.mp 1) (C.p true (.v (.pointer none))) r6), (om_ e_vdisk_file r6.files), (some (AObj.cells true (c_vdisk_file (lk_vdisk_file a1 p0.files))))] (D.tup []) F.ca_33 rfl rfl (ac (.one (.ref rfl)) (ac (.one .sc) (ac (LendT.aggL (ac .imm (ac .sc an))) an))) (ac (.cells (ac (.mp rfl) (ac .sc (ac .sc (ac .sc (ac .sc an)))))) (ac .map an)) (vdisk_Disk_set.meets _ r5 a2 (lk_vdisk_file a1 p0.files) r6 er6) (AWops.nil (AW.seq (AW.region ?_)))
   refine s_move (d := (si r2)) rfl (s_assign (d := (si r2)) rfl (AWops.nil (AW.ret ?_)))
   obtain rfl := Option.some.inj h
   exact ⟨_, rfl, (wg 2 [0, 1] [] rfl (le_upd (le_top _) (o1 .sc)) (ac (qs rfl) (ac .map an)))⟩
 ·iterate 3 refine AWops.guard_no rfl (nl rfl) rfl c3 ?_
  refine s_pick_no (d := (sb false)) rfl c3 rfl (AWops.nil ?_)
  refine AW.cond_no rfl rfl (AW.skip (AW.seq (AW.region ?_)))
  refine s_move (d := (si r2)) rfl (s_assign (d := (si r2)) rfl (AWops.nil (AW.ret ?_)))
  obtain rfl := Option.some.inj h
  exact ⟨_, rfl, (wg 2 [0, 1] [] rfl (le_upd (le_top _) (o1 .sc)) (ac (qs rfl) (ac .map an)))⟩
def dossierref03_Disk_cut_59.f (k : Nat) (p0 : dossierref03_Disk) (a1 : ByteArray) : Option dossierref03_Disk := (dossierref03_Disk_place.f k p0 a1).bind fun r1 => if (decide (0 ≤ 0 ∧ 0 ≤ r1.1 ∧ r1.1 ≤ (p0.L.length : Int))) = true then (if (decide (([] : List dossierref03_File).length + (sub p0.L 0 r1.1).length ≤ 2932031007402)) = true then (if (decide (0 ≤ (IntKind.i64.wrap (r1.1 + 1)) ∧ (IntKind.i64.wrap (r1.1 + 1)) ≤ (p0.L.length : Int) ∧ (p0.L.length : Int) ≤ (p0.L.length : Int))) = true then (if (decide ((sub p0.L 0 r1.1).length + (sub p0.L (IntKind.i64.wrap (r1.1 + 1)) (p0.L.length : Int)).length ≤ 2932031007402)) = true then (some (⟨(sub p0.L 0 r1.1) ++ (sub p0.L (IntKind.i64.wrap (r1.1 + 1)) (p0.L.length : Int)), p0.Most, p0.Burns, p0.Off⟩ : dossierref03_Disk)) else none) else none) else none) else none
theorem dossierref03_Disk_cut_59.meets (k : Nat) (p0 : dossierref03_Disk) (a1 : ByteArray) (r : dossierref03_Disk) (h : dossierref03_Disk_cut_59.f k p0 a1 = some r) : Meets Try.prog 59 [(rf 0 0), (st_ a1)] [(o_dossierref03_Disk_0 false (C.own 1 0 p0.L.length 3) p0), (or_ e_dossierref03_File p0.L)] (D.tup []) [(o_dossierref03_Disk_0 false (C.own 2 0 r.L.length 3) r), none, (or_ e_dossierref03_File r.L)] := by
 unfold dossierref03_Disk_cut_59.f at h
 refine Meets.of_body (n := 31) Try.func59 rfl rfl (nl rfl) fun x hx => ?_
 replace hx : x.k = 2 := hx
 show AW _ x _ _ ⟨31, fr0 [(rf 0 0), (st_ a1)], [(o_dossierref03_Disk_0 false (C.own 1 0 p0.L.length 3) p0), (or_ e_dossierref03_File p0.L)]⟩
 refine AW.weak (st' := ⟨31, (upd 31 (upd 31 topF 0 (rf 0 0)) 1 (st_ a1)), [(o_dossierref03_Disk_0 false (C.own 2 0 p0.L.length 3) p0), none, (or_ e_dossierref03_File p0.L)]⟩) (Weak.genL (kk := 2) [0, 1, 1] [] hx rfl (by decide) rfl rfl rfl rfl (le_upd (le_upd (le_top _) (o1 (.ref rfl))) (o1 .sc)) (ac (qo rfl) (ac (.none _) (ac (.cells id (all2_row _)) an)))) (AW.seq (AW.region ?_))
 refine s_move (d := (rf 0 0)) rfl (s_move (d := (st_ a1)) rfl ?_)
 obtain ⟨r1, er1, h⟩ := bnd h
 refine cc [0, 2] [(o_dossierref03_Disk_0 false (C.own 2 0 p0.L.length 3) p0), none, (or_ e_dossierref03_File p0.L)] (D.tup [(si r1.1), (sb r1.2)]) F.ca_57 rfl rfl (ac (.one (.ref rfl)) (ac (.one .sc) an)) (ac (.cells (ac (.own rfl) (ac .sc (ac .sc (ac .sc an))))) (ac (.cells (lend_row _)) an)) (dossierref03_Disk_place.meets _ p0 a1 r1 er1) (s_move (d := (D.tup [(si r1.1), (sb r1.2)])) rfl (s_extract (d := (si r1.1)) rfl rfl (s_extract (d := (sb r1.2)) rfl rfl (s_assign (d := (si r1.1)) rfl (s_assign (d := (sb r1.2)) rfl (AWops.nil ?_))))))
 refine AW.weak (st' := ⟨31, (upd 31 (upd 31 (upd 31 (upd 31 (upd 31 (upd 31 (upd 31 (upd 31 (upd 31 (upd 31 topF 0 (rf 0 0)) 1 (st_ a1)) 4 (si r1.1)) 5 (sb r1.2)) 6 (D.tup [(si r1.1), (sb r1.2)])) 7 (rf 0 0)) 8 (st_ a1)) 9 (D.tup [(si r1.1), (sb r1.2)])) 10 (si r1.1)) 11 (sb r1.2)), [(some (AObj.cells false (c_dossierref03_Disk p0))), none]⟩) (wg 2 [0, 1] [2] hx (le_upd (le_upd (le_upd (le_upd (le_upd (le_upd (le_upd (le_upd (le_upd (le_upd (le_top _) (o1 (.ref rfl))) (o1 .sc)) (o1 .sc)) (o1 .sc)) (DLe.tup (ac (TLe.one .sc) (ac (TLe.one .sc) an)))) (o1 (.ref rfl))) (o1 .sc)) (DLe.tup (ac (TLe.one .sc) (ac (TLe.one .sc) an)))) (o1 .sc)) (o1 .sc)) (ac (.cells id (ac (CLe.frz e_dossierref03_File_len rfl rfl rfl) (ac .sc (ac .sc (ac .sc an))))) (ac (.none _) an))) ?_
 refine AW.weak (st' := ⟨31, (upd 31 (upd 31 topF 0 (rf 0 0)) 4 (si r1.1)), [(some (AObj.cells false (c_dossierref03_Disk p0))), none]⟩) (wg 2 [0, 1] [] hx (le_upd (le_upd (le_top _) (o1 (.ref rfl))) (o1 .sc)) (ac (.cells id (ac .same (ac .sc (ac .sc (ac .sc an))))) (ac (.none _) an))) ?_
 obtain ⟨c2, h⟩ := gdH h
 have dc2 := of_decide_eq_true c2
 obtain ⟨c3, h⟩ := gdH h
 have dc3 := of_decide_eq_true c3
 obtain ⟨c4, h⟩ := gdH h
 have dc4 := of_decide_eq_true c4
 obtain ⟨c5, h⟩ := gdH h
 have dc5 := of_decide_eq_true c5
 refine AW.draw (n := 31) (L := 5) [(ft 0 12 (rf 0 0) [(0, (rf 0 0))]), (1, ⟨some 13, (D.one (C.own 2 0 (([] : List dossierref03_File).length) 3)), [], [], [(2, (some (AObj.cells true (rowC e_dossierref03_File ([] : List dossierref03_File)))))], some 2⟩), (ft 2 14 (rf 0 0) [(0, (rf 0 0))]), (ft 3 15 (rf 0 0) [(14, (rf 0 0))]), (ft 4 16 (rf 0 0) [(15, (rf 0 0))]), (5, ⟨some 17, (D.one (C.p false (.sl p0.L.length (p0.L.flatMap e_dossierref03_File)))), [(16, (rf 0 0))], [(0, (some (AObj.cells false (c_dossierref03_Disk p0))))], [], none⟩), (ft 6 18 (si r1.1) [(4, (si r1.1))]), (ft 7 19 (D.one (C.p false (.sl (sub p0.L 0 r1.1).length ((sub p0.L 0 r1.1).flatMap e_dossierref03_File)))) [(17, (D.one (C.p false (.sl p0.L.length (p0.L.flatMap e_dossierref03_File))))), (18, (si r1.1))]), (8, ⟨some 20, (D.one (C.own 3 0 ((sub p0.L 0 r1.1).length) 3)), [(13, (D.one (C.own 2 0 (([] : List dossierref03_File).length) 3))), (19, (D.one (C.p false (.sl (sub p0.L 0 r1.1).length ((sub p0.L 0 r1.1).flatMap e_dossierref03_File)))))], [(2, (some (AObj.cells true (rowC e_dossierref03_File ([] : List dossierref03_File)))))], [(2, none), (3, (some (AObj.cells true (rowC e_dossierref03_File (sub p0.L 0 r1.1)))))], some 3⟩), (ft 9 21 (rf 0 0) [(0, (rf 0 0))]), (ft 10 22 (rf 0 0) [(21, (rf 0 0))]), (ft 11 23 (rf 0 0) [(22, (rf 0 0))]), (12, ⟨some 24, (D.one (C.p false (.sl p0.L.length (p0.L.flatMap e_dossierref03_File)))), [(23, (rf 0 0))], [(0, (some (AObj.cells false (c_dossierref03_Disk p0))))], [], none⟩), (ft 13 25 (si r1.1) [(4, (si r1.1))]), (ft 14 26 (si (IntKind.i64.wrap (r1.1 + 1))) [(25, (si r1.1))]), (ft 15 27 (D.one (C.p false (.sl (sub p0.L (IntKind.i64.wrap (r1.1 + 1)) (p0.L.length : Int)).length ((sub p0.L (IntKind.i64.wrap (r1.1 + 1)) (p0.L.length : Int)).flatMap e_dossierref03_File)))) [(24, (D.one (C.p false (.sl p0.L.length (p0.L.flatMap e_dossierref03_File))))), (26, (si (IntKind.i64.wrap (r1.1 + 1))))]), (16, ⟨some 28, (D.one (C.own 4 0 (((sub p0.L 0 r1.1) ++ (sub p0.L (IntKind.i64.wrap (r1.1 + 1)) (p0.L.length : Int))).length) 3)), [(20, (D.one (C.own 3 0 ((sub p0.L 0 r1.1).length) 3))), (27, (D.one (C.p false (.sl (sub p0.L (IntKind.i64.wrap (r1.1 + 1)) (p0.L.length : Int)).length ((sub p0.L (IntKind.i64.wrap (r1.1 + 1)) (p0.L.length : Int)).flatMap e_dossierref03_File)))))], [(3, (some (AObj.cells true (rowC e_dossierref03_File (sub p0.L 0 r1.1)))))], [(3, none), (4, (some (AObj.cells true (rowC e_dossierref03_File ((sub p0.L 0 r1.1) ++ (sub p0.L (IntKind.i64.wrap (r1.1 + 1)) (p0.L.length : Int)))))))], some 4⟩), (ft 17 29 (rf 0 0) [(12, (rf 0 0))]), (ft 18 30 (rf 0 0) [(29, (rf 0 0))]), (19, ⟨none, (D.one C.top), [(28, (D.one (C.own 4 0 (((sub p0.L 0 r1.1) ++ (sub p0.L (IntKind.i64.wrap (r1.1 + 1)) (p0.L.length : Int))).length) 3))), (30, (rf 0 0))], [(0, (some (AObj.cells false (c_dossierref03_Disk p0))))], [(0, (o_dossierref03_Disk_0 false (C.own 4 0 (((sub p0.L 0 r1.1) ++ (sub p0.L (IntKind.i64.wrap (r1.1 + 1)) (p0.L.length : Int))).length) 3) p0))], none⟩)] [[], [], [], [2], [2, 3], [2, 3, 4], [], [2, 3, 4, 5, 6], [1, 2, 3, 4, 5, 6, 7], [], [9], [9, 10], [9, 10, 11], [], [13], [9, 10, 11, 12, 13, 14], [1, 2, 3, 4, 5, 6, 7, 8, 9, 10, 11, 12, 13, 14, 15], (.range 17), (.range 18), (.range 19)] (nl rfl) [0, 0, 0, 1, 2, 3, 0, 4, 5, 0, 1, 2, 3, 0, 1, 4, 6, 7, 8, 9] rfl (TK := [(1, 2), (8, 3), (16, 4)]) rfl (AllK.cons' ⟨(tk_upd (tk_upd tk_top rfl) rfl), (tC rfl (tC rfl AllT.nil')), (by repeat (first | refine fC (.inl rfl) ?_ | refine fC (.inr rfl) ?_ | refine fC (.inr (by unfold tkFoot; simp only [List.all_cons, List.all_nil, tkO_row, Bool.and_true, Bool.true_and]; rfl)) ?_ | trivial))⟩ (AllK.cons' ⟨(tk_upd (tk_upd tk_top rfl) rfl), (tC rfl (tC rfl AllT.nil')), (by repeat (first | refine fC (.inl rfl) ?_ | refine fC (.inr rfl) ?_ | refine fC (.inr (by unfold tkFoot; simp only [List.all_cons, List.all_nil, tkO_row, Bool.and_true, Bool.true_and]; rfl)) ?_ | trivial))⟩ (AllK.cons' ⟨(tk_upd (tk_upd tk_top rfl) rfl), (tC rfl (tC rfl AllT.nil')), (by repeat (first | refine fC (.inl rfl) ?_ | refine fC (.inr rfl) ?_ | refine fC (.inr (by unfold tkFoot; simp only [List.all_cons, List.all_nil, tkO_row, Bool.and_true, Bool.true_and]; rfl)) ?_ | trivial))⟩ AllK.nil'))) (by repeat (first | refine fC ⟨?_, ?_⟩ ?_ | refine sC rfl ?_ | refine hC rfl ?_ | trivial)) ?_ ?_
 ·refine y8 ?_ ?_ ?_ ?_ ?_ ?_ ?_ ?_ (y8 ?_ ?_ ?_ ?_ ?_ ?_ ?_ ?_ (y4 ?_ ?_ ?_ ?_ yN))
  ·intro K _ f w u k
   show Wp K ⟨31, (upd 31 f 0 (rf 0 0)), _⟩
   refine s_move (d := (rf 0 0)) rfl k
  ·intro K _ f w u k
   show Wp K ⟨31, f, [_, _, _, _, _]⟩
   refine s_buildSlice (n := 0) (ps := []) (cs := rowC e_dossierref03_File ([] : List dossierref03_File)) F.u_70 F.sz_82 F.z_82 rfl rfl (by decide) (by decide) rfl rfl ?_
   refine AWops.weak (st' := ⟨31, (upd 31 f 13 (D.one (C.own 2 0 (([] : List dossierref03_File).length) 3))), [(w 0), (w 1), (some (AObj.cells true (rowC e_dossierref03_File ([] : List dossierref03_File)))), (w 3), (w 4)]⟩) (wg 2 [0, 1, 5, 3, 4] [] hx (le_upd2 (le_ok (p := 2) (L := 5) rfl (u 2 rfl).1) (o1 (.own rfl))) (ac (oq 2 5 (u 2 rfl) 0) (ac (oq 2 5 (u 2 rfl) 1) (ac (.cells (fun _ => rfl) (all2_row _)) (ac (oq 2 5 (u 2 rfl) 3) (ac (oq 2 5 (u 2 rfl) 4) an)))))) k
  ·intro K _ f w u k
   show Wp K ⟨31, (upd 31 f 0 (rf 0 0)), _⟩
   refine s_move (d := (rf 0 0)) rfl k
  ·intro K _ f w u k
   show Wp K ⟨31, (upd 31 f 14 (rf 0 0)), [_, _, _, _, _]⟩
   refine s_nilCheck (d := (rf 0 0)) rfl (.inl ⟨_, _, rfl⟩) k
  ·intro K _ f w u k
   show Wp K ⟨31, (upd 31 f 15 (rf 0 0)), [_, _, _, _, _]⟩
   refine s_fieldRef F.fo_72_0 (by decide) rfl k
  ·intro K _ f w u k
   show Wp K ⟨31, (upd 31 f 16 (rf 0 0)), [(some (AObj.cells false (c_dossierref03_Disk p0))), _, _, _, _]⟩
   refine s_load1 (c' := (C.p false (.sl p0.L.length (p0.L.flatMap e_dossierref03_File)))) F.ag_70 rfl rfl k
  ·intro K _ f w u k
   show Wp K ⟨31, (upd 31 f 4 (si r1.1)), _⟩
   refine s_move (d := (si r1.1)) rfl k
  ·intro K _ f w u k
   show Wp K ⟨31, (upd 31 (upd 31 f 18 (si r1.1)) 17 (D.one (C.p false (.sl p0.L.length (p0.L.flatMap e_dossierref03_File))))), [_, _, _, _, _]⟩
   refine t_sliceImm (a := 0) (b := r1.1) F.u_70 F.sz_82 e_dossierref03_File_len rfl (by omega) (by omega) (by omega) .no (.yes rfl (by omega) rfl) k
  ·intro K _ f w u k
   show Wp K ⟨31, (upd 31 (upd 31 f 19 (D.one (C.p false (.sl (sub p0.L 0 r1.1).length ((sub p0.L 0 r1.1).flatMap e_dossierref03_File))))) 13 (D.one (C.own 2 0 (([] : List dossierref03_File).length) 3))), [_, _, (some (AObj.cells true (rowC e_dossierref03_File ([] : List dossierref03_File)))), _, _]⟩
   refine t_append (xs := ([] : List dossierref03_File)) (ys := sub p0.L 0 r1.1) (zs := sub p0.L 0 r1.1) (H' := [(w 0), (w 1), none, (w 3), (w 4), (some (AObj.cells true (rowC e_dossierref03_File (sub p0.L 0 r1.1))))]) F.u_70 F.in_82 rfl e_dossierref03_File_len (.own rfl rfl) .imm F.u_70 (by omega) (by omega) rfl rfl ?_
   refine AWops.weak (st' := ⟨31, (upd 31 (upd 31 (upd 31 f 19 (D.one (C.p false (.sl (sub p0.L 0 r1.1).length ((sub p0.L 0 r1.1).flatMap e_dossierref03_File))))) 13 (D.one (C.own 2 0 (([] : List dossierref03_File).length) 3))) 20 (D.one (C.own 3 0 ((sub p0.L 0 r1.1).length) 3))), [(w 0), (w 1), none, (some (AObj.cells true (rowC e_dossierref03_File (sub p0.L 0 r1.1)))), (w 4)]⟩) (wg 2 [0, 1, 2, 5, 4] [] hx (le_upd2 (le_ok (p := 3) (L := 5) rfl (u 3 rfl).1) (o1 (.own rfl))) (ac (oq 3 5 (u 3 rfl) 0) (ac (oq 3 5 (u 3 rfl) 1) (ac (.none _) (ac (.cells (fun _ => rfl) (all2_row _)) (ac (oq 3 5 (u 3 rfl) 4) an)))))) k
  ·intro K _ f w u k
   show Wp K ⟨31, (upd 31 f 0 (rf 0 0)), _⟩
   refine s_move (d := (rf 0 0)) rfl k
  ·intro K _ f w u k
   show Wp K ⟨31, (upd 31 f 21 (rf 0 0)), [_, _, _, _, _]⟩
   refine s_nilCheck (d := (rf 0 0)) rfl (.inl ⟨_, _, rfl⟩) k
  ·intro K _ f w u k
   show Wp K ⟨31, (upd 31 f 22 (rf 0 0)), [_, _, _, _, _]⟩
   refine s_fieldRef F.fo_72_0 (by decide) rfl k
  ·intro K _ f w u k
   show Wp K ⟨31, (upd 31 f 23 (rf 0 0)), [(some (AObj.cells false (c_dossierref03_Disk p0))), _, _, _, _]⟩
   refine s_load1 (c' := (C.p false (.sl p0.L.length (p0.L.flatMap e_dossierref03_File)))) F.ag_70 rfl rfl k
  ·intro K _ f w u k
   show Wp K ⟨31, (upd 31 f 4 (si r1.1)), _⟩
   refine s_move (d := (si r1.1)) rfl k
  ·intro K _ f w u k
   show Wp K ⟨31, (upd 31 f 25 (si r1.1)), _⟩
   refine s_binI (v := (.int .i64 (IntKind.i64.wrap (r1.1 + 1)))) rfl rfl rfl k
  ·intro K _ f w u k
   show Wp K ⟨31, (upd 31 (upd 31 f 26 (si (IntKind.i64.wrap (r1.1 + 1)))) 24 (D.one (C.p false (.sl p0.L.length (p0.L.flatMap e_dossierref03_File))))), [_, _, _, _, _]⟩
   refine t_sliceImm (a := IntKind.i64.wrap (r1.1 + 1)) (b := (p0.L.length : Int)) F.u_70 F.sz_82 e_dossierref03_File_len rfl (by omega) (by omega) (by omega) (.yes rfl (by omega) rfl) .no k
  ·intro K _ f w u k
   show Wp K ⟨31, (upd 31 (upd 31 f 27 (D.one (C.p false (.sl (sub p0.L (IntKind.i64.wrap (r1.1 + 1)) (p0.L.length : Int)).length ((sub p0.L (IntKind.i64.wrap (r1.1 + 1)) (p0.L.length : Int)).flatMap e_dossierref03_File))))) 20 (D.one (C.own 3 0 ((sub p0.L 0 r1.1).length) 3))), [_, _, _, (some (AObj.cells true (rowC e_dossierref03_File (sub p0.L 0 r1.1)))), _]⟩
   refine t_append (xs := sub p0.L 0 r1.1) (ys := sub p0.L (IntKind.i64.wrap (r1.1 + 1)) (p0.L.length : Int)) (zs := (sub p0.L 0 r1.1) ++ (sub p0.L (IntKind.i64.wrap (r1.1 + 1)) (p0.L.length : Int))) (H' := [(w 0), (w 1), (w 2), none, (w 4), (some (AObj.cells true (rowC e_dossierref03_File ((sub p0.L 0 r1.1) ++ (sub p0.L (IntKind.i64.wrap (r1.1 + 1)) (p0.L.length : Int))))))]) F.u_70 F.in_82 rfl e_dossierref03_File_len (.own rfl rfl) .imm F.u_70 (by omega) (by omega) rfl rfl ?_
   refine AWops.weak (st' := ⟨31, (upd 31 (upd 31 (upd 31 f 27 (D.one (C.p false (.sl (sub p0.L (IntKind.i64.wrap (r1.1 + 1)) (p0.L.length : Int)).length ((sub p0.L (IntKind.i64.wrap (r1.1 + 1)) (p0.L.length : Int)).flatMap e_dossierref03_File))))) 20 (D.one (C.own 3 0 ((sub p0.L 0 r1.1).length) 3))) 28 (D.one (C.own 4 0 (((sub p0.L 0 r1.1) ++ (sub p0.L (IntKind.i64.wrap (r1.1 + 1)) (p0.L.length : Int))).length) 3))), [(w 0), (w 1), (w 2), none, (some (AObj.cells true (rowC e_dossierref03_File ((sub p0.L 0 r1.1) ++ (sub p0.L (IntKind.i64.wrap (r1.1 + 1)) (p0.L.length : Int))))))]⟩) (wg 2 [0, 1, 2, 3, 5] [] hx (le_upd2 (le_ok (p := 4) (L := 5) rfl (u 4 rfl).1) (o1 (.own rfl))) (ac (oq 4 5 (u 4 rfl) 0) (ac (oq 4 5 (u 4 rfl) 1) (ac (oq 4 5 (u 4 rfl) 2) (ac (.none _) (ac (.cells (fun _ => rfl) (all2_row _)) an)))))) k
  ·intro K _ f w u k
   show Wp K ⟨31, (upd 31 f 12 (rf 0 0)), [_, _, _, _, _]⟩
   refine s_nilCheck (d := (rf 0 0)) rfl (.inl ⟨_, _, rfl⟩) k
  ·intro K _ f w u k
   show Wp K ⟨31, (upd 31 f 29 (rf 0 0)), [_, _, _, _, _]⟩
   refine s_fieldRef F.fo_72_0 (by decide) rfl k
  ·intro K _ f w u k
   show Wp K ⟨31, (upd 31 (upd 31 f 30 (rf 0 0)) 28 (D.one (C.own 4 0 (((sub p0.L 0 r1.1) ++ (sub p0.L (IntKind.i64.wrap (r1.1 + 1)) (p0.L.length : Int))).length) 3))), [(some (AObj.cells false (c_dossierref03_Disk p0))), _, _, _, _]⟩
   refine s_store (cs' := [(C.own 4 0 (((sub p0.L 0 r1.1) ++ (sub p0.L (IntKind.i64.wrap (r1.1 + 1)) (p0.L.length : Int))).length) 3), (ci p0.Most), (ci p0.Burns), (cb p0.Off)]) rfl rfl rfl (List.cons_ne_nil _ _) rfl F.sz_70 (nl rfl) rfl k
 ·refine AWops.weak (st' := ⟨31, topF, [(o_dossierref03_Disk_0 false (C.own 2 0 (((sub p0.L 0 r1.1) ++ (sub p0.L (IntKind.i64.wrap (r1.1 + 1)) (p0.L.length : Int))).length) 3) p0), none, (some (AObj.cells true (rowC e_dossierref03_File ((sub p0.L 0 r1.1) ++ (sub p0.L (IntKind.i64.wrap (r1.1 + 1)) (p0.L.length : Int))))))]⟩) (wg 2 [0, 1, 4] [] hx (le_top _) (ac (qo rfl) (ac (.none _) (ac (.cells (fun _ => rfl) (all2_row _)) an)))) (AWops.nil ?_)
  obtain rfl := Option.some.inj h
  exact ⟨_, rfl, (wg 2 [0, 1, 2] [] rfl (le_upd (le_top _) (DLe.tup an)) (ac (qo rfl) (ac (.none _) (ac (.cells (fun _ => rfl) (all2_row _)) an))))⟩
mutual
def dossierref03_Disk_Rename_40.j0 : Nat → Int → Int → Bool → (List dossierref03_File) → Int → ByteArray → ByteArray → (dossierref03_File × Int) → Option (Int × dossierref03_Disk)
 | 0, _, _, _, _, _, _, _, _ => none
 | k + 1, x6, x7, x8, x9, x10, a1, a2, r3 => if (x10 == 0) = true then ((dossierref03_Disk_cut_59.f k (⟨x9, x6, x7, x8⟩ : dossierref03_Disk) a1).bind fun r12 => (dossierref03_Disk_set_58.f k r12 (⟨a2, r3.1.B, r3.1.Sure⟩ : dossierref03_File)).bind fun r13 => some (x10, r13)) else (some (x10, (⟨x9, x6, x7, x8⟩ : dossierref03_Disk)))
end
def dossierref03_Disk_Rename_40.f (k : Nat) (p0 : dossierref03_Disk) (a1 : ByteArray) (a2 : ByteArray) : Option (Int × dossierref03_Disk) := (dossierref03_named.f k a2).bind fun r1 => if r1 = true then ((dossierref03_Disk_there.f k p0 a1).bind fun r3 => if (r3.2 == 0) = true then ((dossierref03_Disk_burn.f k p0).bind fun r5 => dossierref03_Disk_Rename_40.j0 k r5.2.Most r5.2.Burns r5.2.Off r5.2.L r5.1 a1 a2 r3) else (dossierref03_Disk_Rename_40.j0 k p0.Most p0.Burns p0.Off p0.L r3.2 a1 a2 r3)) else (some (1, p0))
theorem dossierref03_Disk_Rename_40.meets (k : Nat) (p0 : dossierref03_Disk) (a1 : ByteArray) (a2 : ByteArray) (r : Int × dossierref03_Disk) (h : dossierref03_Disk_Rename_40.f k p0 a1 a2 = some r) : Meets Try.prog 40 [(rf 0 0), (st_ a1), (st_ a2)] [(o_dossierref03_Disk_0 false (C.own 1 0 p0.L.length 3) p0), (or_ e_dossierref03_File p0.L)] (si r.1) [(o_dossierref03_Disk_0 false (C.own 2 0 r.2.L.length 3) r.2), none, (or_ e_dossierref03_File r.2.L)] := by
 unfold dossierref03_Disk_Rename_40.f at h
 refine Meets.of_body (n := 33) Try.func40 rfl rfl (nl rfl) fun x hx => ?_
 replace hx : x.k = 2 := hx
 show AW _ x _ _ ⟨33, fr0 [(rf 0 0), (st_ a1), (st_ a2)], [(o_dossierref03_Disk_0 false (C.own 1 0 p0.L.length 3) p0), (or_ e_dossierref03_File p0.L)]⟩
 refine AW.weak (st' := ⟨33, (upd 33 (upd 33 (upd 33 topF 0 (rf 0 0)) 1 (st_ a1)) 2 (st_ a2)), [(o_dossierref03_Disk_0 false (C.own 2 0 p0.L.length 3) p0), none, (or_ e_dossierref03_File p0.L)]⟩) (Weak.genL (kk := 2) [0, 1, 1] [] hx rfl (by decide) rfl rfl rfl rfl (le_upd (le_upd (le_upd (le_top _) (o1 (.ref rfl))) (o1 .sc)) (o1 .sc)) (ac (qo rfl) (ac (.none _) (ac (.cells id (all2_row _)) an)))) (AW.seq (AW.region ?_))
 refine s_assign (d := (si 0)) rfl (AWops.nil (AW.seq (AW.seq (AW.region ?_))))
 refine s_move (d := (st_ a2)) rfl ?_
 obtain ⟨r1, er1, h⟩ := bnd h
 refine cc [] [(o_dossierref03_Disk_0 false (C.own 2 0 p0.L.length 3) p0), none, (or_ e_dossierref03_File p0.L)] (sb r1) F.ca_55 rfl rfl (ac (.one .sc) an) an (dossierref03_named.meets _ a2 r1 er1) (s_not rfl (AWops.nil ?_))
 rcases itH h with ⟨c2, h⟩ | ⟨c2, h⟩
 ·refine AW.cond_no rfl (by rw [c2] <;> rfl) (AW.skip (AW.seq (AW.region ?_)))
  refine s_move (d := (rf 0 0)) rfl (s_move (d := (st_ a1)) rfl ?_)
  obtain ⟨r3, er3, h⟩ := bnd h
  refine cc [0, 2] [(o_dossierref03_Disk_0 false (C.own 2 0 p0.L.length 3) p0), none, (or_ e_dossierref03_File p0.L)] (D.tup [(D.agg (c_dossierref03_File r3.1)), (si r3.2)]) F.ca_53 rfl rfl (ac (.one (.ref rfl)) (ac (.one .sc) an)) (ac (.cells (ac (.own rfl) (ac .sc (ac .sc (ac .sc an))))) (ac (.cells (lend_row _)) an)) (dossierref03_Disk_there.meets _ p0 a1 r3 er3) (s_move (d := (D.tup [(D.agg (c_dossierref03_File r3.1)), (si r3.2)])) rfl (s_extract (d := (D.agg (c_dossierref03_File r3.1))) rfl rfl (s_extract (d := (si r3.2)) rfl rfl (s_alloc (cs := [(ct (⟨#[]⟩ : ByteArray)), (C.p true (.v (.slice none 0 0))), (ci 0)]) F.z_82 rfl rfl (s_store (cs' := (c_dossierref03_File r3.1)) rfl rfl rfl (List.cons_ne_nil _ _) rfl F.sz_82 (nl rfl) rfl ?_)))))
  refine s_assign (d := (si r3.2)) rfl (AWops.nil ?_)
  refine AW.seqJ (fun st => ∃ (x6 : Int) (x7 : Int) (x8 : Bool) (x9 : List dossierref03_File) (x10 : Int), dossierref03_Disk_Rename_40.j0 k x6 x7 x8 x9 x10 a1 a2 r3 = some r ∧ st = ⟨33, (upd 33 (upd 33 (upd 33 (upd 33 (upd 33 topF 0 (rf 0 0)) 1 (st_ a1)) 2 (st_ a2)) 7 (rf 2 0)) 8 (si x10)), [(some (AObj.cells false [(C.own 3 0 x9.length 3), (ci x6), (ci x7), (cb x8)])), none, (some (AObj.cells true (c_dossierref03_File r3.1))), (or_ e_dossierref03_File x9)]⟩) ?_ ?_
  ·refine AW.seq (AW.region ?_)
   refine s_move (d := (si r3.2)) rfl (s_binI (v := (.bool (r3.2 == 0))) rfl rfl rfl (AWops.nil ?_))
   rcases itH h with ⟨c4, h⟩ | ⟨c4, h⟩
   ·refine AW.cond_yes rfl c4 (AW.region ?_)
    refine s_move (d := (rf 0 0)) rfl ?_
    obtain ⟨r5, er5, h⟩ := bnd h
    refine cc [0, 2] [(o_dossierref03_Disk_0 false (C.own 2 0 r5.2.L.length 3) r5.2), none, (or_ e_dossierref03_File r5.2.L), (some (AObj.cells true (c_dossierref03_File r3.1)))] (si r5.1) F.ca_56 rfl rfl (ac (.one (.ref rfl)) an) (ac (.cells (ac (.own rfl) (ac .sc (ac .sc (ac .sc an))))) (ac (.cells (lend_row _)) an)) (dossierref03_Disk_burn.meets _ p0 r5 er5) (s_assign (d := (si r5.1)) rfl (AWops.nil ?_))
    exact ⟨⟨33, (upd 33 (upd 33 (upd 33 (upd 33 (upd 33 topF 0 (rf 0 0)) 1 (st_ a1)) 2 (st_ a2)) 7 (rf 2 0)) 8 (si r5.1)), [(some (AObj.cells false [(C.own 3 0 r5.2.L.length 3), (ci r5.2.Most), (ci r5.2.Burns), (cb r5.2.Off)])), none, (some (AObj.cells true (c_dossierref03_File r3.1))), (or_ e_dossierref03_File r5.2.L)]⟩, (wg 2 [0, 1, 3, 2] [] hx (le_upd (le_upd (le_upd (le_upd (le_upd (le_top _) (o1 (.ref rfl))) (o1 .sc)) (o1 .sc)) (o1 (.ref rfl))) (o1 .sc)) (ac (qo rfl) (ac (.none _) (ac (.cells (fun _ => rfl) (ac .sc (ac .same (ac .sc an)))) (ac (.cells id (all2_row _)) an))))), r5.2.Most, r5.2.Burns, r5.2.Off, r5.2.L, r5.1, h, rfl⟩
   ·refine AW.cond_no rfl c4 (AW.skip ?_)
    exact ⟨⟨33, (upd 33 (upd 33 (upd 33 (upd 33 (upd 33 topF 0 (rf 0 0)) 1 (st_ a1)) 2 (st_ a2)) 7 (rf 2 0)) 8 (si r3.2)), [(some (AObj.cells false [(C.own 3 0 p0.L.length 3), (ci p0.Most), (ci p0.Burns), (cb p0.Off)])), none, (some (AObj.cells true (c_dossierref03_File r3.1))), (or_ e_dossierref03_File p0.L)]⟩, (wg 2 [0, 1, 3, 2] [] hx (le_upd (le_upd (le_upd (le_upd (le_upd (le_top _) (o1 (.ref rfl))) (o1 .sc)) (o1 .sc)) (o1 (.ref rfl))) (o1 .sc)) (ac (qo rfl) (ac (.none _) (ac (.cells (fun _ => rfl) (ac .sc (ac .same (ac .sc an)))) (ac (.cells id (all2_row _)) an))))), p0.Most, p0.Burns, p0.Off, p0.L, r3.2, h, rfl⟩
  ·rintro st ⟨x6, x7, x8, x9, x10, h, rfl⟩
   cases k with
   | zero => exact absurd h (by simp [dossierref03_Disk_Rename_40.j0])
   | succ qj0 =>
    replace h := (dossierref03_Disk_Rename_40.j0.eq_2 _ _ _ _ _ _ _ _ _).symm.trans h
    refine AW.seq (AW.seq (AW.region ?_))
    refine s_move (d := (si x10)) rfl (s_binI (v := (.bool (x10 == 0))) rfl rfl rfl (AWops.nil ?_))
    rcases itH h with ⟨c11, h⟩ | ⟨c11, h⟩
    ·refine AW.cond_yes rfl c11 (AW.seq (AW.region ?_))
     refine s_move (d := (rf 0 0)) rfl (s_move (d := (st_ a1)) rfl ?_)
     obtain ⟨r12, er12, h⟩ := bnd h
     refine cc [0, 3] [(o_dossierref03_Disk_0 false (C.own 4 0 r12.L.length 3) r12), none, (some (AObj.cells true (c_dossierref03_File r3.1))), none, (or_ e_dossierref03_File r12.L)] (D.tup []) F.ca_59 rfl rfl (ac (.one (.ref rfl)) (ac (.one .sc) an)) (ac (.cells (ac (.own rfl) (ac .sc (ac .sc (ac .sc an))))) (ac (.cells (lend_row _)) an)) (dossierref03_Disk_cut_59.meets _ (⟨x9, x6, x7, x8⟩ : dossierref03_Disk) a1 r12 er12) (AWops.nil (AW.seq (AW.region ?_)))
     refine s_move (d := (st_ a2)) rfl (s_fieldRef F.fo_82_0 (by decide) rfl (s_store (cs' := [(ct a2), (C.p false (.sl r3.1.B.length (r3.1.B.flatMap e_u8))), (ci r3.1.Sure)]) rfl rfl rfl (List.cons_ne_nil _ _) rfl F.sz_9 (nl rfl) rfl (AWops.nil (AW.region (s_move (d := (rf 0 0)) rfl (s_loadN (ds := [(ct a2), (C.p false (.sl r3.1.B.length (r3.1.B.flatMap e_u8))), (ci r3.1.Sure)]) F.ag_82 F.sz_82 rfl rfl rfl ?_))))))
     obtain ⟨r13, er13, h⟩ := bnd h
     refine cc [0, 4] [(o_dossierref03_Disk_0 false (C.own 5 0 r13.L.length 3) r13), none, (some (AObj.cells true [(ct a2), (C.p false (.sl r3.1.B.length (r3.1.B.flatMap e_u8))), (ci r3.1.Sure)])), none, none, (or_ e_dossierref03_File r13.L)] (D.tup []) F.ca_58 rfl rfl (ac (.one (.ref rfl)) (ac (LendT.aggL (ac .sc (ac .imm (ac .sc an)))) an)) (ac (.cells (ac (.own rfl) (ac .sc (ac .sc (ac .sc an))))) (ac (.cells (lend_row _)) an)) (dossierref03_Disk_set_58.meets _ r12 (⟨a2, r3.1.B, r3.1.Sure⟩ : dossierref03_File) r13 er13) (AWops.nil (AW.seq (AW.region ?_)))
     refine s_move (d := (si x10)) rfl (s_assign (d := (si x10)) rfl (AWops.nil (AW.ret ?_)))
     obtain rfl := Option.some.inj h
     exact ⟨_, rfl, (wg 2 [0, 1, 5] [] rfl (le_upd (le_top _) (o1 .sc)) (ac (qo rfl) (ac (.none _) (ac (.cells id (all2_row _)) an))))⟩
    ·refine AW.cond_no rfl c11 (AW.skip (AW.seq (AW.region ?_)))
     refine s_move (d := (si x10)) rfl (s_assign (d := (si x10)) rfl (AWops.nil (AW.ret ?_)))
     obtain rfl := Option.some.inj h
     exact ⟨_, rfl, (wg 2 [0, 1, 3] [] rfl (le_upd (le_top _) (o1 .sc)) (ac (qo rfl) (ac (.none _) (ac (.cells id (all2_row _)) an))))⟩
 ·refine AW.cond_yes rfl (by rw [c2] <;> rfl) (AW.seq (AW.region ?_))
  refine s_assign (d := (si 1)) rfl (AWops.nil (AW.ret ?_))
  obtain rfl := Option.some.inj h
  exact ⟨_, rfl, (wg 2 [0, 1, 2] [] rfl (le_upd (le_top _) (o1 .sc)) (ac (qo rfl) (ac (.none _) (ac (.cells id (all2_row _)) an))))⟩
def vdisk_Disk_Truncate.f (k : Nat) (p0 : vdisk_Disk) (a1 : ByteArray) (a2 : Int) : Option (Int × vdisk_Disk) := (vdisk_Disk_change.f k p0 (decide (a2 ≥ 0)) a1 false 0).bind fun r1 => if (r1 == 0) = true then (if (decide (0 ≤ (if (((lk_vdisk_file a1 p0.files).b).length : Int) < a2 then (((lk_vdisk_file a1 p0.files).b).length : Int) else a2) ∧ (if (((lk_vdisk_file a1 p0.files).b).length : Int) < a2 then (((lk_vdisk_file a1 p0.files).b).length : Int) else a2) ≤ (((lk_vdisk_file a1 p0.files).b).length : Int))) = true then ((vdisk_Disk_set.f k p0 a1 (⟨sub ((lk_vdisk_file a1 p0.files).b) 0 (if (((lk_vdisk_file a1 p0.files).b).length : Int) < a2 then (((lk_vdisk_file a1 p0.files).b).length : Int) else a2), (if ((lk_vdisk_file a1 p0.files).sure) < (if (((lk_vdisk_file a1 p0.files).b).length : Int) < a2 then (((lk_vdisk_file a1 p0.files).b).length : Int) else a2) then ((lk_vdisk_file a1 p0.files).sure) else (if (((lk_vdisk_file a1 p0.files).b).length : Int) < a2 then (((lk_vdisk_file a1 p0.files).b).length : Int) else a2))⟩ : vdisk_file)).bind fun r4 => some (r1, r4)) else none) else (some (r1, p0))
theorem vdisk_Disk_Truncate.meets (k : Nat) (p0 : vdisk_Disk) (a1 : ByteArray) (a2 : Int) (r : Int × vdisk_Disk) (h : vdisk_Disk_Truncate.f k p0 a1 a2 = some r) : Meets Try.prog 19 [(rf 0 0), (st_ a1), (si a2)] [(o_vdisk_Disk_03 false (C.mp 1) (C.p true (.v (.pointer none))) p0), (om_ e_vdisk_file p0.files)] (si r.1) [(o_vdisk_Disk_03 false (C.mp 1) (C.p true (.v (.pointer none))) r.2), (om_ e_vdisk_file r.2.files)] := by
 unfold vdisk_Disk_Truncate.f at h
 refine Meets.of_body (n := 41) Try.func19 rfl rfl (nl rfl) fun x hx => ?_
 replace hx : x.k = 2 := hx
 show AW _ x _ _ ⟨41, fr0 [(rf 0 0), (st_ a1), (si a2)], [(o_vdisk_Disk_03 false (C.mp 1) (C.p true (.v (.pointer none))) p0), (om_ e_vdisk_file p0.files)]⟩
 refine AW.seq (AW.region ?_)
 refine s_assign (d := (si 0)) rfl (AWops.nil (AW.seq (AW.region ?_)))
 refine s_move (d := (rf 0 0)) rfl (s_move (d := (si a2)) rfl (s_binI (v := (.bool (decide (a2 ≥ 0)))) rfl rfl rfl (s_move (d := (st_ a1)) rfl ?_)))
 obtain ⟨r1, er1, h⟩ := bnd h
 refine cc [0, 1] [(o_vdisk_Disk_03 false (C.mp 1) (C.p true (.v (.pointer none))) p0), (om_ e_vdisk_file p0.files)] (si r1) F.ca_31 rfl rfl (ac (.one (.ref rfl)) (ac (.one .sc) (ac (.one .sc) (ac (.one .sc) (ac (.one .sc) an))))) (ac (.cells (ac (.mp rfl) (ac .sc (ac .sc (ac .sc (ac .sc an)))))) (ac .map an)) (vdisk_Disk_change.meets _ p0 (decide (a2 ≥ 0)) a1 false 0 r1 er1) (s_assign (d := (si r1)) rfl (AWops.nil (AW.seq (AW.seq (AW.region (s_move (d := (si r1)) rfl (s_binI (v := (.bool (r1 == 0))) rfl rfl rfl (AWops.nil ?_))))))))
 rcases itH h with ⟨c2, h⟩ | ⟨c2, h⟩
 ·refine AW.cond_yes rfl c2 (AW.seq (AW.region ?_))
  refine s_move (d := (rf 0 0)) rfl (s_nilCheck (d := (rf 0 0)) rfl (.inl ⟨_, _, rfl⟩) (s_fieldRef F.fo_50_0 (by decide) rfl (s_load1 (c' := (C.mp 1)) F.ag_47 rfl rfl (s_move (d := (st_ a1)) rfl (t_lookup (b := true) F.u_47 F.u_9 F.z_65 (z := ((⟨([] : List Int), 0⟩ : vdisk_file) : vdisk_file)) (zs := [(.slice none 0 0), (.int .i64 0)]) rfl (fun h => by cases h) (ac ZRel.n (ac (ZRel.v _ rfl) an)) rfl rfl rfl rfl ?_)))))
  refine s_alloc (cs := [(C.p true (.v (.slice none 0 0))), (ci 0)]) F.z_65 rfl rfl (s_store (cs' := (c_vdisk_file (lk_vdisk_file a1 p0.files))) rfl rfl rfl (List.cons_ne_nil _ _) rfl F.sz_65 (nl rfl) rfl (AWops.nil (AW.seq (AW.region (s_move (d := (si a2)) rfl (s_fieldRef F.fo_65_0 (by decide) rfl (s_load1 (c' := (C.p false (.sl ((lk_vdisk_file a1 p0.files).b).length (((lk_vdisk_file a1 p0.files).b).flatMap e_u8)))) F.ag_22 rfl rfl (s_len (n := ((lk_vdisk_file a1 p0.files).b).length) F.u_22 rfl (.inr ⟨(fun _ _ h => by cases h), ⟨_, rfl⟩⟩) ?_))))))))
  refine s_min2 (r := (if (((lk_vdisk_file a1 p0.files).b).length : Int) < a2 then (((lk_vdisk_file a1 p0.files).b).length : Int) else a2)) rfl rfl rfl (s_assign (d := (si (if (((lk_vdisk_file a1 p0.files).b).length : Int) < a2 then (((lk_vdisk_file a1 p0.files).b).length : Int) else a2))) rfl (AWops.nil ?_))
  refine AW.weak (st' := ⟨41, (upd 41 (upd 41 (upd 41 (upd 41 (upd 41 topF 0 (rf 0 0)) 1 (st_ a1)) 2 (si (if (((lk_vdisk_file a1 p0.files).b).length : Int) < a2 then (((lk_vdisk_file a1 p0.files).b).length : Int) else a2))) 7 (si r1)) 8 (rf 2 0)), [(o_vdisk_Disk_03 false (C.mp 1) (C.p true (.v (.pointer none))) p0), (om_ e_vdisk_file p0.files), (some (AObj.cells true (c_vdisk_file (lk_vdisk_file a1 p0.files))))]⟩) (wg 2 [0, 1, 2] [] hx (le_upd (le_upd (le_upd (le_upd (le_upd (le_top _) (o1 (.ref rfl))) (o1 .sc)) (o1 .sc)) (o1 .sc)) (o1 (.ref rfl))) (ac (qs rfl) (ac .map (ac (.cells (fun _ => rfl) (ac .same (ac .sc an))) an)))) ?_
  obtain ⟨c3, h⟩ := gdH h
  have dc3 := of_decide_eq_true c3
  obtain ⟨r4, er4, h⟩ := bnd h
  refine AW.draw (n := 41) (L := 4) [(ft 0 27 (rf 0 0) [(0, (rf 0 0))]), (ft 1 28 (st_ a1) [(1, (st_ a1))]), (ft 2 29 (rf 2 0) [(8, (rf 2 0))]), (3, ⟨some 30, (D.one (C.p false (.sl ((lk_vdisk_file a1 p0.files).b).length (((lk_vdisk_file a1 p0.files).b).flatMap e_u8)))), [(29, (rf 2 0))], [(2, (some (AObj.cells true (c_vdisk_file (lk_vdisk_file a1 p0.files)))))], [], none⟩), (ft 4 31 (si (if (((lk_vdisk_file a1 p0.files).b).length : Int) < a2 then (((lk_vdisk_file a1 p0.files).b).length : Int) else a2)) [(2, (si (if (((lk_vdisk_file a1 p0.files).b).length : Int) < a2 then (((lk_vdisk_file a1 p0.files).b).length : Int) else a2)))]), (ft 5 32 (si (if (((lk_vdisk_file a1 p0.files).b).length : Int) < a2 then (((lk_vdisk_file a1 p0.files).b).length : Int) else a2)) [(2, (si (if (((lk_vdisk_file a1 p0.files).b).length : Int) < a2 then (((lk_vdisk_file a1 p0.files).b).length : Int) else a2)))]), (ft 6 33 (D.one (C.p false (.sl (sub ((lk_vdisk_file a1 p0.files).b) 0 (if (((lk_vdisk_file a1 p0.files).b).length : Int) < a2 then (((lk_vdisk_file a1 p0.files).b).length : Int) else a2)).length ((sub ((lk_vdisk_file a1 p0.files).b) 0 (if (((lk_vdisk_file a1 p0.files).b).length : Int) < a2 then (((lk_vdisk_file a1 p0.files).b).length : Int) else a2)).flatMap e_u8)))) [(30, (D.one (C.p false (.sl ((lk_vdisk_file a1 p0.files).b).length (((lk_vdisk_file a1 p0.files).b).flatMap e_u8))))), (31, (si (if (((lk_vdisk_file a1 p0.files).b).length : Int) < a2 then (((lk_vdisk_file a1 p0.files).b).length : Int) else a2))), (32, (si (if (((lk_vdisk_file a1 p0.files).b).length : Int) < a2 then (((lk_vdisk_file a1 p0.files).b).length : Int) else a2)))]), (ft 7 34 (si (if (((lk_vdisk_file a1 p0.files).b).length : Int) < a2 then (((lk_vdisk_file a1 p0.files).b).length : Int) else a2)) [(2, (si (if (((lk_vdisk_file a1 p0.files).b).length : Int) < a2 then (((lk_vdisk_file a1 p0.files).b).length : Int) else a2)))]), (ft 8 35 (rf 2 1) [(8, (rf 2 0))]), (9, ⟨some 36, (si ((lk_vdisk_file a1 p0.files).sure)), [(35, (rf 2 1))], [(2, (some (AObj.cells true (c_vdisk_file (lk_vdisk_file a1 p0.files)))))], [], none⟩), (ft 10 37 (si (if ((lk_vdisk_file a1 p0.files).sure) < (if (((lk_vdisk_file a1 p0.files).b).length : Int) < a2 then (((lk_vdisk_file a1 p0.files).b).length : Int) else a2) then ((lk_vdisk_file a1 p0.files).sure) else (if (((lk_vdisk_file a1 p0.files).b).length : Int) < a2 then (((lk_vdisk_file a1 p0.files).b).length : Int) else a2))) [(34, (si (if (((lk_vdisk_file a1 p0.files).b).length : Int) < a2 then (((lk_vdisk_file a1 p0.files).b).length : Int) else a2))), (36, (si ((lk_vdisk_file a1 p0.files).sure)))]), (ft 11 38 (D.agg [(C.p false (.sl (sub ((lk_vdisk_file a1 p0.files).b) 0 (if (((lk_vdisk_file a1 p0.files).b).length : Int) < a2 then (((lk_vdisk_file a1 p0.files).b).length : Int) else a2)).length ((sub ((lk_vdisk_file a1 p0.files).b) 0 (if (((lk_vdisk_file a1 p0.files).b).length : Int) < a2 then (((lk_vdisk_file a1 p0.files).b).length : Int) else a2)).flatMap e_u8))), (ci (if ((lk_vdisk_file a1 p0.files).sure) < (if (((lk_vdisk_file a1 p0.files).b).length : Int) < a2 then (((lk_vdisk_file a1 p0.files).b).length : Int) else a2) then ((lk_vdisk_file a1 p0.files).sure) else (if (((lk_vdisk_file a1 p0.files).b).length : Int) < a2 then (((lk_vdisk_file a1 p0.files).b).length : Int) else a2)))]) [(33, (D.one (C.p false (.sl (sub ((lk_vdisk_file a1 p0.files).b) 0 (if (((lk_vdisk_file a1 p0.files).b).length : Int) < a2 then (((lk_vdisk_file a1 p0.files).b).length : Int) else a2)).length ((sub ((lk_vdisk_file a1 p0.files).b) 0 (if (((lk_vdisk_file a1 p0.files).b).length : Int) < a2 then (((lk_vdisk_file a1 p0.files).b).length : Int) else a2)).flatMap e_u8))))), (37, (si (if ((lk_vdisk_file a1 p0.files).sure) < (if (((lk_vdisk_file a1 p0.files).b).length : Int) < a2 then (((lk_vdisk_file a1 p0.files).b).length : Int) else a2) then ((lk_vdisk_file a1 p0.files).sure) else (if (((lk_vdisk_file a1 p0.files).b).length : Int) < a2 then (((lk_vdisk_file a1 p0.files).b).length : Int) else a2))))]), (12, ⟨some 39, (D.tup []), [(27, (rf 0 0)), (28, (st_ a1)), (38, (D.agg [(C.p false (.sl (sub ((lk_vdisk_file a1 p0.files).b) 0 (if (((lk_vdisk_file a1 p0.files).b).length : Int) < a2 then (((lk_vdisk_file a1 p0.files).b).length : Int) else a2)).length ((sub ((lk_vdisk_file a1 p0.files).b) 0 (if (((lk_vdisk_file a1 p0.files).b).length : Int) < a2 then (((lk_vdisk_file a1 p0.files).b).length : Int) else a2)).flatMap e_u8))), (ci (if ((lk_vdisk_file a1 p0.files).sure) < (if (((lk_vdisk_file a1 p0.files).b).length : Int) < a2 then (((lk_vdisk_file a1 p0.files).b).length : Int) else a2) then ((lk_vdisk_file a1 p0.files).sure) else (if (((lk_vdisk_file a1 p0.files).b).length : Int) < a2 then (((lk_vdisk_file a1 p0.files).b).length : Int) else a2)))]))], [(0, (o_vdisk_Disk_03 false (C.mp 1) (C.p true (.v (.pointer none))) p0)), (1, (om_ e_vdisk_file p0.files))], [(0, (o_vdisk_Disk_03 false (C.mp 1) (C.p true (.v (.pointer none))) r4)), (1, (om_ e_vdisk_file r4.files))], none⟩)] [[], [], [], [2], [], [], [2, 3, 4, 5], [], [], [8], [7, 8, 9], [2, 3, 4, 5, 6, 7, 8, 9, 10], (.range 12)] (nl rfl) [0, 0, 0, 1, 0, 0, 2, 0, 0, 1, 2, 3, 4] rfl (TK := []) rfl AllK.nil' (by repeat (first | refine fC ⟨?_, ?_⟩ ?_ | refine sC rfl ?_ | refine hC rfl ?_ | trivial)) ?_ ?_
  ·refine y8 ?_ ?_ ?_ ?_ ?_ ?_ ?_ ?_ (y4 ?_ ?_ ?_ ?_ (pC ?_ yN))
   ·intro K _ f w u k
    show Wp K ⟨41, (upd 41 f 0 (rf 0 0)), _⟩
    refine s_move (d := (rf 0 0)) rfl k
   ·intro K _ f w u k
    show Wp K ⟨41, (upd 41 f 1 (st_ a1)), _⟩
    refine s_move (d := (st_ a1)) rfl k
   ·intro K _ f w u k
    show Wp K ⟨41, (upd 41 f 8 (rf 2 0)), [_, _, _, _]⟩
    refine s_fieldRef F.fo_65_0 (by decide) rfl k
   ·intro K _ f w u k
    show Wp K ⟨41, (upd 41 f 29 (rf 2 0)), [_, _, (some (AObj.cells true (c_vdisk_file (lk_vdisk_file a1 p0.files)))), _]⟩
    refine s_load1 (c' := (C.p false (.sl ((lk_vdisk_file a1 p0.files).b).length (((lk_vdisk_file a1 p0.files).b).flatMap e_u8)))) F.ag_22 rfl rfl k
   ·intro K _ f w u k
    show Wp K ⟨41, (upd 41 f 2 (si (if (((lk_vdisk_file a1 p0.files).b).length : Int) < a2 then (((lk_vdisk_file a1 p0.files).b).length : Int) else a2))), _⟩
    refine s_move (d := (si (if (((lk_vdisk_file a1 p0.files).b).length : Int) < a2 then (((lk_vdisk_file a1 p0.files).b).length : Int) else a2))) rfl k
   ·intro K _ f w u k
    show Wp K ⟨41, (upd 41 f 2 (si (if (((lk_vdisk_file a1 p0.files).b).length : Int) < a2 then (((lk_vdisk_file a1 p0.files).b).length : Int) else a2))), _⟩
    refine s_move (d := (si (if (((lk_vdisk_file a1 p0.files).b).length : Int) < a2 then (((lk_vdisk_file a1 p0.files).b).length : Int) else a2))) rfl k
   ·intro K _ f w u k
    show Wp K ⟨41, (upd 41 (upd 41 (upd 41 f 32 (si (if (((lk_vdisk_file a1 p0.files).b).length : Int) < a2 then (((lk_vdisk_file a1 p0.files).b).length : Int) else a2))) 31 (si (if (((lk_vdisk_file a1 p0.files).b).length : Int) < a2 then (((lk_vdisk_file a1 p0.files).b).length : Int) else a2))) 30 (D.one (C.p false (.sl ((lk_vdisk_file a1 p0.files).b).length (((lk_vdisk_file a1 p0.files).b).flatMap e_u8))))), [_, _, _, _]⟩
    refine t_slice3Imm F.u_22 F.sz_5 e_u8_len rfl rfl rfl (by omega) (by omega) k
   ·intro K _ f w u k
    show Wp K ⟨41, (upd 41 f 2 (si (if (((lk_vdisk_file a1 p0.files).b).length : Int) < a2 then (((lk_vdisk_file a1 p0.files).b).length : Int) else a2))), _⟩
    refine s_move (d := (si (if (((lk_vdisk_file a1 p0.files).b).length : Int) < a2 then (((lk_vdisk_file a1 p0.files).b).length : Int) else a2))) rfl k
   ·intro K _ f w u k
    show Wp K ⟨41, (upd 41 f 8 (rf 2 0)), [_, _, _, _]⟩
    refine s_fieldRef F.fo_65_1 (by decide) rfl k
   ·intro K _ f w u k
    show Wp K ⟨41, (upd 41 f 35 (rf 2 1)), [_, _, (some (AObj.cells true (c_vdisk_file (lk_vdisk_file a1 p0.files)))), _]⟩
    refine s_load1 (c' := (ci ((lk_vdisk_file a1 p0.files).sure))) F.ag_3 rfl rfl k
   ·intro K _ f w u k
    show Wp K ⟨41, (upd 41 (upd 41 f 36 (si ((lk_vdisk_file a1 p0.files).sure))) 34 (si (if (((lk_vdisk_file a1 p0.files).b).length : Int) < a2 then (((lk_vdisk_file a1 p0.files).b).length : Int) else a2))), [_, _, _, _]⟩
    refine s_min2 (r := (if ((lk_vdisk_file a1 p0.files).sure) < (if (((lk_vdisk_file a1 p0.files).b).length : Int) < a2 then (((lk_vdisk_file a1 p0.files).b).length : Int) else a2) then ((lk_vdisk_file a1 p0.files).sure) else (if (((lk_vdisk_file a1 p0.files).b).length : Int) < a2 then (((lk_vdisk_file a1 p0.files).b).length : Int) else a2))) rfl rfl rfl k
   ·intro K _ f w u k
    show Wp K ⟨41, (upd 41 (upd 41 f 37 (si (if ((lk_vdisk_file a1 p0.files).sure) < (if (((lk_vdisk_file a1 p0.files).b).length : Int) < a2 then (((lk_vdisk_file a1 p0.files).b).length : Int) else a2) then ((lk_vdisk_file a1 p0.files).sure) else (if (((lk_vdisk_file a1 p0.files).b).length : Int) < a2 then (((lk_vdisk_file a1 p0.files).b).length : Int) else a2)))) 33 (D.one (C.p false (.sl (sub ((lk_vdisk_file a1 p0.files).b) 0 (if (((lk_vdisk_file a1 p0.files).b).length : Int) < a2 then (((lk_vdisk_file a1 p0.files).b).length : Int) else a2)).length ((sub ((lk_vdisk_file a1 p0.files).b) 0 (if (((lk_vdisk_file a1 p0.files).b).length : Int) < a2 then (((lk_vdisk_file a1 p0.files).b).length : Int) else a2)).flatMap e_u8))))), [_, _, _, _]⟩
    refine s_build (ps := [(0, (D.one (C.p false (.sl (sub ((lk_vdisk_file a1 p0.files).b) 0 (if (((lk_vdisk_file a1 p0.files).b).length : Int) < a2 then (((lk_vdisk_file a1 p0.files).b).length : Int) else a2)).length ((sub ((lk_vdisk_file a1 p0.files).b) 0 (if (((lk_vdisk_file a1 p0.files).b).length : Int) < a2 then (((lk_vdisk_file a1 p0.files).b).length : Int) else a2)).flatMap e_u8))))), (1, (si (if ((lk_vdisk_file a1 p0.files).sure) < (if (((lk_vdisk_file a1 p0.files).b).length : Int) < a2 then (((lk_vdisk_file a1 p0.files).b).length : Int) else a2) then ((lk_vdisk_file a1 p0.files).sure) else (if (((lk_vdisk_file a1 p0.files).b).length : Int) < a2 then (((lk_vdisk_file a1 p0.files).b).length : Int) else a2))))]) (cs := [(C.p false (.sl (sub ((lk_vdisk_file a1 p0.files).b) 0 (if (((lk_vdisk_file a1 p0.files).b).length : Int) < a2 then (((lk_vdisk_file a1 p0.files).b).length : Int) else a2)).length ((sub ((lk_vdisk_file a1 p0.files).b) 0 (if (((lk_vdisk_file a1 p0.files).b).length : Int) < a2 then (((lk_vdisk_file a1 p0.files).b).length : Int) else a2)).flatMap e_u8))), (ci (if ((lk_vdisk_file a1 p0.files).sure) < (if (((lk_vdisk_file a1 p0.files).b).length : Int) < a2 then (((lk_vdisk_file a1 p0.files).b).length : Int) else a2) then ((lk_vdisk_file a1 p0.files).sure) else (if (((lk_vdisk_file a1 p0.files).b).length : Int) < a2 then (((lk_vdisk_file a1 p0.files).b).length : Int) else a2)))]) F.z_65 rfl F.so_65 rfl rfl k
   ·intro K _ f w u k
    show Wp K ⟨41, (upd 41 (upd 41 (upd 41 f 38 (D.agg [(C.p false (.sl (sub ((lk_vdisk_file a1 p0.files).b) 0 (if (((lk_vdisk_file a1 p0.files).b).length : Int) < a2 then (((lk_vdisk_file a1 p0.files).b).length : Int) else a2)).length ((sub ((lk_vdisk_file a1 p0.files).b) 0 (if (((lk_vdisk_file a1 p0.files).b).length : Int) < a2 then (((lk_vdisk_file a1 p0.files).b).length : Int) else a2)).flatMap e_u8))), (ci (if ((lk_vdisk_file a1 p0.files).sure) < (if (((lk_vdisk_file a1 p0.files).b).length : Int) < a2 then (((lk_vdisk_file a1 p0.files).b).length : Int) else a2) then ((lk_vdisk_file a1 p0.files).sure) else (if (((lk_vdisk_file a1 p0.files).b).length : Int) < a2 then (((lk_vdisk_file a1 p0.files).b).length : Int) else a2)))])) 28 (st_ a1)) 27 (rf 0 0)), [(o_vdisk_Disk_03 false (C.mp 1) (C.p true (.v (.pointer none))) p0), (om_ e_vdisk_file p0.files), _, _]⟩
    refine cc [0, 1] [(o_vdisk_Disk_03 false (C.mp 1) (C.p true (.v (.pointer none))) r4), (om_ e_vdisk_file r4.files), (w 2), (w 3)] (D.tup []) F.ca_33 rfl rfl (ac (.one (.ref rfl)) (ac (.one .sc) (ac (LendT.aggL (ac .imm (ac .sc an))) an))) (ac (.cells (ac (.mp rfl) (ac .sc (ac .sc (ac .sc (ac .sc an)))))) (ac .map an)) (vdisk_Disk_set.meets _ p0 a1 (⟨sub ((lk_vdisk_file a1 p0.files).b) 0 (if (((lk_vdisk_file a1 p0.files).b).length : Int) < a2 then (((lk_vdisk_file a1 p0.files).b).length : Int) else a2), (if ((lk_vdisk_file a1 p0.files).sure) < (if (((lk_vdisk_file a1 p0.files).b).length : Int) < a2 then (((lk_vdisk_file a1 p0.files).b).length : Int) else a2) then ((lk_vdisk_file a1 p0.files).sure) else (if (((lk_vdisk_file a1 p0.files).b).length : Int) < a2 then (((lk_vdisk_file a1 p0.files).b).length : Int) else a2))⟩ : vdisk_file) r4 er4) k
  ·refine AWops.weak (st' := ⟨41, (upd 41 topF 7 (si r1)), [(o_vdisk_Disk_03 false (C.mp 1) (C.p true (.v (.pointer none))) r4), (om_ e_vdisk_file r4.files)]⟩) (wg 2 [0, 1] [] hx (le_upd (le_top _) (o1 .sc)) (ac (qs rfl) (ac .map an))) (AWops.nil (AW.seq (AW.region ?_)))
   refine s_move (d := (si r1)) rfl (s_assign (d := (si r1)) rfl (AWops.nil (AW.ret ?_)))
   obtain rfl := Option.some.inj h
   exact ⟨_, rfl, (wg 2 [0, 1] [] rfl (le_upd (le_top _) (o1 .sc)) (ac (qs rfl) (ac .map an)))⟩
 ·refine AW.cond_no rfl c2 (AW.skip (AW.seq (AW.region ?_)))
  refine s_move (d := (si r1)) rfl (s_assign (d := (si r1)) rfl (AWops.nil (AW.ret ?_)))
  obtain rfl := Option.some.inj h
  exact ⟨_, rfl, (wg 2 [0, 1] [] rfl (le_upd (le_top _) (o1 .sc)) (ac (qs rfl) (ac .map an)))⟩
mutual
def dossierref03_Disk_Truncate_41.j0 : Nat → Int → Int → Bool → (List dossierref03_File) → Int → Int → (dossierref03_File × Int) → Option (Int × dossierref03_Disk)
 | 0, _, _, _, _, _, _, _ => none
 | k + 1, x5, x6, x7, x8, x9, a2, r2 => if (x9 == 0) = true then (if (decide (0 ≤ 0 ∧ 0 ≤ (if (r2.1.B.length : Int) < a2 then (r2.1.B.length : Int) else a2) ∧ (if (r2.1.B.length : Int) < a2 then (r2.1.B.length : Int) else a2) ≤ (r2.1.B.length : Int))) = true then (if (decide (([] : List Int).length + (sub r2.1.B 0 (if (r2.1.B.length : Int) < a2 then (r2.1.B.length : Int) else a2)).length ≤ 140737488355328)) = true then ((dossierref03_Disk_set_58.f k (⟨x8, x5, x6, x7⟩ : dossierref03_Disk) (⟨r2.1.Name, sub r2.1.B 0 (if (r2.1.B.length : Int) < a2 then (r2.1.B.length : Int) else a2), (if ((sub r2.1.B 0 (if (r2.1.B.length : Int) < a2 then (r2.1.B.length : Int) else a2)).length : Int) < r2.1.Sure then ((sub r2.1.B 0 (if (r2.1.B.length : Int) < a2 then (r2.1.B.length : Int) else a2)).length : Int) else r2.1.Sure)⟩ : dossierref03_File)).bind fun r13 => some (x9, r13)) else none) else none) else (some (x9, (⟨x8, x5, x6, x7⟩ : dossierref03_Disk)))
end
def dossierref03_Disk_Truncate_41.f (k : Nat) (p0 : dossierref03_Disk) (a1 : ByteArray) (a2 : Int) : Option (Int × dossierref03_Disk) := if (decide (a2 < 0)) = true then (some (1, p0)) else ((dossierref03_Disk_there.f k p0 a1).bind fun r2 => if (r2.2 == 0) = true then ((dossierref03_Disk_burn.f k p0).bind fun r4 => dossierref03_Disk_Truncate_41.j0 k r4.2.Most r4.2.Burns r4.2.Off r4.2.L r4.1 a2 r2) else (dossierref03_Disk_Truncate_41.j0 k p0.Most p0.Burns p0.Off p0.L r2.2 a2 r2))
theorem dossierref03_Disk_Truncate_41.meets (k : Nat) (p0 : dossierref03_Disk) (a1 : ByteArray) (a2 : Int) (r : Int × dossierref03_Disk) (h : dossierref03_Disk_Truncate_41.f k p0 a1 a2 = some r) : Meets Try.prog 41 [(rf 0 0), (st_ a1), (si a2)] [(o_dossierref03_Disk_0 false (C.own 1 0 p0.L.length 3) p0), (or_ e_dossierref03_File p0.L)] (si r.1) [(o_dossierref03_Disk_0 false (C.own 2 0 r.2.L.length 3) r.2), none, (or_ e_dossierref03_File r.2.L)] := by
 unfold dossierref03_Disk_Truncate_41.f at h
 refine Meets.of_body (n := 45) Try.func41 rfl rfl (nl rfl) fun x hx => ?_
 replace hx : x.k = 2 := hx
 show AW _ x _ _ ⟨45, fr0 [(rf 0 0), (st_ a1), (si a2)], [(o_dossierref03_Disk_0 false (C.own 1 0 p0.L.length 3) p0), (or_ e_dossierref03_File p0.L)]⟩
 refine AW.weak (st' := ⟨45, (upd 45 (upd 45 (upd 45 topF 0 (rf 0 0)) 1 (st_ a1)) 2 (si a2)), [(o_dossierref03_Disk_0 false (C.own 2 0 p0.L.length 3) p0), none, (or_ e_dossierref03_File p0.L)]⟩) (Weak.genL (kk := 2) [0, 1, 1] [] hx rfl (by decide) rfl rfl rfl rfl (le_upd (le_upd (le_upd (le_top _) (o1 (.ref rfl))) (o1 .sc)) (o1 .sc)) (ac (qo rfl) (ac (.none _) (ac (.cells id (all2_row _)) an)))) (AW.seq (AW.region ?_))
 refine s_assign (d := (si 0)) rfl (AWops.nil (AW.seq (AW.seq (AW.region ?_))))
 refine s_move (d := (si a2)) rfl (s_binI (v := (.bool (decide (a2 < 0)))) rfl rfl rfl (AWops.nil ?_))
 rcases itH h with ⟨c1, h⟩ | ⟨c1, h⟩
 ·refine AW.cond_yes rfl c1 (AW.seq (AW.region ?_))
  refine s_assign (d := (si 1)) rfl (AWops.nil (AW.ret ?_))
  obtain rfl := Option.some.inj h
  exact ⟨_, rfl, (wg 2 [0, 1, 2] [] rfl (le_upd (le_top _) (o1 .sc)) (ac (qo rfl) (ac (.none _) (ac (.cells id (all2_row _)) an))))⟩
 ·refine AW.cond_no rfl c1 (AW.skip (AW.seq (AW.region ?_)))
  refine s_move (d := (rf 0 0)) rfl (s_move (d := (st_ a1)) rfl ?_)
  obtain ⟨r2, er2, h⟩ := bnd h
  refine cc [0, 2] [(o_dossierref03_Disk_0 false (C.own 2 0 p0.L.length 3) p0), none, (or_ e_dossierref03_File p0.L)] (D.tup [(D.agg (c_dossierref03_File r2.1)), (si r2.2)]) F.ca_53 rfl rfl (ac (.one (.ref rfl)) (ac (.one .sc) an)) (ac (.cells (ac (.own rfl) (ac .sc (ac .sc (ac .sc an))))) (ac (.cells (lend_row _)) an)) (dossierref03_Disk_there.meets _ p0 a1 r2 er2) (s_move (d := (D.tup [(D.agg (c_dossierref03_File r2.1)), (si r2.2)])) rfl (s_extract (d := (D.agg (c_dossierref03_File r2.1))) rfl rfl (s_extract (d := (si r2.2)) rfl rfl (s_alloc (cs := [(ct (⟨#[]⟩ : ByteArray)), (C.p true (.v (.slice none 0 0))), (ci 0)]) F.z_82 rfl rfl (s_store (cs' := (c_dossierref03_File r2.1)) rfl rfl rfl (List.cons_ne_nil _ _) rfl F.sz_82 (nl rfl) rfl ?_)))))
  refine s_assign (d := (si r2.2)) rfl (AWops.nil ?_)
  refine AW.seqJ (fun st => ∃ (x5 : Int) (x6 : Int) (x7 : Bool) (x8 : List dossierref03_File) (x9 : Int), dossierref03_Disk_Truncate_41.j0 k x5 x6 x7 x8 x9 a2 r2 = some r ∧ st = ⟨45, (upd 45 (upd 45 (upd 45 (upd 45 topF 0 (rf 0 0)) 2 (si a2)) 7 (rf 2 0)) 8 (si x9)), [(some (AObj.cells false [(C.own 3 0 x8.length 3), (ci x5), (ci x6), (cb x7)])), none, (some (AObj.cells true (c_dossierref03_File r2.1))), (or_ e_dossierref03_File x8)]⟩) ?_ ?_
  ·refine AW.seq (AW.region ?_)
   refine s_move (d := (si r2.2)) rfl (s_binI (v := (.bool (r2.2 == 0))) rfl rfl rfl (AWops.nil ?_))
   rcases itH h with ⟨c3, h⟩ | ⟨c3, h⟩
   ·refine AW.cond_yes rfl c3 (AW.region ?_)
    refine s_move (d := (rf 0 0)) rfl ?_
    obtain ⟨r4, er4, h⟩ := bnd h
    refine cc [0, 2] [(o_dossierref03_Disk_0 false (C.own 2 0 r4.2.L.length 3) r4.2), none, (or_ e_dossierref03_File r4.2.L), (some (AObj.cells true (c_dossierref03_File r2.1)))] (si r4.1) F.ca_56 rfl rfl (ac (.one (.ref rfl)) an) (ac (.cells (ac (.own rfl) (ac .sc (ac .sc (ac .sc an))))) (ac (.cells (lend_row _)) an)) (dossierref03_Disk_burn.meets _ p0 r4 er4) (s_assign (d := (si r4.1)) rfl (AWops.nil ?_))
    exact ⟨⟨45, (upd 45 (upd 45 (upd 45 (upd 45 topF 0 (rf 0 0)) 2 (si a2)) 7 (rf 2 0)) 8 (si r4.1)), [(some (AObj.cells false [(C.own 3 0 r4.2.L.length 3), (ci r4.2.Most), (ci r4.2.Burns), (cb r4.2.Off)])), none, (some (AObj.cells true (c_dossierref03_File r2.1))), (or_ e_dossierref03_File r4.2.L)]⟩, (wg 2 [0, 1, 3, 2] [] hx (le_upd (le_upd (le_upd (le_upd (le_top _) (o1 (.ref rfl))) (o1 .sc)) (o1 (.ref rfl))) (o1 .sc)) (ac (qo rfl) (ac (.none _) (ac (.cells (fun _ => rfl) (ac .sc (ac .same (ac .sc an)))) (ac (.cells id (all2_row _)) an))))), r4.2.Most, r4.2.Burns, r4.2.Off, r4.2.L, r4.1, h, rfl⟩
   ·refine AW.cond_no rfl c3 (AW.skip ?_)
    exact ⟨⟨45, (upd 45 (upd 45 (upd 45 (upd 45 topF 0 (rf 0 0)) 2 (si a2)) 7 (rf 2 0)) 8 (si r2.2)), [(some (AObj.cells false [(C.own 3 0 p0.L.length 3), (ci p0.Most), (ci p0.Burns), (cb p0.Off)])), none, (some (AObj.cells true (c_dossierref03_File r2.1))), (or_ e_dossierref03_File p0.L)]⟩, (wg 2 [0, 1, 3, 2] [] hx (le_upd (le_upd (le_upd (le_upd (le_top _) (o1 (.ref rfl))) (o1 .sc)) (o1 (.ref rfl))) (o1 .sc)) (ac (qo rfl) (ac (.none _) (ac (.cells (fun _ => rfl) (ac .sc (ac .same (ac .sc an)))) (ac (.cells id (all2_row _)) an))))), p0.Most, p0.Burns, p0.Off, p0.L, r2.2, h, rfl⟩
  ·rintro st ⟨x5, x6, x7, x8, x9, h, rfl⟩
   cases k with
   | zero => exact absurd h (by simp [dossierref03_Disk_Truncate_41.j0])
   | succ qj0 =>
    replace h := (dossierref03_Disk_Truncate_41.j0.eq_2 _ _ _ _ _ _ _ _).symm.trans h
    refine AW.seq (AW.seq (AW.region ?_))
    refine s_move (d := (si x9)) rfl (s_binI (v := (.bool (x9 == 0))) rfl rfl rfl (AWops.nil ?_))
    rcases itH h with ⟨c10, h⟩ | ⟨c10, h⟩
    ·refine AW.cond_yes rfl c10 (AW.seq (AW.region ?_))
     refine s_buildSlice (n := 0) (ps := []) (cs := rowC e_u8 ([] : List Int)) F.u_22 F.sz_5 F.z_5 rfl rfl (by decide) (by decide) rfl rfl (s_fieldRef F.fo_82_1 (by decide) rfl (s_load1 (c' := (C.p false (.sl r2.1.B.length (r2.1.B.flatMap e_u8)))) F.ag_22 rfl rfl (s_move (d := (si a2)) rfl (s_fieldRef F.fo_82_1 (by decide) rfl (s_load1 (c' := (C.p false (.sl r2.1.B.length (r2.1.B.flatMap e_u8)))) F.ag_22 rfl rfl ?_)))))
     refine s_len (n := r2.1.B.length) F.u_22 rfl (.inr ⟨(fun _ _ h => by cases h), ⟨_, rfl⟩⟩) (s_min2 (r := (if (r2.1.B.length : Int) < a2 then (r2.1.B.length : Int) else a2)) rfl rfl rfl ?_)
     obtain ⟨c11, h⟩ := gdH h
     have dc11 := of_decide_eq_true c11
     refine t_sliceImm (a := 0) (b := (if (r2.1.B.length : Int) < a2 then (r2.1.B.length : Int) else a2)) F.u_22 F.sz_5 e_u8_len rfl (by omega) (by omega) (by omega) .no (.yes rfl (by omega) rfl) ?_
     obtain ⟨c12, h⟩ := gdH h
     have dc12 := of_decide_eq_true c12
     refine t_append (xs := ([] : List Int)) (ys := sub r2.1.B 0 (if (r2.1.B.length : Int) < a2 then (r2.1.B.length : Int) else a2)) (zs := sub r2.1.B 0 (if (r2.1.B.length : Int) < a2 then (r2.1.B.length : Int) else a2)) (H' := [(some (AObj.cells false [(C.own 3 0 x8.length 3), (ci x5), (ci x6), (cb x7)])), none, (some (AObj.cells true (c_dossierref03_File r2.1))), (or_ e_dossierref03_File x8), none, (some (AObj.cells true (rowC e_u8 (sub r2.1.B 0 (if (r2.1.B.length : Int) < a2 then (r2.1.B.length : Int) else a2)))))]) F.u_22 F.in_5 rfl e_u8_len (.own rfl rfl) .imm F.u_22 (by omega) (by omega) rfl rfl (s_fieldRef F.fo_82_1 (by decide) rfl (s_store (cs' := [(ct r2.1.Name), (C.own 5 0 ((sub r2.1.B 0 (if (r2.1.B.length : Int) < a2 then (r2.1.B.length : Int) else a2)).length) 1), (ci r2.1.Sure)]) rfl rfl rfl (List.cons_ne_nil _ _) rfl F.sz_22 (nl rfl) rfl (AWops.nil (AW.seq (AW.region (s_fieldRef F.fo_82_2 (by decide) rfl (s_load1 (c' := (ci r2.1.Sure)) F.ag_3 rfl rfl (s_fieldRef F.fo_82_1 (by decide) rfl ?_))))))))
     refine s_load1 (c' := (C.own 5 0 ((sub r2.1.B 0 (if (r2.1.B.length : Int) < a2 then (r2.1.B.length : Int) else a2)).length) 1)) F.ag_22 rfl rfl (s_len (n := (sub r2.1.B 0 (if (r2.1.B.length : Int) < a2 then (r2.1.B.length : Int) else a2)).length) F.u_22 rfl (.inr ⟨(fun _ _ h => by cases h), ⟨_, rfl⟩⟩) (s_min2 (r := (if ((sub r2.1.B 0 (if (r2.1.B.length : Int) < a2 then (r2.1.B.length : Int) else a2)).length : Int) < r2.1.Sure then ((sub r2.1.B 0 (if (r2.1.B.length : Int) < a2 then (r2.1.B.length : Int) else a2)).length : Int) else r2.1.Sure)) rfl rfl rfl (s_fieldRef F.fo_82_2 (by decide) rfl (s_store (cs' := [(ct r2.1.Name), (C.own 5 0 ((sub r2.1.B 0 (if (r2.1.B.length : Int) < a2 then (r2.1.B.length : Int) else a2)).length) 1), (ci (if ((sub r2.1.B 0 (if (r2.1.B.length : Int) < a2 then (r2.1.B.length : Int) else a2)).length : Int) < r2.1.Sure then ((sub r2.1.B 0 (if (r2.1.B.length : Int) < a2 then (r2.1.B.length : Int) else a2)).length : Int) else r2.1.Sure))]) rfl rfl rfl (List.cons_ne_nil _ _) rfl F.sz_3 (nl rfl) rfl (AWops.nil (AW.region (s_move (d := (rf 0 0)) rfl ?_)))))))
     refine s_loadN (ds := [(ct r2.1.Name), (C.own 5 0 ((sub r2.1.B 0 (if (r2.1.B.length : Int) < a2 then (r2.1.B.length : Int) else a2)).length) 1), (ci (if ((sub r2.1.B 0 (if (r2.1.B.length : Int) < a2 then (r2.1.B.length : Int) else a2)).length : Int) < r2.1.Sure then ((sub r2.1.B 0 (if (r2.1.B.length : Int) < a2 then (r2.1.B.length : Int) else a2)).length : Int) else r2.1.Sure))]) F.ag_82 F.sz_82 rfl rfl rfl ?_
     obtain ⟨r13, er13, h⟩ := bnd h
     refine AWops.weak (st' := ⟨45, (upd 45 (upd 45 (upd 45 (upd 45 (upd 45 (upd 45 (upd 45 (upd 45 (upd 45 (upd 45 (upd 45 (upd 45 (upd 45 (upd 45 (upd 45 (upd 45 (upd 45 (upd 45 (upd 45 (upd 45 (upd 45 (upd 45 (upd 45 (upd 45 (upd 45 topF 0 (rf 0 0)) 2 (si a2)) 7 (rf 2 0)) 8 (si x9)) 21 (si x9)) 22 (sb (x9 == 0))) 24 (rf 2 1)) 25 (D.one (C.p false (.sl r2.1.B.length (r2.1.B.flatMap e_u8))))) 26 (si a2)) 27 (rf 2 1)) 28 (D.one (C.p false (.sl r2.1.B.length (r2.1.B.flatMap e_u8))))) 29 (si (r2.1.B.length : Int))) 30 (si (if (r2.1.B.length : Int) < a2 then (r2.1.B.length : Int) else a2))) 31 (D.one (C.p false (.sl (sub r2.1.B 0 (if (r2.1.B.length : Int) < a2 then (r2.1.B.length : Int) else a2)).length ((sub r2.1.B 0 (if (r2.1.B.length : Int) < a2 then (r2.1.B.length : Int) else a2)).flatMap e_u8))))) 32 (D.one (C.p false (.sl (sub r2.1.B 0 (if (r2.1.B.length : Int) < a2 then (r2.1.B.length : Int) else a2)).length ((sub r2.1.B 0 (if (r2.1.B.length : Int) < a2 then (r2.1.B.length : Int) else a2)).flatMap e_u8))))) 33 (rf 2 1)) 34 (rf 2 2)) 35 (si r2.1.Sure)) 36 (rf 2 1)) 37 (D.one (C.p false (.sl (sub r2.1.B 0 (if (r2.1.B.length : Int) < a2 then (r2.1.B.length : Int) else a2)).length ((sub r2.1.B 0 (if (r2.1.B.length : Int) < a2 then (r2.1.B.length : Int) else a2)).flatMap e_u8))))) 38 (si ((sub r2.1.B 0 (if (r2.1.B.length : Int) < a2 then (r2.1.B.length : Int) else a2)).length : Int))) 39 (si (if ((sub r2.1.B 0 (if (r2.1.B.length : Int) < a2 then (r2.1.B.length : Int) else a2)).length : Int) < r2.1.Sure then ((sub r2.1.B 0 (if (r2.1.B.length : Int) < a2 then (r2.1.B.length : Int) else a2)).length : Int) else r2.1.Sure))) 40 (rf 2 2)) 41 (rf 0 0)) 42 (D.agg [(ct r2.1.Name), (C.p false (.sl (sub r2.1.B 0 (if (r2.1.B.length : Int) < a2 then (r2.1.B.length : Int) else a2)).length ((sub r2.1.B 0 (if (r2.1.B.length : Int) < a2 then (r2.1.B.length : Int) else a2)).flatMap e_u8))), (ci (if ((sub r2.1.B 0 (if (r2.1.B.length : Int) < a2 then (r2.1.B.length : Int) else a2)).length : Int) < r2.1.Sure then ((sub r2.1.B 0 (if (r2.1.B.length : Int) < a2 then (r2.1.B.length : Int) else a2)).length : Int) else r2.1.Sure))])), [(some (AObj.cells false [(C.own 3 0 x8.length 3), (ci x5), (ci x6), (cb x7)])), none, (some (AObj.cells true [(ct r2.1.Name), (C.p false (.sl (sub r2.1.B 0 (if (r2.1.B.length : Int) < a2 then (r2.1.B.length : Int) else a2)).length ((sub r2.1.B 0 (if (r2.1.B.length : Int) < a2 then (r2.1.B.length : Int) else a2)).flatMap e_u8))), (ci (if ((sub r2.1.B 0 (if (r2.1.B.length : Int) < a2 then (r2.1.B.length : Int) else a2)).length : Int) < r2.1.Sure then ((sub r2.1.B 0 (if (r2.1.B.length : Int) < a2 then (r2.1.B.length : Int) else a2)).length : Int) else r2.1.Sure))])), (or_ e_dossierref03_File x8)]⟩) (wg 2 [0, 1, 2, 3] [5] hx (le_upd (le_upd (le_upd (le_upd (le_upd (le_upd (le_upd (le_upd (le_upd (le_upd (le_upd (le_upd (le_upd (le_upd (le_upd (le_upd (le_upd (le_upd (le_upd (le_upd (le_upd (le_upd (le_upd (le_upd (le_upd (le_top _) (o1 (.ref rfl))) (o1 .sc)) (o1 (.ref rfl))) (o1 .sc)) (o1 .sc)) (o1 .sc)) (o1 (.ref rfl))) (o1 .same)) (o1 .sc)) (o1 (.ref rfl))) (o1 .same)) (o1 .sc)) (o1 .sc)) (o1 .same)) (o1 (CLe.frz e_u8_len rfl rfl rfl))) (o1 (.ref rfl))) (o1 (.ref rfl))) (o1 .sc)) (o1 (.ref rfl))) (o1 (CLe.frz e_u8_len rfl rfl rfl))) (o1 .sc)) (o1 .sc)) (o1 (.ref rfl))) (o1 (.ref rfl))) (.t (.agg (ac .sc (ac (CLe.frz e_u8_len rfl rfl rfl) (ac .sc an)))))) (ac (qo rfl) (ac (.none _) (ac (.cells (fun _ => rfl) (ac .sc (ac (CLe.frz e_u8_len rfl rfl rfl) (ac .sc an)))) (ac (.cells id (all2_row _)) an))))) ?_
     refine cc [0, 3] [(o_dossierref03_Disk_0 false (C.own 4 0 r13.L.length 3) r13), none, (some (AObj.cells true [(ct r2.1.Name), (C.p false (.sl (sub r2.1.B 0 (if (r2.1.B.length : Int) < a2 then (r2.1.B.length : Int) else a2)).length ((sub r2.1.B 0 (if (r2.1.B.length : Int) < a2 then (r2.1.B.length : Int) else a2)).flatMap e_u8))), (ci (if ((sub r2.1.B 0 (if (r2.1.B.length : Int) < a2 then (r2.1.B.length : Int) else a2)).length : Int) < r2.1.Sure then ((sub r2.1.B 0 (if (r2.1.B.length : Int) < a2 then (r2.1.B.length : Int) else a2)).length : Int) else r2.1.Sure))])), none, (or_ e_dossierref03_File r13.L)] (D.tup []) F.ca_58 rfl rfl (ac (.one (.ref rfl)) (ac (LendT.aggL (ac .sc (ac .imm (ac .sc an)))) an)) (ac (.cells (ac (.own rfl) (ac .sc (ac .sc (ac .sc an))))) (ac (.cells (lend_row _)) an)) (dossierref03_Disk_set_58.meets _ (⟨x8, x5, x6, x7⟩ : dossierref03_Disk) (⟨r2.1.Name, sub r2.1.B 0 (if (r2.1.B.length : Int) < a2 then (r2.1.B.length : Int) else a2), (if ((sub r2.1.B 0 (if (r2.1.B.length : Int) < a2 then (r2.1.B.length : Int) else a2)).length : Int) < r2.1.Sure then ((sub r2.1.B 0 (if (r2.1.B.length : Int) < a2 then (r2.1.B.length : Int) else a2)).length : Int) else r2.1.Sure)⟩ : dossierref03_File) r13 er13) (AWops.nil (AW.seq (AW.region ?_)))
     refine s_move (d := (si x9)) rfl (s_assign (d := (si x9)) rfl (AWops.nil (AW.ret ?_)))
     obtain rfl := Option.some.inj h
     exact ⟨_, rfl, (wg 2 [0, 1, 4] [] rfl (le_upd (le_top _) (o1 .sc)) (ac (qo rfl) (ac (.none _) (ac (.cells id (all2_row _)) an))))⟩
    ·refine AW.cond_no rfl c10 (AW.skip (AW.seq (AW.region ?_)))
     refine s_move (d := (si x9)) rfl (s_assign (d := (si x9)) rfl (AWops.nil (AW.ret ?_)))
     obtain rfl := Option.some.inj h
     exact ⟨_, rfl, (wg 2 [0, 1, 3] [] rfl (le_upd (le_top _) (o1 .sc)) (ac (qo rfl) (ac (.none _) (ac (.cells id (all2_row _)) an))))⟩
def vdisk_Disk_Remove.f (k : Nat) (p0 : vdisk_Disk) (a1 : ByteArray) : Option (Int × vdisk_Disk) := (vdisk_Disk_change.f k p0 true a1 false 0).bind fun r1 => if (r1 == 0) = true then ((vdisk_Disk_cut.f k p0 a1).bind fun r3 => some (r1, r3)) else (some (r1, p0))
theorem vdisk_Disk_Remove.meets (k : Nat) (p0 : vdisk_Disk) (a1 : ByteArray) (r : Int × vdisk_Disk) (h : vdisk_Disk_Remove.f k p0 a1 = some r) : Meets Try.prog 20 [(rf 0 0), (st_ a1)] [(o_vdisk_Disk_03 false (C.mp 1) (C.p true (.v (.pointer none))) p0), (om_ e_vdisk_file p0.files)] (si r.1) [(o_vdisk_Disk_03 false (C.mp 1) (C.p true (.v (.pointer none))) r.2), (om_ e_vdisk_file r.2.files)] := by
 unfold vdisk_Disk_Remove.f at h
 refine Meets.of_body (n := 15) Try.func20 rfl rfl (nl rfl) fun x hx => ?_
 replace hx : x.k = 2 := hx
 show AW _ x _ _ ⟨15, fr0 [(rf 0 0), (st_ a1)], [(o_vdisk_Disk_03 false (C.mp 1) (C.p true (.v (.pointer none))) p0), (om_ e_vdisk_file p0.files)]⟩
 refine AW.seq (AW.region ?_)
 refine s_assign (d := (si 0)) rfl (AWops.nil (AW.seq (AW.region ?_)))
 refine s_move (d := (rf 0 0)) rfl (s_move (d := (st_ a1)) rfl ?_)
 obtain ⟨r1, er1, h⟩ := bnd h
 refine cc [0, 1] [(o_vdisk_Disk_03 false (C.mp 1) (C.p true (.v (.pointer none))) p0), (om_ e_vdisk_file p0.files)] (si r1) F.ca_31 rfl rfl (ac (.one (.ref rfl)) (ac (.one .sc) (ac (.one .sc) (ac (.one .sc) (ac (.one .sc) an))))) (ac (.cells (ac (.mp rfl) (ac .sc (ac .sc (ac .sc (ac .sc an)))))) (ac .map an)) (vdisk_Disk_change.meets _ p0 true a1 false 0 r1 er1) (s_assign (d := (si r1)) rfl (AWops.nil (AW.seq (AW.seq (AW.region (s_move (d := (si r1)) rfl (s_binI (v := (.bool (r1 == 0))) rfl rfl rfl (AWops.nil ?_))))))))
 rcases itH h with ⟨c2, h⟩ | ⟨c2, h⟩
 ·refine AW.cond_yes rfl c2 (AW.region ?_)
  refine s_move (d := (rf 0 0)) rfl (s_move (d := (st_ a1)) rfl ?_)
  obtain ⟨r3, er3, h⟩ := bnd h
  refine cc [0, 1] [(o_vdisk_Disk_03 false (C.mp 1) (C.p true (.v (.pointer none))) r3), (om_ e_vdisk_file r3.files)] (D.tup []) F.ca_46 rfl rfl (ac (.one (.ref rfl)) (ac (.one .sc) an)) (ac (.cells (ac (.mp rfl) (ac .sc (ac .sc (ac .sc (ac .sc an)))))) (ac .map an)) (vdisk_Disk_cut.meets _ p0 a1 r3 er3) (AWops.nil (AW.seq (AW.region ?_)))
  refine s_move (d := (si r1)) rfl (s_assign (d := (si r1)) rfl (AWops.nil (AW.ret ?_)))
  obtain rfl := Option.some.inj h
  exact ⟨_, rfl, (wg 2 [0, 1] [] rfl (le_upd (le_top _) (o1 .sc)) (ac (qs rfl) (ac .map an)))⟩
 ·refine AW.cond_no rfl c2 (AW.skip (AW.seq (AW.region ?_)))
  refine s_move (d := (si r1)) rfl (s_assign (d := (si r1)) rfl (AWops.nil (AW.ret ?_)))
  obtain rfl := Option.some.inj h
  exact ⟨_, rfl, (wg 2 [0, 1] [] rfl (le_upd (le_top _) (o1 .sc)) (ac (qs rfl) (ac .map an)))⟩
def dossierref03_Disk_Remove_42.f (k : Nat) (p0 : dossierref03_Disk) (a1 : ByteArray) : Option (Int × dossierref03_Disk) := (dossierref03_Disk_there.f k p0 a1).bind fun r1 => if (r1.2 == 0) = true then ((dossierref03_Disk_burn.f k p0).bind fun r3 => if (r3.1 == 0) = true then ((dossierref03_Disk_cut_59.f k r3.2 a1).bind fun r5 => some (r3.1, r5)) else (some (r3.1, r3.2))) else (some (r1.2, p0))
theorem dossierref03_Disk_Remove_42.meets (k : Nat) (p0 : dossierref03_Disk) (a1 : ByteArray) (r : Int × dossierref03_Disk) (h : dossierref03_Disk_Remove_42.f k p0 a1 = some r) : Meets Try.prog 42 [(rf 0 0), (st_ a1)] [(o_dossierref03_Disk_0 false (C.own 1 0 p0.L.length 3) p0), (or_ e_dossierref03_File p0.L)] (si r.1) [(o_dossierref03_Disk_0 false (C.own 2 0 r.2.L.length 3) r.2), none, (or_ e_dossierref03_File r.2.L)] := by
 unfold dossierref03_Disk_Remove_42.f at h
 refine Meets.of_body (n := 23) Try.func42 rfl rfl (nl rfl) fun x hx => ?_
 replace hx : x.k = 2 := hx
 show AW _ x _ _ ⟨23, fr0 [(rf 0 0), (st_ a1)], [(o_dossierref03_Disk_0 false (C.own 1 0 p0.L.length 3) p0), (or_ e_dossierref03_File p0.L)]⟩
 refine AW.weak (st' := ⟨23, (upd 23 (upd 23 topF 0 (rf 0 0)) 1 (st_ a1)), [(o_dossierref03_Disk_0 false (C.own 2 0 p0.L.length 3) p0), none, (or_ e_dossierref03_File p0.L)]⟩) (Weak.genL (kk := 2) [0, 1, 1] [] hx rfl (by decide) rfl rfl rfl rfl (le_upd (le_upd (le_top _) (o1 (.ref rfl))) (o1 .sc)) (ac (qo rfl) (ac (.none _) (ac (.cells id (all2_row _)) an)))) (AW.seq (AW.region ?_))
 refine s_assign (d := (si 0)) rfl (AWops.nil (AW.seq (AW.region ?_)))
 refine s_move (d := (rf 0 0)) rfl (s_move (d := (st_ a1)) rfl ?_)
 obtain ⟨r1, er1, h⟩ := bnd h
 refine cc [0, 2] [(o_dossierref03_Disk_0 false (C.own 2 0 p0.L.length 3) p0), none, (or_ e_dossierref03_File p0.L)] (D.tup [(D.agg (c_dossierref03_File r1.1)), (si r1.2)]) F.ca_53 rfl rfl (ac (.one (.ref rfl)) (ac (.one .sc) an)) (ac (.cells (ac (.own rfl) (ac .sc (ac .sc (ac .sc an))))) (ac (.cells (lend_row _)) an)) (dossierref03_Disk_there.meets _ p0 a1 r1 er1) (s_move (d := (D.tup [(D.agg (c_dossierref03_File r1.1)), (si r1.2)])) rfl (s_extract (d := (D.agg (c_dossierref03_File r1.1))) rfl rfl (s_extract (d := (si r1.2)) rfl rfl (s_alloc (cs := [(ct (⟨#[]⟩ : ByteArray)), (C.p true (.v (.slice none 0 0))), (ci 0)]) F.z_82 rfl rfl (s_store (cs' := (c_dossierref03_File r1.1)) rfl rfl rfl (List.cons_ne_nil _ _) rfl F.sz_82 (nl rfl) rfl ?_)))))
 refine s_assign (d := (si r1.2)) rfl (AWops.nil (AW.seq (AW.seq (AW.region ?_))))
 refine s_move (d := (si r1.2)) rfl (s_binI (v := (.bool (r1.2 == 0))) rfl rfl rfl (AWops.nil ?_))
 rcases itH h with ⟨c2, h⟩ | ⟨c2, h⟩
 ·refine AW.cond_yes rfl c2 (AW.region ?_)
  refine s_move (d := (rf 0 0)) rfl ?_
  obtain ⟨r3, er3, h⟩ := bnd h
  refine cc [0, 2] [(o_dossierref03_Disk_0 false (C.own 2 0 r3.2.L.length 3) r3.2), none, (or_ e_dossierref03_File r3.2.L), (some (AObj.cells true (c_dossierref03_File r1.1)))] (si r3.1) F.ca_56 rfl rfl (ac (.one (.ref rfl)) an) (ac (.cells (ac (.own rfl) (ac .sc (ac .sc (ac .sc an))))) (ac (.cells (lend_row _)) an)) (dossierref03_Disk_burn.meets _ p0 r3 er3) (s_assign (d := (si r3.1)) rfl (AWops.nil (AW.seq (AW.seq (AW.region (s_move (d := (si r3.1)) rfl (s_binI (v := (.bool (r3.1 == 0))) rfl rfl rfl (AWops.nil ?_))))))))
  rcases itH h with ⟨c4, h⟩ | ⟨c4, h⟩
  ·refine AW.cond_yes rfl c4 (AW.region ?_)
   refine s_move (d := (rf 0 0)) rfl (s_move (d := (st_ a1)) rfl ?_)
   obtain ⟨r5, er5, h⟩ := bnd h
   refine cc [0, 2] [(o_dossierref03_Disk_0 false (C.own 4 0 r5.L.length 3) r5), none, none, (some (AObj.cells true (c_dossierref03_File r1.1))), (or_ e_dossierref03_File r5.L)] (D.tup []) F.ca_59 rfl rfl (ac (.one (.ref rfl)) (ac (.one .sc) an)) (ac (.cells (ac (.own rfl) (ac .sc (ac .sc (ac .sc an))))) (ac (.cells (lend_row _)) an)) (dossierref03_Disk_cut_59.meets _ r3.2 a1 r5 er5) (AWops.nil (AW.seq (AW.region ?_)))
   refine s_move (d := (si r3.1)) rfl (s_assign (d := (si r3.1)) rfl (AWops.nil (AW.ret ?_)))
   obtain rfl := Option.some.inj h
   exact ⟨_, rfl, (wg 2 [0, 1, 4] [] rfl (le_upd (le_top _) (o1 .sc)) (ac (qo rfl) (ac (.none _) (ac (.cells id (all2_row _)) an))))⟩
  ·refine AW.cond_no rfl c4 (AW.skip (AW.seq (AW.region ?_)))
   refine s_move (d := (si r3.1)) rfl (s_assign (d := (si r3.1)) rfl (AWops.nil (AW.ret ?_)))
   obtain rfl := Option.some.inj h
   exact ⟨_, rfl, (wg 2 [0, 1, 2] [] rfl (le_upd (le_top _) (o1 .sc)) (ac (qo rfl) (ac (.none _) (ac (.cells id (all2_row _)) an))))⟩
 ·refine AW.cond_no rfl c2 (AW.skip (AW.seq (AW.seq (AW.region ?_))))
  refine s_move (d := (si r1.2)) rfl (s_binI (v := (.bool (r1.2 == 0))) rfl rfl rfl (AWops.nil ?_))
  refine AW.cond_no rfl c2 (AW.skip (AW.seq (AW.region ?_)))
  refine s_move (d := (si r1.2)) rfl (s_assign (d := (si r1.2)) rfl (AWops.nil (AW.ret ?_)))
  obtain rfl := Option.some.inj h
  exact ⟨_, rfl, (wg 2 [0, 1, 2] [] rfl (le_upd (le_top _) (o1 .sc)) (ac (qo rfl) (ac (.none _) (ac (.cells id (all2_row _)) an))))⟩
def vdisk_Disk_Fuse.f (k : Nat) (p0 : vdisk_Disk) (a1 : Int) : Option (Int × vdisk_Disk × (Option Int)) := (vdisk_Disk_none.f k p0).bind fun r1 => if (decide (a1 < 0)) = true then (some (1, p0, (none : Option Int))) else (some (0, p0, some a1))
theorem vdisk_Disk_Fuse.meets (k : Nat) (p0 : vdisk_Disk) (a1 : Int) (r : Int × vdisk_Disk × (Option Int)) (h : vdisk_Disk_Fuse.f k p0 a1 = some r) : Meets Try.prog 21 [(rf 0 0), (si a1)] [(o_vdisk_Disk_03 false (C.mp 1) (C.p true (.v (.pointer none))) p0), (om_ e_vdisk_file p0.files)] (optE r.2.2 (si r.1) (fun z1 : Int => (si r.1))) (optE r.2.2 [(o_vdisk_Disk_03 false (C.mp 1) (C.p true (.v (.pointer none))) r.2.1), (om_ e_vdisk_file r.2.1.files)] (fun z1 : Int => [(o_vdisk_Disk_03 false (C.mp 1) (C.ref 2 0) r.2.1), (om_ e_vdisk_file r.2.1.files), (bx z1)])) := by
 unfold vdisk_Disk_Fuse.f at h
 refine Meets.of_body (n := 14) Try.func21 rfl rfl (nl rfl) fun x hx => ?_
 replace hx : x.k = 2 := hx
 show AW _ x _ _ ⟨14, fr0 [(rf 0 0), (si a1)], [(o_vdisk_Disk_03 false (C.mp 1) (C.p true (.v (.pointer none))) p0), (om_ e_vdisk_file p0.files)]⟩
 refine AW.seq (AW.region ?_)
 refine s_box (cs := [(ci a1)]) rfl (List.cons_ne_nil _ _) rfl (s_assign (d := (si 0)) rfl (AWops.nil (AW.seq (AW.block (AW.seq (AW.region (s_move (d := (rf 0 0)) rfl ?_)))))))
 obtain ⟨r1, er1, h⟩ := bnd h
 have kr1 := vdisk_Disk_none.const er1
 subst kr1
 refine cc [0, 1] [(o_vdisk_Disk_03 false (C.mp 1) (C.p true (.v (.pointer none))) p0), (om_ e_vdisk_file p0.files), (some (AObj.cells true [(ci a1)]))] (sb false) F.ca_35 rfl rfl (ac (.one (.ref rfl)) an) (ac (.cells (ac (.mp rfl) (ac .sc (ac .sc (ac .sc (ac .sc an)))))) (ac .map an)) (vdisk_Disk_none.meets _ p0 false er1) (s_assign (d := (sb false)) rfl (AWops.nil ?_))
 refine AW.cond_no rfl rfl (AW.seq (AW.region ?_))
 refine s_load1 (c' := (ci a1)) F.ag_3 rfl rfl (s_binI (v := (.bool (decide (a1 < 0)))) rfl rfl rfl (s_assign (d := (sb (decide (a1 < 0)))) rfl (AWops.nil ?_)))
 rcases itH h with ⟨c2, h⟩ | ⟨c2, h⟩
 ·refine AW.cond_yes rfl c2 (AW.seq (AW.region ?_))
  refine s_assign (d := (si 1)) rfl (AWops.nil (AW.ret ?_))
  obtain rfl := Option.some.inj h
  exact ⟨_, rfl, (wg 2 [0, 1] [] rfl (le_upd (le_top _) (o1 .sc)) (ac (qs rfl) (ac .map an)))⟩
 ·refine AW.cond_no rfl c2 (AW.skip (AW.seq (AW.region ?_)))
  refine s_move (d := (rf 0 0)) rfl (s_nilCheck (d := (rf 0 0)) rfl (.inl ⟨_, _, rfl⟩) (s_fieldRef F.fo_50_3 (by decide) rfl (s_store (cs' := [(C.mp 1), (ci p0.room), (ci p0.used), (C.ref 2 0), (cb p0.dead)]) rfl rfl rfl (List.cons_ne_nil _ _) rfl F.sz_48 (nl rfl) rfl (AWops.nil (AW.seq (AW.region (s_assign (d := (si 0)) rfl (AWops.nil (AW.ret ?_)))))))))
  obtain rfl := Option.some.inj h
  exact ⟨_, rfl, (wg 2 [0, 1, 2] [] rfl (le_upd (le_top _) (o1 .sc)) (ac (qr rfl rfl) (ac .map (ac (.cells (fun _ => rfl) (ac .sc an)) an))))⟩
def dossierref03_Disk_Fuse.f (k : Nat) (p0 : dossierref03_Disk) (a1 : Int) : Option (Int × dossierref03_Disk) := if (decide (a1 < 0)) = true then (some (1, p0)) else (some (0, (⟨p0.L, p0.Most, a1, p0.Off⟩ : dossierref03_Disk)))
theorem dossierref03_Disk_Fuse.meets (k : Nat) (p0 : dossierref03_Disk) (a1 : Int) (r : Int × dossierref03_Disk) (h : dossierref03_Disk_Fuse.f k p0 a1 = some r) : Meets Try.prog 43 [(rf 0 0), (si a1)] [(o_dossierref03_Disk_0 false (C.own 1 0 p0.L.length 3) p0), (or_ e_dossierref03_File p0.L)] (si r.1) [(o_dossierref03_Disk_0 false (C.own 1 0 r.2.L.length 3) r.2), (or_ e_dossierref03_File r.2.L)] := by
 unfold dossierref03_Disk_Fuse.f at h
 refine Meets.of_body (n := 11) Try.func43 rfl rfl (nl rfl) fun x hx => ?_
 replace hx : x.k = 2 := hx
 show AW _ x _ _ ⟨11, fr0 [(rf 0 0), (si a1)], [(o_dossierref03_Disk_0 false (C.own 1 0 p0.L.length 3) p0), (or_ e_dossierref03_File p0.L)]⟩
 refine AW.seq (AW.region ?_)
 refine s_assign (d := (si 0)) rfl (AWops.nil (AW.seq (AW.seq (AW.region ?_))))
 refine s_move (d := (si a1)) rfl (s_binI (v := (.bool (decide (a1 < 0)))) rfl rfl rfl (AWops.nil ?_))
 rcases itH h with ⟨c1, h⟩ | ⟨c1, h⟩
 ·refine AW.cond_yes rfl c1 (AW.seq (AW.region ?_))
  refine s_assign (d := (si 1)) rfl (AWops.nil (AW.ret ?_))
  obtain rfl := Option.some.inj h
  exact ⟨_, rfl, (wg 2 [0, 1] [] rfl (le_upd (le_top _) (o1 .sc)) (ac (qo rfl) (ac (.cells id (all2_row _)) an)))⟩
 ·refine AW.cond_no rfl c1 (AW.skip (AW.seq (AW.region ?_)))
  refine s_move (d := (rf 0 0)) rfl (s_move (d := (si a1)) rfl (s_nilCheck (d := (rf 0 0)) rfl (.inl ⟨_, _, rfl⟩) (s_fieldRef F.fo_72_2 (by decide) rfl (s_store (cs' := [(C.own 1 0 p0.L.length 3), (ci p0.Most), (ci a1), (cb p0.Off)]) rfl rfl rfl (List.cons_ne_nil _ _) rfl F.sz_3 (nl rfl) rfl (AWops.nil (AW.seq (AW.region (s_assign (d := (si 0)) rfl (AWops.nil (AW.ret ?_))))))))))
  obtain rfl := Option.some.inj h
  exact ⟨_, rfl, (wg 2 [0, 1] [] rfl (le_upd (le_top _) (o1 .sc)) (ac (qo rfl) (ac (.cells id (all2_row _)) an)))⟩
end Go.Abs.GenRd
