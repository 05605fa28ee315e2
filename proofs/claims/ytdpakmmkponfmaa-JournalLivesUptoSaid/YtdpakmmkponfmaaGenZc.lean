import Derived.Test.YtdpakmmkponfmaaGenZb
set_option linter.unusedVariables false
set_option linter.unusedSimpArgs false
set_option maxRecDepth 100000
set_option maxHeartbeats 4000000
namespace Go.Abs.GenZ
open Go.Abs Go.Proofs
mutual
def dossierref03_Disk_Append_36.j0 : Nat → dossierref03_File → (List Int) → (Int × dossierref03_Disk) → Option (Int × dossierref03_Disk)
 | 0, _, _, _ => none
 | k + 1, x13, a2, r7 => if (decide (([] : List Int).length + x13.B.length ≤ 140737488355328)) = true then (if (decide (x13.B.length + a2.length ≤ 140737488355328)) = true then ((dossierref03_Disk_set_66.f k r7.2 (⟨x13.Name, x13.B ++ a2, x13.Sure⟩ : dossierref03_File)).bind fun r16 => some (0, r16)) else none) else none
def dossierref03_Disk_Append_36.j1 : Nat → dossierref03_File → (List Int) → (Int × dossierref03_Disk) → Option (Int × dossierref03_Disk)
 | 0, _, _, _ => none
 | k + 1, x23, a2, r17 => if (decide (([] : List Int).length + x23.B.length ≤ 140737488355328)) = true then (if (decide (x23.B.length + a2.length ≤ 140737488355328)) = true then ((dossierref03_Disk_set_66.f k r17.2 (⟨x23.Name, x23.B ++ a2, x23.Sure⟩ : dossierref03_File)).bind fun r26 => some (0, r26)) else none) else none
end
def dossierref03_Disk_Append_36.f (k : Nat) (p0 : dossierref03_Disk) (a1 : ByteArray) (a2 : List Int) : Option (Int × dossierref03_Disk) := (dossierref03_named.f k a1).bind fun r1 => if r1 = true then (if p0.Off = true then (some (70, p0)) else (if (decide ((a2.length : Int) > 0)) = true then ((dossierref03_Disk_Used.f k p0).bind fun r5 => if (decide ((a2.length : Int) > (IntKind.i64.wrap (p0.Most - r5)))) = true then (some (71, p0)) else ((dossierref03_Disk_burn.f k p0).bind fun r7 => if (r7.1 != 0) = true then (some (r7.1, r7.2)) else ((dossierref03_Disk_place.f k r7.2 a1).bind fun r9 => if r9.2 = true then ((rd r7.2.L r9.1).bind fun v11 => dossierref03_Disk_Append_36.j0 k v11 a2 r7) else (dossierref03_Disk_Append_36.j0 k (⟨a1, ([] : List Int), 0⟩ : dossierref03_File) a2 r7)))) else ((dossierref03_Disk_burn.f k p0).bind fun r17 => if (r17.1 != 0) = true then (some (r17.1, r17.2)) else ((dossierref03_Disk_place.f k r17.2 a1).bind fun r19 => if r19.2 = true then ((rd r17.2.L r19.1).bind fun v21 => dossierref03_Disk_Append_36.j1 k v21 a2 r17) else (dossierref03_Disk_Append_36.j1 k (⟨a1, ([] : List Int), 0⟩ : dossierref03_File) a2 r17))))) else (some (1, p0))
theorem dossierref03_Disk_Append_36.meets (k : Nat) (p0 : dossierref03_Disk) (a1 : ByteArray) (a2 : List Int) (r : Int × dossierref03_Disk) (h : dossierref03_Disk_Append_36.f k p0 a1 a2 = some r) : Meets Try.prog 36 [(rf 0 0), (st_ a1), (D.one (C.p false (.sl a2.length (a2.flatMap e_u8))))] [(o_dossierref03_Disk_0 false (C.own 1 0 p0.L.length 3) p0), (or_ e_dossierref03_File p0.L)] (si r.1) [(o_dossierref03_Disk_0 false (C.own 2 0 r.2.L.length 3) r.2), none, (or_ e_dossierref03_File r.2.L)] := by
 unfold dossierref03_Disk_Append_36.f at h
 refine Meets.of_body (n := 64) Try.func36 rfl rfl (nl rfl) fun x hx => ?_
 replace hx : x.k = 2 := hx
 show AW _ x _ _ ⟨64, fr0 [(rf 0 0), (st_ a1), (D.one (C.p false (.sl a2.length (a2.flatMap e_u8))))], [(o_dossierref03_Disk_0 false (C.own 1 0 p0.L.length 3) p0), (or_ e_dossierref03_File p0.L)]⟩
 refine AW.weak (st' := ⟨64, (upd 64 (upd 64 (upd 64 topF 0 (rf 0 0)) 1 (st_ a1)) 2 (D.one (C.p false (.sl a2.length (a2.flatMap e_u8))))), [(o_dossierref03_Disk_0 false (C.own 2 0 p0.L.length 3) p0), none, (or_ e_dossierref03_File p0.L)]⟩) (Weak.genL (kk := 2) [0, 1, 1] [] hx rfl (by decide) rfl rfl rfl rfl (le_upd (le_upd (le_upd (le_top _) (o1 (.ref rfl))) (o1 .sc)) (o1 .same)) (ac (.cells id (ac (.own rfl) (ac .sc (ac .sc (ac .sc an))))) (ac (.none _) (ac (.cells id (all2_row _)) an)))) (AW.seq (AW.region ?_))
 refine s_assign (d := (si 0)) rfl (AWops.nil (AW.seq (AW.seq (AW.region ?_))))
 refine s_move (d := (st_ a1)) rfl ?_
 obtain ⟨r1, er1, h⟩ := bnd h
 refine cc [] [(o_dossierref03_Disk_0 false (C.own 2 0 p0.L.length 3) p0), none, (or_ e_dossierref03_File p0.L)] (sb r1) F.ca_70 rfl rfl (ac (.one .sc) an) an (dossierref03_named.meets _ a1 r1 er1) (s_not rfl (AWops.nil ?_))
 rcases itH h with ⟨c2, h⟩ | ⟨c2, h⟩
 ·refine AW.cond_no rfl (by rw [c2] <;> rfl) (AW.skip (AW.seq (AW.seq (AW.region ?_))))
  refine s_move (d := (rf 0 0)) rfl (s_nilCheck (d := (rf 0 0)) rfl (.inl ⟨_, _, rfl⟩) (s_fieldRef F.fo_52_3 (by decide) rfl (s_load1 (c' := (cb p0.Off)) F.ag_4 rfl rfl (AWops.nil ?_))))
  rcases itH h with ⟨c3, h⟩ | ⟨c3, h⟩
  ·refine AW.cond_yes rfl c3 (AW.seq (AW.region ?_))
   refine s_assign (d := (si 70)) rfl (AWops.nil (AW.ret ?_))
   obtain rfl := Option.some.inj h
   exact ⟨_, rfl, (wG 2 [0, 1, 2] [])⟩
  ·refine AW.cond_no rfl c3 (AW.skip (AW.seq (AW.seq ?_)))
   refine AW.weak (st' := ⟨64, (upd 64 (upd 64 (upd 64 topF 0 (rf 0 0)) 1 (st_ a1)) 2 (D.one (C.p false (.sl a2.length (a2.flatMap e_u8))))), [(o_dossierref03_Disk_0 false (C.own 2 0 p0.L.length 3) p0), none, (or_ e_dossierref03_File p0.L)]⟩) (wG 2 [0, 1, 2] []) ?_
   rcases itH h with ⟨c4, h⟩ | ⟨c4, h⟩
   ·obtain ⟨r5, er5, h⟩ := bnd h
    refine AW.draw2 4 [kf 18 (D.one (C.p false (.sl a2.length (a2.flatMap e_u8)))) [2], kf 19 (si (a2.length : Int)) [18], kf 20 (sb (decide ((a2.length : Int) > 0))) [19], kf 21 (sb (decide ((a2.length : Int) > 0))) [20], kf 22 (D.one (C.p false (.sl a2.length (a2.flatMap e_u8)))) [2, 21], kf 23 (si (a2.length : Int)) [21, 22], kf 24 (rf 0 0) [0, 21], kf 25 (rf 0 0) [21, 24], kf 26 (rf 0 1) [21, 25], ⟨some 27, (si p0.Most), [21, 26], [0], [], none⟩, kf 28 (rf 0 0) [0, 21], ⟨some 29, (si r5), [21, 28], [0, 2], [], none⟩, kf 30 (si (IntKind.i64.wrap (p0.Most - r5))) [21, 27, 29], kf 31 (sb (decide ((a2.length : Int) > (IntKind.i64.wrap (p0.Most - r5))))) [21, 23, 30], kf 32 (sb (decide ((a2.length : Int) > (IntKind.i64.wrap (p0.Most - r5))))) [21, 31]] ⟨?_, ?_⟩
    ·refine (pA (pC ?_ (pA (pA (pY c4 (pC ?_ (pY c4 (pY c4 (pYE c4 F.fo_52_1 (pYE c4 F.ag_3 (pY c4 (pC ?_ (pY c4 (pY c4 (pC ?_ AllStep.nil')))))))))))))))
     ·intro K rest fr hv htk k
      refine s_len (n := a2.length) F.u_22 rfl (.inr ⟨(fun _ _ h => by cases h), ⟨_, rfl⟩⟩) k
     ·intro K rest fr hv htk k
      refine AWops.guard_yes rfl (nl rfl) rfl c4 ?_
      refine s_len (n := a2.length) F.u_22 rfl (.inr ⟨(fun _ _ h => by cases h), ⟨_, rfl⟩⟩) k
     ·intro K rest fr hv htk k
      show AWops _ x _ _ K ⟨64, (upd 64 (upd 64 fr 28 (rf 0 0)) 21 (sb (decide ((a2.length : Int) > 0)))), [(o_dossierref03_Disk_0 false (C.own 2 0 p0.L.length 3) p0), (hv 1), (or_ e_dossierref03_File p0.L), (hv 3)]⟩
      refine AWops.guard_yes rfl (nl rfl) rfl c4 ?_
      refine cc [0, 2] [(o_dossierref03_Disk_0 false (C.own 2 0 p0.L.length 3) p0), (hv 1), (or_ e_dossierref03_File p0.L), (hv 3)] (si r5) F.ca_55 rfl rfl (ac (.one (.ref rfl)) an) (ac (.cells (ac (.own rfl) (ac .sc (ac .sc (ac .sc an))))) (ac (.cells (lend_row _)) an)) (dossierref03_Disk_Used.meets _ p0 r5 er5) k
     ·intro K rest fr hv htk k
      refine s_pick_yes (d := (sb (decide ((a2.length : Int) > (IntKind.i64.wrap (p0.Most - r5)))))) rfl c4 rfl k
    ·refine AWops.weak (st' := ⟨64, (upd 64 (upd 64 (upd 64 (upd 64 topF 0 (rf 0 0)) 1 (st_ a1)) 2 (D.one (C.p false (.sl a2.length (a2.flatMap e_u8))))) 32 (sb (decide ((a2.length : Int) > (IntKind.i64.wrap (p0.Most - r5)))))), [(o_dossierref03_Disk_0 false (C.own 2 0 p0.L.length 3) p0), none, (or_ e_dossierref03_File p0.L)]⟩) (wG 2 [0, 1, 2] []) (AWops.nil ?_)
     rcases itH h with ⟨c6, h⟩ | ⟨c6, h⟩
     ·refine AW.cond_yes rfl c6 (AW.seq (AW.region ?_))
      refine s_assign (d := (si 71)) rfl (AWops.nil (AW.ret ?_))
      obtain rfl := Option.some.inj h
      exact ⟨_, rfl, (wG 2 [0, 1, 2] [])⟩
     ·refine AW.cond_no rfl c6 (AW.skip (AW.seq (AW.seq (AW.region ?_))))
      refine s_move (d := (rf 0 0)) rfl ?_
      obtain ⟨r7, er7, h⟩ := bnd h
      refine cc [0, 2] [(o_dossierref03_Disk_0 false (C.own 2 0 r7.2.L.length 3) r7.2), none, (or_ e_dossierref03_File r7.2.L)] (si r7.1) F.ca_64 rfl rfl (ac (.one (.ref rfl)) an) (ac (.cells (ac (.own rfl) (ac .sc (ac .sc (ac .sc an))))) (ac (.cells (lend_row _)) an)) (dossierref03_Disk_burn.meets _ p0 r7 er7) (s_assign (d := (si r7.1)) rfl (AWops.nil (AW.seq (AW.region (s_move (d := (si r7.1)) rfl (s_binI (v := (.bool (r7.1 != 0))) rfl rfl rfl (AWops.nil ?_)))))))
      rcases itH h with ⟨c8, h⟩ | ⟨c8, h⟩
      ·refine AW.cond_yes rfl c8 (AW.seq (AW.region ?_))
       refine s_move (d := (si r7.1)) rfl (s_assign (d := (si r7.1)) rfl (AWops.nil (AW.ret ?_)))
       obtain rfl := Option.some.inj h
       exact ⟨_, rfl, (wG 2 [0, 1, 2] [])⟩
      ·refine AW.cond_no rfl c8 (AW.skip (AW.seq (AW.region ?_)))
       refine s_move (d := (st_ a1)) rfl (s_build (ps := [(0, (st_ a1))]) (cs := [(ct a1), (C.p true (.v (.slice none 0 0))), (ci 0)]) F.z_90 rfl F.so_90 rfl rfl (s_alloc (cs := [(ct (⟨#[]⟩ : ByteArray)), (C.p true (.v (.slice none 0 0))), (ci 0)]) F.z_90 rfl rfl (s_store (cs' := [(ct a1), (C.p true (.v (.slice none 0 0))), (ci 0)]) rfl rfl rfl (List.cons_ne_nil _ _) rfl F.sz_90 (nl rfl) rfl (AWops.nil ?_))))
       refine AW.seqJ (fun st => ∃ (x13 : dossierref03_File), dossierref03_Disk_Append_36.j0 k x13 a2 r7 = some r ∧ st = ⟨64, (upd 64 (upd 64 (upd 64 topF 0 (rf 0 0)) 2 (D.one (C.p false (.sl a2.length (a2.flatMap e_u8))))) 8 (rf 2 0)), [(o_dossierref03_Disk_0 false (C.own 3 0 r7.2.L.length 3) r7.2), none, (some (AObj.cells true (c_dossierref03_File x13))), (or_ e_dossierref03_File r7.2.L)]⟩) ?_ ?_
       ·refine AW.seq (AW.region ?_)
        refine s_move (d := (rf 0 0)) rfl (s_move (d := (st_ a1)) rfl ?_)
        obtain ⟨r9, er9, h⟩ := bnd h
        refine cc [0, 2] [(o_dossierref03_Disk_0 false (C.own 2 0 r7.2.L.length 3) r7.2), none, (or_ e_dossierref03_File r7.2.L), (some (AObj.cells true [(ct a1), (C.p true (.v (.slice none 0 0))), (ci 0)]))] (D.tup [(si r9.1), (sb r9.2)]) F.ca_71 rfl rfl (ac (.one (.ref rfl)) (ac (.one .sc) an)) (ac (.cells (ac (.own rfl) (ac .sc (ac .sc (ac .sc an))))) (ac (.cells (lend_row _)) an)) (dossierref03_Disk_place.meets _ r7.2 a1 r9 er9) (s_move (d := (D.tup [(si r9.1), (sb r9.2)])) rfl (s_extract (d := (si r9.1)) rfl rfl (s_extract (d := (sb r9.2)) rfl rfl (s_assign (d := (si r9.1)) rfl (s_assign (d := (sb r9.2)) rfl (AWops.nil (AW.seq (AW.region ?_))))))))
        refine s_move (d := (sb r9.2)) rfl (AWops.nil ?_)
        rcases itH h with ⟨c10, h⟩ | ⟨c10, h⟩
        ·refine AW.cond_yes rfl c10 (AW.region ?_)
         refine s_move (d := (rf 0 0)) rfl (s_nilCheck (d := (rf 0 0)) rfl (.inl ⟨_, _, rfl⟩) (s_fieldRef F.fo_52_0 (by decide) rfl (s_load1 (c' := (C.own 2 0 r7.2.L.length 3)) F.ag_50 rfl rfl (s_move (d := (si r9.1)) rfl ?_))))
         obtain ⟨v11, ev11, h⟩ := bnd h
         obtain ⟨pv11, qv11, gv11⟩ := rd_some ev11
         refine s_indexOwn (d := (D.one (C.er 2 (0 + r9.1.toNat * 3)))) F.u_50 F.sz_90 rfl rfl pv11 qv11 rfl ?_
         obtain ⟨R12, hR12⟩ := row_at (f := e_dossierref03_File) (sz := 3) (o := 0) e_dossierref03_File_len gv11 (e_dossierref03_File_eq v11) (by decide)
         refine s_loadN (ds := (c_dossierref03_File v11)) F.ag_90 F.sz_90 (congrArg some hR12) rfl rfl (s_store (cs' := (c_dossierref03_File v11)) rfl rfl rfl (List.cons_ne_nil _ _) rfl F.sz_90 (nl rfl) rfl (AWops.nil ?_))
         exact ⟨⟨64, (upd 64 (upd 64 (upd 64 topF 0 (rf 0 0)) 2 (D.one (C.p false (.sl a2.length (a2.flatMap e_u8))))) 8 (rf 2 0)), [(o_dossierref03_Disk_0 false (C.own 3 0 r7.2.L.length 3) r7.2), none, (some (AObj.cells true (c_dossierref03_File v11))), (or_ e_dossierref03_File r7.2.L)]⟩, (wG 2 [0, 1, 3, 2] []), v11, h, rfl⟩
        ·refine AW.cond_no rfl c10 (AW.skip ?_)
         exact ⟨⟨64, (upd 64 (upd 64 (upd 64 topF 0 (rf 0 0)) 2 (D.one (C.p false (.sl a2.length (a2.flatMap e_u8))))) 8 (rf 2 0)), [(o_dossierref03_Disk_0 false (C.own 3 0 r7.2.L.length 3) r7.2), none, (some (AObj.cells true (c_dossierref03_File (⟨a1, ([] : List Int), 0⟩ : dossierref03_File)))), (or_ e_dossierref03_File r7.2.L)]⟩, (wG 2 [0, 1, 3, 2] []), (⟨a1, ([] : List Int), 0⟩ : dossierref03_File), h, rfl⟩
       ·rintro st ⟨x13, h, rfl⟩
        cases k with
        | zero => exact absurd h (by simp [dossierref03_Disk_Append_36.j0])
        | succ qj0 =>
         replace h := (dossierref03_Disk_Append_36.j0.eq_2 _ _ _ _).symm.trans h
         refine AW.seq (AW.region ?_)
         refine s_buildSlice (n := 0) (ps := []) (cs := rowC e_u8 ([] : List Int)) F.u_22 F.sz_5 F.z_5 rfl rfl (by decide) (by decide) rfl rfl (s_fieldRef F.fo_90_1 (by decide) rfl (s_load1 (c' := (C.p false (.sl x13.B.length (x13.B.flatMap e_u8)))) F.ag_22 rfl rfl ?_))
         obtain ⟨c14, h⟩ := gdH h
         have dc14 := of_decide_eq_true c14
         refine t_append (xs := ([] : List Int)) (ys := x13.B) (zs := x13.B) (H' := [(o_dossierref03_Disk_0 false (C.own 3 0 r7.2.L.length 3) r7.2), none, (some (AObj.cells true (c_dossierref03_File x13))), (or_ e_dossierref03_File r7.2.L), none, (ow_ e_u8 x13.B)]) F.u_22 F.in_5 rfl e_u8_len (.own rfl rfl) .imm F.u_22 (by omega) (by omega) rfl rfl (s_move (d := (D.one (C.p false (.sl a2.length (a2.flatMap e_u8))))) rfl ?_)
         obtain ⟨c15, h⟩ := gdH h
         have dc15 := of_decide_eq_true c15
         refine t_append (xs := x13.B) (ys := a2) (zs := x13.B ++ a2) (H' := [(o_dossierref03_Disk_0 false (C.own 3 0 r7.2.L.length 3) r7.2), none, (some (AObj.cells true (c_dossierref03_File x13))), (or_ e_dossierref03_File r7.2.L), none, none, (some (AObj.cells true (rowC e_u8 (x13.B ++ a2))))]) F.u_22 F.in_5 rfl e_u8_len (.own rfl rfl) .imm F.u_22 (by omega) (by omega) rfl rfl (s_fieldRef F.fo_90_1 (by decide) rfl (s_store (cs' := [(ct x13.Name), (C.own 6 0 ((x13.B ++ a2).length) 1), (ci x13.Sure)]) rfl rfl rfl (List.cons_ne_nil _ _) rfl F.sz_22 (nl rfl) rfl (AWops.nil (AW.seq (AW.region (s_move (d := (rf 0 0)) rfl (s_loadN (ds := [(ct x13.Name), (C.own 6 0 ((x13.B ++ a2).length) 1), (ci x13.Sure)]) F.ag_90 F.sz_90 rfl rfl rfl ?_)))))))
         obtain ⟨r16, er16, h⟩ := bnd h
         refine AWops.weak (st' := ⟨64, (upd 64 (upd 64 (upd 64 (upd 64 (upd 64 (upd 64 (upd 64 (upd 64 (upd 64 (upd 64 topF 0 (rf 0 0)) 2 (D.one (C.p false (.sl a2.length (a2.flatMap e_u8))))) 8 (rf 2 0)) 55 (rf 2 1)) 56 (D.one (C.p false (.sl x13.B.length (x13.B.flatMap e_u8))))) 58 (D.one (C.p false (.sl a2.length (a2.flatMap e_u8))))) 59 (D.one (C.p false (.sl (x13.B ++ a2).length ((x13.B ++ a2).flatMap e_u8))))) 60 (rf 2 1)) 61 (rf 0 0)) 62 (D.agg [(ct x13.Name), (C.p false (.sl (x13.B ++ a2).length ((x13.B ++ a2).flatMap e_u8))), (ci x13.Sure)])), [(o_dossierref03_Disk_0 false (C.own 3 0 r7.2.L.length 3) r7.2), none, (some (AObj.cells true [(ct x13.Name), (C.p false (.sl (x13.B ++ a2).length ((x13.B ++ a2).flatMap e_u8))), (ci x13.Sure)])), (or_ e_dossierref03_File r7.2.L)]⟩) (wG 2 [0, 1, 2, 3] [6]) ?_
         refine cc [0, 3] [(o_dossierref03_Disk_0 false (C.own 4 0 r16.L.length 3) r16), none, (some (AObj.cells true [(ct x13.Name), (C.p false (.sl (x13.B ++ a2).length ((x13.B ++ a2).flatMap e_u8))), (ci x13.Sure)])), none, (or_ e_dossierref03_File r16.L)] (D.tup []) F.ca_66 rfl rfl (ac (.one (.ref rfl)) (ac (LendT.aggL (ac .sc (ac .imm (ac .sc an)))) an)) (ac (.cells (ac (.own rfl) (ac .sc (ac .sc (ac .sc an))))) (ac (.cells (lend_row _)) an)) (dossierref03_Disk_set_66.meets _ r7.2 (⟨x13.Name, x13.B ++ a2, x13.Sure⟩ : dossierref03_File) r16 er16) (AWops.nil (AW.seq (AW.region ?_)))
         refine s_assign (d := (si 0)) rfl (AWops.nil (AW.ret ?_))
         obtain rfl := Option.some.inj h
         exact ⟨_, rfl, (wG 2 [0, 1, 4] [])⟩
   ·refine AW.draw2 4 [kf 18 (D.one (C.p false (.sl a2.length (a2.flatMap e_u8)))) [2], kf 19 (si (a2.length : Int)) [18], kf 20 (sb (decide ((a2.length : Int) > 0))) [19], kf 21 (sb (decide ((a2.length : Int) > 0))) [20], kf 22 (D.tup []) [2, 21], kf 23 (D.tup []) [21], kf 24 (D.tup []) [21], kf 25 (D.tup []) [21], kf 26 (D.tup []) [21], kf 27 (D.tup []) [21], kf 28 (D.tup []) [21], kf 29 (D.tup []) [21], kf 30 (D.tup []) [21], kf 31 (D.tup []) [21], kf 32 (sb false) [21]] ⟨?_, ?_⟩
    ·refine (pA (pC ?_ (pA (pA (pN c4 (pN c4 (pN c4 (pN c4 (pN c4 (pN c4 (pN c4 (pN c4 (pN c4 (pN c4 (pC ?_ AllStep.nil')))))))))))))))
     ·intro K rest fr hv htk k
      refine s_len (n := a2.length) F.u_22 rfl (.inr ⟨(fun _ _ h => by cases h), ⟨_, rfl⟩⟩) k
     ·intro K rest fr hv htk k
      refine s_pick_no (d := (sb false)) rfl c4 rfl k
    ·refine AWops.weak (st' := ⟨64, (upd 64 (upd 64 (upd 64 (upd 64 topF 0 (rf 0 0)) 1 (st_ a1)) 2 (D.one (C.p false (.sl a2.length (a2.flatMap e_u8))))) 32 (sb false)), [(o_dossierref03_Disk_0 false (C.own 2 0 p0.L.length 3) p0), none, (or_ e_dossierref03_File p0.L)]⟩) (wG 2 [0, 1, 2] []) (AWops.nil ?_)
     refine AW.cond_no rfl rfl (AW.skip (AW.seq (AW.seq (AW.region ?_))))
     refine s_move (d := (rf 0 0)) rfl ?_
     obtain ⟨r17, er17, h⟩ := bnd h
     refine cc [0, 2] [(o_dossierref03_Disk_0 false (C.own 2 0 r17.2.L.length 3) r17.2), none, (or_ e_dossierref03_File r17.2.L)] (si r17.1) F.ca_64 rfl rfl (ac (.one (.ref rfl)) an) (ac (.cells (ac (.own rfl) (ac .sc (ac .sc (ac .sc an))))) (ac (.cells (lend_row _)) an)) (dossierref03_Disk_burn.meets _ p0 r17 er17) (s_assign (d := (si r17.1)) rfl (AWops.nil (AW.seq (AW.region (s_move (d := (si r17.1)) rfl (s_binI (v := (.bool (r17.1 != 0))) rfl rfl rfl (AWops.nil ?_)))))))
     rcases itH h with ⟨c18, h⟩ | ⟨c18, h⟩
     ·refine AW.cond_yes rfl c18 (AW.seq (AW.region ?_))
      refine s_move (d := (si r17.1)) rfl (s_assign (d := (si r17.1)) rfl (AWops.nil (AW.ret ?_)))
      obtain rfl := Option.some.inj h
      exact ⟨_, rfl, (wG 2 [0, 1, 2] [])⟩
     ·refine AW.cond_no rfl c18 (AW.skip (AW.seq (AW.region ?_)))
      refine s_move (d := (st_ a1)) rfl (s_build (ps := [(0, (st_ a1))]) (cs := [(ct a1), (C.p true (.v (.slice none 0 0))), (ci 0)]) F.z_90 rfl F.so_90 rfl rfl (s_alloc (cs := [(ct (⟨#[]⟩ : ByteArray)), (C.p true (.v (.slice none 0 0))), (ci 0)]) F.z_90 rfl rfl (s_store (cs' := [(ct a1), (C.p true (.v (.slice none 0 0))), (ci 0)]) rfl rfl rfl (List.cons_ne_nil _ _) rfl F.sz_90 (nl rfl) rfl (AWops.nil ?_))))
      refine AW.seqJ (fun st => ∃ (x23 : dossierref03_File), dossierref03_Disk_Append_36.j1 k x23 a2 r17 = some r ∧ st = ⟨64, (upd 64 (upd 64 (upd 64 topF 0 (rf 0 0)) 2 (D.one (C.p false (.sl a2.length (a2.flatMap e_u8))))) 8 (rf 2 0)), [(o_dossierref03_Disk_0 false (C.own 3 0 r17.2.L.length 3) r17.2), none, (some (AObj.cells true (c_dossierref03_File x23))), (or_ e_dossierref03_File r17.2.L)]⟩) ?_ ?_
      ·refine AW.seq (AW.region ?_)
       refine s_move (d := (rf 0 0)) rfl (s_move (d := (st_ a1)) rfl ?_)
       obtain ⟨r19, er19, h⟩ := bnd h
       refine cc [0, 2] [(o_dossierref03_Disk_0 false (C.own 2 0 r17.2.L.length 3) r17.2), none, (or_ e_dossierref03_File r17.2.L), (some (AObj.cells true [(ct a1), (C.p true (.v (.slice none 0 0))), (ci 0)]))] (D.tup [(si r19.1), (sb r19.2)]) F.ca_71 rfl rfl (ac (.one (.ref rfl)) (ac (.one .sc) an)) (ac (.cells (ac (.own rfl) (ac .sc (ac .sc (ac .sc an))))) (ac (.cells (lend_row _)) an)) (dossierref03_Disk_place.meets _ r17.2 a1 r19 er19) (s_move (d := (D.tup [(si r19.1), (sb r19.2)])) rfl (s_extract (d := (si r19.1)) rfl rfl (s_extract (d := (sb r19.2)) rfl rfl (s_assign (d := (si r19.1)) rfl (s_assign (d := (sb r19.2)) rfl (AWops.nil (AW.seq (AW.region ?_))))))))
       refine s_move (d := (sb r19.2)) rfl (AWops.nil ?_)
       rcases itH h with ⟨c20, h⟩ | ⟨c20, h⟩
       ·refine AW.cond_yes rfl c20 (AW.region ?_)
        refine s_move (d := (rf 0 0)) rfl (s_nilCheck (d := (rf 0 0)) rfl (.inl ⟨_, _, rfl⟩) (s_fieldRef F.fo_52_0 (by decide) rfl (s_load1 (c' := (C.own 2 0 r17.2.L.length 3)) F.ag_50 rfl rfl (s_move (d := (si r19.1)) rfl ?_))))
        obtain ⟨v21, ev21, h⟩ := bnd h
        obtain ⟨pv21, qv21, gv21⟩ := rd_some ev21
        refine s_indexOwn (d := (D.one (C.er 2 (0 + r19.1.toNat * 3)))) F.u_50 F.sz_90 rfl rfl pv21 qv21 rfl ?_
        obtain ⟨R22, hR22⟩ := row_at (f := e_dossierref03_File) (sz := 3) (o := 0) e_dossierref03_File_len gv21 (e_dossierref03_File_eq v21) (by decide)
        refine s_loadN (ds := (c_dossierref03_File v21)) F.ag_90 F.sz_90 (congrArg some hR22) rfl rfl (s_store (cs' := (c_dossierref03_File v21)) rfl rfl rfl (List.cons_ne_nil _ _) rfl F.sz_90 (nl rfl) rfl (AWops.nil ?_))
        exact ⟨⟨64, (upd 64 (upd 64 (upd 64 topF 0 (rf 0 0)) 2 (D.one (C.p false (.sl a2.length (a2.flatMap e_u8))))) 8 (rf 2 0)), [(o_dossierref03_Disk_0 false (C.own 3 0 r17.2.L.length 3) r17.2), none, (some (AObj.cells true (c_dossierref03_File v21))), (or_ e_dossierref03_File r17.2.L)]⟩, (wG 2 [0, 1, 3, 2] []), v21, h, rfl⟩
       ·refine AW.cond_no rfl c20 (AW.skip ?_)
        exact ⟨⟨64, (upd 64 (upd 64 (upd 64 topF 0 (rf 0 0)) 2 (D.one (C.p false (.sl a2.length (a2.flatMap e_u8))))) 8 (rf 2 0)), [(o_dossierref03_Disk_0 false (C.own 3 0 r17.2.L.length 3) r17.2), none, (some (AObj.cells true (c_dossierref03_File (⟨a1, ([] : List Int), 0⟩ : dossierref03_File)))), (or_ e_dossierref03_File r17.2.L)]⟩, (wG 2 [0, 1, 3, 2] []), (⟨a1, ([] : List Int), 0⟩ : dossierref03_File), h, rfl⟩
      ·rintro st ⟨x23, h, rfl⟩
       cases k with
       | zero => exact absurd h (by simp [dossierref03_Disk_Append_36.j1])
       | succ qj1 =>
        replace h := (dossierref03_Disk_Append_36.j1.eq_2 _ _ _ _).symm.trans h
        refine AW.seq (AW.region ?_)
        refine s_buildSlice (n := 0) (ps := []) (cs := rowC e_u8 ([] : List Int)) F.u_22 F.sz_5 F.z_5 rfl rfl (by decide) (by decide) rfl rfl (s_fieldRef F.fo_90_1 (by decide) rfl (s_load1 (c' := (C.p false (.sl x23.B.length (x23.B.flatMap e_u8)))) F.ag_22 rfl rfl ?_))
        obtain ⟨c24, h⟩ := gdH h
        have dc24 := of_decide_eq_true c24
        refine t_append (xs := ([] : List Int)) (ys := x23.B) (zs := x23.B) (H' := [(o_dossierref03_Disk_0 false (C.own 3 0 r17.2.L.length 3) r17.2), none, (some (AObj.cells true (c_dossierref03_File x23))), (or_ e_dossierref03_File r17.2.L), none, (ow_ e_u8 x23.B)]) F.u_22 F.in_5 rfl e_u8_len (.own rfl rfl) .imm F.u_22 (by omega) (by omega) rfl rfl (s_move (d := (D.one (C.p false (.sl a2.length (a2.flatMap e_u8))))) rfl ?_)
        obtain ⟨c25, h⟩ := gdH h
        have dc25 := of_decide_eq_true c25
        refine t_append (xs := x23.B) (ys := a2) (zs := x23.B ++ a2) (H' := [(o_dossierref03_Disk_0 false (C.own 3 0 r17.2.L.length 3) r17.2), none, (some (AObj.cells true (c_dossierref03_File x23))), (or_ e_dossierref03_File r17.2.L), none, none, (some (AObj.cells true (rowC e_u8 (x23.B ++ a2))))]) F.u_22 F.in_5 rfl e_u8_len (.own rfl rfl) .imm F.u_22 (by omega) (by omega) rfl rfl (s_fieldRef F.fo_90_1 (by decide) rfl (s_store (cs' := [(ct x23.Name), (C.own 6 0 ((x23.B ++ a2).length) 1), (ci x23.Sure)]) rfl rfl rfl (List.cons_ne_nil _ _) rfl F.sz_22 (nl rfl) rfl (AWops.nil (AW.seq (AW.region (s_move (d := (rf 0 0)) rfl (s_loadN (ds := [(ct x23.Name), (C.own 6 0 ((x23.B ++ a2).length) 1), (ci x23.Sure)]) F.ag_90 F.sz_90 rfl rfl rfl ?_)))))))
        obtain ⟨r26, er26, h⟩ := bnd h
        refine AWops.weak (st' := ⟨64, (upd 64 (upd 64 (upd 64 (upd 64 (upd 64 (upd 64 (upd 64 (upd 64 (upd 64 (upd 64 topF 0 (rf 0 0)) 2 (D.one (C.p false (.sl a2.length (a2.flatMap e_u8))))) 8 (rf 2 0)) 55 (rf 2 1)) 56 (D.one (C.p false (.sl x23.B.length (x23.B.flatMap e_u8))))) 58 (D.one (C.p false (.sl a2.length (a2.flatMap e_u8))))) 59 (D.one (C.p false (.sl (x23.B ++ a2).length ((x23.B ++ a2).flatMap e_u8))))) 60 (rf 2 1)) 61 (rf 0 0)) 62 (D.agg [(ct x23.Name), (C.p false (.sl (x23.B ++ a2).length ((x23.B ++ a2).flatMap e_u8))), (ci x23.Sure)])), [(o_dossierref03_Disk_0 false (C.own 3 0 r17.2.L.length 3) r17.2), none, (some (AObj.cells true [(ct x23.Name), (C.p false (.sl (x23.B ++ a2).length ((x23.B ++ a2).flatMap e_u8))), (ci x23.Sure)])), (or_ e_dossierref03_File r17.2.L)]⟩) (wG 2 [0, 1, 2, 3] [6]) ?_
        refine cc [0, 3] [(o_dossierref03_Disk_0 false (C.own 4 0 r26.L.length 3) r26), none, (some (AObj.cells true [(ct x23.Name), (C.p false (.sl (x23.B ++ a2).length ((x23.B ++ a2).flatMap e_u8))), (ci x23.Sure)])), none, (or_ e_dossierref03_File r26.L)] (D.tup []) F.ca_66 rfl rfl (ac (.one (.ref rfl)) (ac (LendT.aggL (ac .sc (ac .imm (ac .sc an)))) an)) (ac (.cells (ac (.own rfl) (ac .sc (ac .sc (ac .sc an))))) (ac (.cells (lend_row _)) an)) (dossierref03_Disk_set_66.meets _ r17.2 (⟨x23.Name, x23.B ++ a2, x23.Sure⟩ : dossierref03_File) r26 er26) (AWops.nil (AW.seq (AW.region ?_)))
        refine s_assign (d := (si 0)) rfl (AWops.nil (AW.ret ?_))
        obtain rfl := Option.some.inj h
        exact ⟨_, rfl, (wG 2 [0, 1, 4] [])⟩
 ·refine AW.cond_yes rfl (by rw [c2] <;> rfl) (AW.seq (AW.region ?_))
  refine s_assign (d := (si 1)) rfl (AWops.nil (AW.ret ?_))
  obtain rfl := Option.some.inj h
  exact ⟨_, rfl, (wG 2 [0, 1, 2] [])⟩
mutual
def dossierref03_Disk_Sync_38.j0 : Nat → Int → Int → Bool → (List dossierref03_File) → Int → (dossierref03_File × Int) → Option (Int × dossierref03_Disk)
 | 0, _, _, _, _, _, _ => none
 | k + 1, x4, x5, x6, x7, x8, r1 => if (x8 == 0) = true then ((dossierref03_Disk_set_66.f k (⟨x7, x4, x5, x6⟩ : dossierref03_Disk) (⟨r1.1.Name, r1.1.B, (r1.1.B.length : Int)⟩ : dossierref03_File)).bind fun r10 => some (x8, r10)) else (some (x8, (⟨x7, x4, x5, x6⟩ : dossierref03_Disk)))
end
def dossierref03_Disk_Sync_38.f (k : Nat) (p0 : dossierref03_Disk) (a1 : ByteArray) : Option (Int × dossierref03_Disk) := (dossierref03_Disk_there.f k p0 a1).bind fun r1 => if (r1.2 == 0) = true then ((dossierref03_Disk_burn.f k p0).bind fun r3 => dossierref03_Disk_Sync_38.j0 k r3.2.Most r3.2.Burns r3.2.Off r3.2.L r3.1 r1) else (dossierref03_Disk_Sync_38.j0 k p0.Most p0.Burns p0.Off p0.L r1.2 r1)
theorem dossierref03_Disk_Sync_38.meets (k : Nat) (p0 : dossierref03_Disk) (a1 : ByteArray) (r : Int × dossierref03_Disk) (h : dossierref03_Disk_Sync_38.f k p0 a1 = some r) : Meets Try.prog 38 [(rf 0 0), (st_ a1)] [(o_dossierref03_Disk_0 false (C.own 1 0 p0.L.length 3) p0), (or_ e_dossierref03_File p0.L)] (si r.1) [(o_dossierref03_Disk_0 false (C.own 2 0 r.2.L.length 3) r.2), none, (or_ e_dossierref03_File r.2.L)] := by
 unfold dossierref03_Disk_Sync_38.f at h
 refine Meets.of_body (n := 27) Try.func38 rfl rfl (nl rfl) fun x hx => ?_
 replace hx : x.k = 2 := hx
 show AW _ x _ _ ⟨27, fr0 [(rf 0 0), (st_ a1)], [(o_dossierref03_Disk_0 false (C.own 1 0 p0.L.length 3) p0), (or_ e_dossierref03_File p0.L)]⟩
 refine AW.weak (st' := ⟨27, (upd 27 (upd 27 topF 0 (rf 0 0)) 1 (st_ a1)), [(o_dossierref03_Disk_0 false (C.own 2 0 p0.L.length 3) p0), none, (or_ e_dossierref03_File p0.L)]⟩) (Weak.genL (kk := 2) [0, 1, 1] [] hx rfl (by decide) rfl rfl rfl rfl (le_upd (le_upd (le_top _) (o1 (.ref rfl))) (o1 .sc)) (ac (.cells id (ac (.own rfl) (ac .sc (ac .sc (ac .sc an))))) (ac (.none _) (ac (.cells id (all2_row _)) an)))) (AW.seq (AW.region ?_))
 refine s_assign (d := (si 0)) rfl (AWops.nil (AW.seq (AW.region ?_)))
 refine s_move (d := (rf 0 0)) rfl (s_move (d := (st_ a1)) rfl ?_)
 obtain ⟨r1, er1, h⟩ := bnd h
 refine cc [0, 2] [(o_dossierref03_Disk_0 false (C.own 2 0 p0.L.length 3) p0), none, (or_ e_dossierref03_File p0.L)] (D.tup [(D.agg (c_dossierref03_File r1.1)), (si r1.2)]) F.ca_63 rfl rfl (ac (.one (.ref rfl)) (ac (.one .sc) an)) (ac (.cells (ac (.own rfl) (ac .sc (ac .sc (ac .sc an))))) (ac (.cells (lend_row _)) an)) (dossierref03_Disk_there.meets _ p0 a1 r1 er1) (s_move (d := (D.tup [(D.agg (c_dossierref03_File r1.1)), (si r1.2)])) rfl (s_extract (d := (D.agg (c_dossierref03_File r1.1))) rfl rfl (s_extract (d := (si r1.2)) rfl rfl (s_alloc (cs := [(ct (⟨#[]⟩ : ByteArray)), (C.p true (.v (.slice none 0 0))), (ci 0)]) F.z_90 rfl rfl (s_store (cs' := (c_dossierref03_File r1.1)) rfl rfl rfl (List.cons_ne_nil _ _) rfl F.sz_90 (nl rfl) rfl ?_)))))
 refine s_assign (d := (si r1.2)) rfl (AWops.nil ?_)
 refine AW.seqJ (fun st => ∃ (x4 : Int) (x5 : Int) (x6 : Bool) (x7 : List dossierref03_File) (x8 : Int), dossierref03_Disk_Sync_38.j0 k x4 x5 x6 x7 x8 r1 = some r ∧ st = ⟨27, (upd 27 (upd 27 (upd 27 topF 0 (rf 0 0)) 5 (rf 2 0)) 6 (si x8)), [(some (AObj.cells false [(C.own 3 0 x7.length 3), (ci x4), (ci x5), (cb x6)])), none, (some (AObj.cells true (c_dossierref03_File r1.1))), (or_ e_dossierref03_File x7)]⟩) ?_ ?_
 ·refine AW.seq (AW.region ?_)
  refine s_move (d := (si r1.2)) rfl (s_binI (v := (.bool (r1.2 == 0))) rfl rfl rfl (AWops.nil ?_))
  rcases itH h with ⟨c2, h⟩ | ⟨c2, h⟩
  ·refine AW.cond_yes rfl c2 (AW.region ?_)
   refine s_move (d := (rf 0 0)) rfl ?_
   obtain ⟨r3, er3, h⟩ := bnd h
   refine cc [0, 2] [(o_dossierref03_Disk_0 false (C.own 2 0 r3.2.L.length 3) r3.2), none, (or_ e_dossierref03_File r3.2.L), (some (AObj.cells true (c_dossierref03_File r1.1)))] (si r3.1) F.ca_64 rfl rfl (ac (.one (.ref rfl)) an) (ac (.cells (ac (.own rfl) (ac .sc (ac .sc (ac .sc an))))) (ac (.cells (lend_row _)) an)) (dossierref03_Disk_burn.meets _ p0 r3 er3) (s_assign (d := (si r3.1)) rfl (AWops.nil ?_))
   exact ⟨⟨27, (upd 27 (upd 27 (upd 27 topF 0 (rf 0 0)) 5 (rf 2 0)) 6 (si r3.1)), [(some (AObj.cells false [(C.own 3 0 r3.2.L.length 3), (ci r3.2.Most), (ci r3.2.Burns), (cb r3.2.Off)])), none, (some (AObj.cells true (c_dossierref03_File r1.1))), (or_ e_dossierref03_File r3.2.L)]⟩, (wG 2 [0, 1, 3, 2] []), r3.2.Most, r3.2.Burns, r3.2.Off, r3.2.L, r3.1, h, rfl⟩
  ·refine AW.cond_no rfl c2 (AW.skip ?_)
   exact ⟨⟨27, (upd 27 (upd 27 (upd 27 topF 0 (rf 0 0)) 5 (rf 2 0)) 6 (si r1.2)), [(some (AObj.cells false [(C.own 3 0 p0.L.length 3), (ci p0.Most), (ci p0.Burns), (cb p0.Off)])), none, (some (AObj.cells true (c_dossierref03_File r1.1))), (or_ e_dossierref03_File p0.L)]⟩, (wG 2 [0, 1, 3, 2] []), p0.Most, p0.Burns, p0.Off, p0.L, r1.2, h, rfl⟩
 ·rintro st ⟨x4, x5, x6, x7, x8, h, rfl⟩
  cases k with
  | zero => exact absurd h (by simp [dossierref03_Disk_Sync_38.j0])
  | succ qj0 =>
   replace h := (dossierref03_Disk_Sync_38.j0.eq_2 _ _ _ _ _ _ _).symm.trans h
   refine AW.seq (AW.seq (AW.region ?_))
   refine s_move (d := (si x8)) rfl (s_binI (v := (.bool (x8 == 0))) rfl rfl rfl (AWops.nil ?_))
   rcases itH h with ⟨c9, h⟩ | ⟨c9, h⟩
   ·refine AW.cond_yes rfl c9 (AW.seq (AW.region ?_))
    refine s_fieldRef F.fo_90_1 (by decide) rfl (s_load1 (c' := (C.p false (.sl r1.1.B.length (r1.1.B.flatMap e_u8)))) F.ag_22 rfl rfl (s_len (n := r1.1.B.length) F.u_22 rfl (.inr ⟨(fun _ _ h => by cases h), ⟨_, rfl⟩⟩) (s_fieldRef F.fo_90_2 (by decide) rfl (s_store (cs' := [(ct r1.1.Name), (C.p false (.sl r1.1.B.length (r1.1.B.flatMap e_u8))), (ci (r1.1.B.length : Int))]) rfl rfl rfl (List.cons_ne_nil _ _) rfl F.sz_3 (nl rfl) rfl (AWops.nil (AW.region (s_move (d := (rf 0 0)) rfl ?_)))))))
    refine s_loadN (ds := [(ct r1.1.Name), (C.p false (.sl r1.1.B.length (r1.1.B.flatMap e_u8))), (ci (r1.1.B.length : Int))]) F.ag_90 F.sz_90 rfl rfl rfl ?_
    obtain ⟨r10, er10, h⟩ := bnd h
    refine cc [0, 3] [(o_dossierref03_Disk_0 false (C.own 4 0 r10.L.length 3) r10), none, (some (AObj.cells true [(ct r1.1.Name), (C.p false (.sl r1.1.B.length (r1.1.B.flatMap e_u8))), (ci (r1.1.B.length : Int))])), none, (or_ e_dossierref03_File r10.L)] (D.tup []) F.ca_66 rfl rfl (ac (.one (.ref rfl)) (ac (LendT.aggL (ac .sc (ac .imm (ac .sc an)))) an)) (ac (.cells (ac (.own rfl) (ac .sc (ac .sc (ac .sc an))))) (ac (.cells (lend_row _)) an)) (dossierref03_Disk_set_66.meets _ (⟨x7, x4, x5, x6⟩ : dossierref03_Disk) (⟨r1.1.Name, r1.1.B, (r1.1.B.length : Int)⟩ : dossierref03_File) r10 er10) (AWops.nil (AW.seq (AW.region ?_)))
    refine s_move (d := (si x8)) rfl (s_assign (d := (si x8)) rfl (AWops.nil (AW.ret ?_)))
    obtain rfl := Option.some.inj h
    exact ⟨_, rfl, (wG 2 [0, 1, 4] [])⟩
   ·refine AW.cond_no rfl c9 (AW.skip (AW.seq (AW.region ?_)))
    refine s_move (d := (si x8)) rfl (s_assign (d := (si x8)) rfl (AWops.nil (AW.ret ?_)))
    obtain rfl := Option.some.inj h
    exact ⟨_, rfl, (wG 2 [0, 1, 3] [])⟩
mutual
def dossierref03_Disk_Rename_40.j0 : Nat → Int → Int → Bool → (List dossierref03_File) → Int → ByteArray → ByteArray → (dossierref03_File × Int) → Option (Int × dossierref03_Disk)
 | 0, _, _, _, _, _, _, _, _ => none
 | k + 1, x6, x7, x8, x9, x10, a1, a2, r3 => if (x10 == 0) = true then ((dossierref03_Disk_cut_65.f k (⟨x9, x6, x7, x8⟩ : dossierref03_Disk) a1).bind fun r12 => (dossierref03_Disk_set_66.f k r12 (⟨a2, r3.1.B, r3.1.Sure⟩ : dossierref03_File)).bind fun r13 => some (x10, r13)) else (some (x10, (⟨x9, x6, x7, x8⟩ : dossierref03_Disk)))
end
def dossierref03_Disk_Rename_40.f (k : Nat) (p0 : dossierref03_Disk) (a1 : ByteArray) (a2 : ByteArray) : Option (Int × dossierref03_Disk) := (dossierref03_named.f k a2).bind fun r1 => if r1 = true then ((dossierref03_Disk_there.f k p0 a1).bind fun r3 => if (r3.2 == 0) = true then ((dossierref03_Disk_burn.f k p0).bind fun r5 => dossierref03_Disk_Rename_40.j0 k r5.2.Most r5.2.Burns r5.2.Off r5.2.L r5.1 a1 a2 r3) else (dossierref03_Disk_Rename_40.j0 k p0.Most p0.Burns p0.Off p0.L r3.2 a1 a2 r3)) else (some (1, p0))
theorem dossierref03_Disk_Rename_40.meets (k : Nat) (p0 : dossierref03_Disk) (a1 : ByteArray) (a2 : ByteArray) (r : Int × dossierref03_Disk) (h : dossierref03_Disk_Rename_40.f k p0 a1 a2 = some r) : Meets Try.prog 40 [(rf 0 0), (st_ a1), (st_ a2)] [(o_dossierref03_Disk_0 false (C.own 1 0 p0.L.length 3) p0), (or_ e_dossierref03_File p0.L)] (si r.1) [(o_dossierref03_Disk_0 false (C.own 2 0 r.2.L.length 3) r.2), none, (or_ e_dossierref03_File r.2.L)] := by
 unfold dossierref03_Disk_Rename_40.f at h
 refine Meets.of_body (n := 33) Try.func40 rfl rfl (nl rfl) fun x hx => ?_
 replace hx : x.k = 2 := hx
 show AW _ x _ _ ⟨33, fr0 [(rf 0 0), (st_ a1), (st_ a2)], [(o_dossierref03_Disk_0 false (C.own 1 0 p0.L.length 3) p0), (or_ e_dossierref03_File p0.L)]⟩
 refine AW.weak (st' := ⟨33, (upd 33 (upd 33 (upd 33 topF 0 (rf 0 0)) 1 (st_ a1)) 2 (st_ a2)), [(o_dossierref03_Disk_0 false (C.own 2 0 p0.L.length 3) p0), none, (or_ e_dossierref03_File p0.L)]⟩) (Weak.genL (kk := 2) [0, 1, 1] [] hx rfl (by decide) rfl rfl rfl rfl (le_upd (le_upd (le_upd (le_top _) (o1 (.ref rfl))) (o1 .sc)) (o1 .sc)) (ac (.cells id (ac (.own rfl) (ac .sc (ac .sc (ac .sc an))))) (ac (.none _) (ac (.cells id (all2_row _)) an)))) (AW.seq (AW.region ?_))
 refine s_assign (d := (si 0)) rfl (AWops.nil (AW.seq (AW.seq (AW.region ?_))))
 refine s_move (d := (st_ a2)) rfl ?_
 obtain ⟨r1, er1, h⟩ := bnd h
 refine cc [] [(o_dossierref03_Disk_0 false (C.own 2 0 p0.L.length 3) p0), none, (or_ e_dossierref03_File p0.L)] (sb r1) F.ca_70 rfl rfl (ac (.one .sc) an) an (dossierref03_named.meets _ a2 r1 er1) (s_not rfl (AWops.nil ?_))
 rcases itH h with ⟨c2, h⟩ | ⟨c2, h⟩
 ·refine AW.cond_no rfl (by rw [c2] <;> rfl) (AW.skip (AW.seq (AW.region ?_)))
  refine s_move (d := (rf 0 0)) rfl (s_move (d := (st_ a1)) rfl ?_)
  obtain ⟨r3, er3, h⟩ := bnd h
  refine cc [0, 2] [(o_dossierref03_Disk_0 false (C.own 2 0 p0.L.length 3) p0), none, (or_ e_dossierref03_File p0.L)] (D.tup [(D.agg (c_dossierref03_File r3.1)), (si r3.2)]) F.ca_63 rfl rfl (ac (.one (.ref rfl)) (ac (.one .sc) an)) (ac (.cells (ac (.own rfl) (ac .sc (ac .sc (ac .sc an))))) (ac (.cells (lend_row _)) an)) (dossierref03_Disk_there.meets _ p0 a1 r3 er3) (s_move (d := (D.tup [(D.agg (c_dossierref03_File r3.1)), (si r3.2)])) rfl (s_extract (d := (D.agg (c_dossierref03_File r3.1))) rfl rfl (s_extract (d := (si r3.2)) rfl rfl (s_alloc (cs := [(ct (⟨#[]⟩ : ByteArray)), (C.p true (.v (.slice none 0 0))), (ci 0)]) F.z_90 rfl rfl (s_store (cs' := (c_dossierref03_File r3.1)) rfl rfl rfl (List.cons_ne_nil _ _) rfl F.sz_90 (nl rfl) rfl ?_)))))
  refine s_assign (d := (si r3.2)) rfl (AWops.nil ?_)
  refine AW.seqJ (fun st => ∃ (x6 : Int) (x7 : Int) (x8 : Bool) (x9 : List dossierref03_File) (x10 : Int), dossierref03_Disk_Rename_40.j0 k x6 x7 x8 x9 x10 a1 a2 r3 = some r ∧ st = ⟨33, (upd 33 (upd 33 (upd 33 (upd 33 (upd 33 topF 0 (rf 0 0)) 1 (st_ a1)) 2 (st_ a2)) 7 (rf 2 0)) 8 (si x10)), [(some (AObj.cells false [(C.own 3 0 x9.length 3), (ci x6), (ci x7), (cb x8)])), none, (some (AObj.cells true (c_dossierref03_File r3.1))), (or_ e_dossierref03_File x9)]⟩) ?_ ?_
  ·refine AW.seq (AW.region ?_)
   refine s_move (d := (si r3.2)) rfl (s_binI (v := (.bool (r3.2 == 0))) rfl rfl rfl (AWops.nil ?_))
   rcases itH h with ⟨c4, h⟩ | ⟨c4, h⟩
   ·refine AW.cond_yes rfl c4 (AW.region ?_)
    refine s_move (d := (rf 0 0)) rfl ?_
    obtain ⟨r5, er5, h⟩ := bnd h
    refine cc [0, 2] [(o_dossierref03_Disk_0 false (C.own 2 0 r5.2.L.length 3) r5.2), none, (or_ e_dossierref03_File r5.2.L), (some (AObj.cells true (c_dossierref03_File r3.1)))] (si r5.1) F.ca_64 rfl rfl (ac (.one (.ref rfl)) an) (ac (.cells (ac (.own rfl) (ac .sc (ac .sc (ac .sc an))))) (ac (.cells (lend_row _)) an)) (dossierref03_Disk_burn.meets _ p0 r5 er5) (s_assign (d := (si r5.1)) rfl (AWops.nil ?_))
    exact ⟨⟨33, (upd 33 (upd 33 (upd 33 (upd 33 (upd 33 topF 0 (rf 0 0)) 1 (st_ a1)) 2 (st_ a2)) 7 (rf 2 0)) 8 (si r5.1)), [(some (AObj.cells false [(C.own 3 0 r5.2.L.length 3), (ci r5.2.Most), (ci r5.2.Burns), (cb r5.2.Off)])), none, (some (AObj.cells true (c_dossierref03_File r3.1))), (or_ e_dossierref03_File r5.2.L)]⟩, (wG 2 [0, 1, 3, 2] []), r5.2.Most, r5.2.Burns, r5.2.Off, r5.2.L, r5.1, h, rfl⟩
   ·refine AW.cond_no rfl c4 (AW.skip ?_)
    exact ⟨⟨33, (upd 33 (upd 33 (upd 33 (upd 33 (upd 33 topF 0 (rf 0 0)) 1 (st_ a1)) 2 (st_ a2)) 7 (rf 2 0)) 8 (si r3.2)), [(some (AObj.cells false [(C.own 3 0 p0.L.length 3), (ci p0.Most), (ci p0.Burns), (cb p0.Off)])), none, (some (AObj.cells true (c_dossierref03_File r3.1))), (or_ e_dossierref03_File p0.L)]⟩, (wG 2 [0, 1, 3, 2] []), p0.Most, p0.Burns, p0.Off, p0.L, r3.2, h, rfl⟩
  ·rintro st ⟨x6, x7, x8, x9, x10, h, rfl⟩
   cases k with
   | zero => exact absurd h (by simp [dossierref03_Disk_Rename_40.j0])
   | succ qj0 =>
    replace h := (dossierref03_Disk_Rename_40.j0.eq_2 _ _ _ _ _ _ _ _ _).symm.trans h
    refine AW.seq (AW.seq (AW.region ?_))
    refine s_move (d := (si x10)) rfl (s_binI (v := (.bool (x10 == 0))) rfl rfl rfl (AWops.nil ?_))
    rcases itH h with ⟨c11, h⟩ | ⟨c11, h⟩
    ·refine AW.cond_yes rfl c11 (AW.seq (AW.region ?_))
     refine s_move (d := (rf 0 0)) rfl (s_move (d := (st_ a1)) rfl ?_)
     obtain ⟨r12, er12, h⟩ := bnd h
     refine cc [0, 3] [(o_dossierref03_Disk_0 false (C.own 4 0 r12.L.length 3) r12), none, (some (AObj.cells true (c_dossierref03_File r3.1))), none, (or_ e_dossierref03_File r12.L)] (D.tup []) F.ca_65 rfl rfl (ac (.one (.ref rfl)) (ac (.one .sc) an)) (ac (.cells (ac (.own rfl) (ac .sc (ac .sc (ac .sc an))))) (ac (.cells (lend_row _)) an)) (dossierref03_Disk_cut_65.meets _ (⟨x9, x6, x7, x8⟩ : dossierref03_Disk) a1 r12 er12) (AWops.nil (AW.seq (AW.region ?_)))
     refine s_move (d := (st_ a2)) rfl (s_fieldRef F.fo_90_0 (by decide) rfl (s_store (cs' := [(ct a2), (C.p false (.sl r3.1.B.length (r3.1.B.flatMap e_u8))), (ci r3.1.Sure)]) rfl rfl rfl (List.cons_ne_nil _ _) rfl F.sz_9 (nl rfl) rfl (AWops.nil (AW.region (s_move (d := (rf 0 0)) rfl (s_loadN (ds := [(ct a2), (C.p false (.sl r3.1.B.length (r3.1.B.flatMap e_u8))), (ci r3.1.Sure)]) F.ag_90 F.sz_90 rfl rfl rfl ?_))))))
     obtain ⟨r13, er13, h⟩ := bnd h
     refine cc [0, 4] [(o_dossierref03_Disk_0 false (C.own 5 0 r13.L.length 3) r13), none, (some (AObj.cells true [(ct a2), (C.p false (.sl r3.1.B.length (r3.1.B.flatMap e_u8))), (ci r3.1.Sure)])), none, none, (or_ e_dossierref03_File r13.L)] (D.tup []) F.ca_66 rfl rfl (ac (.one (.ref rfl)) (ac (LendT.aggL (ac .sc (ac .imm (ac .sc an)))) an)) (ac (.cells (ac (.own rfl) (ac .sc (ac .sc (ac .sc an))))) (ac (.cells (lend_row _)) an)) (dossierref03_Disk_set_66.meets _ r12 (⟨a2, r3.1.B, r3.1.Sure⟩ : dossierref03_File) r13 er13) (AWops.nil (AW.seq (AW.region ?_)))
     refine s_move (d := (si x10)) rfl (s_assign (d := (si x10)) rfl (AWops.nil (AW.ret ?_)))
     obtain rfl := Option.some.inj h
     exact ⟨_, rfl, (wG 2 [0, 1, 5] [])⟩
    ·refine AW.cond_no rfl c11 (AW.skip (AW.seq (AW.region ?_)))
     refine s_move (d := (si x10)) rfl (s_assign (d := (si x10)) rfl (AWops.nil (AW.ret ?_)))
     obtain rfl := Option.some.inj h
     exact ⟨_, rfl, (wG 2 [0, 1, 3] [])⟩
 ·refine AW.cond_yes rfl (by rw [c2] <;> rfl) (AW.seq (AW.region ?_))
  refine s_assign (d := (si 1)) rfl (AWops.nil (AW.ret ?_))
  obtain rfl := Option.some.inj h
  exact ⟨_, rfl, (wG 2 [0, 1, 2] [])⟩
def dossierref04_fresh_30.f (k : Nat) (p0 : dossierref03_Disk) (a1 : List Int) : Option (Int × dossierref03_Disk) := (dossierref04_frame.f k a1).bind fun r1 => (dossierref03_Disk_Append_36.f k p0 (⟨#[106, 111, 117, 114, 110, 97, 108, 46, 110, 101, 119]⟩ : ByteArray) r1).bind fun r2 => if (r2.1 != 0) = true then (some (r2.1, r2.2)) else ((dossierref03_Disk_Sync_38.f k r2.2 (⟨#[106, 111, 117, 114, 110, 97, 108, 46, 110, 101, 119]⟩ : ByteArray)).bind fun r4 => if (r4.1 != 0) = true then (some (r4.1, r4.2)) else ((dossierref03_Disk_Rename_40.f k r4.2 (⟨#[106, 111, 117, 114, 110, 97, 108, 46, 110, 101, 119]⟩ : ByteArray) (⟨#[106, 111, 117, 114, 110, 97, 108]⟩ : ByteArray)).bind fun r6 => some (r6.1, r6.2)))
theorem dossierref04_fresh_30.meets (k : Nat) (p0 : dossierref03_Disk) (a1 : List Int) (r : Int × dossierref03_Disk) (h : dossierref04_fresh_30.f k p0 a1 = some r) : Meets Try.prog 30 [(rf 0 0), (D.one (C.p false (.sl a1.length (a1.flatMap e_u8))))] [(o_dossierref03_Disk_0 false (C.own 1 0 p0.L.length 3) p0), (or_ e_dossierref03_File p0.L)] (si r.1) [(o_dossierref03_Disk_0 false (C.own 2 0 r.2.L.length 3) r.2), none, (or_ e_dossierref03_File r.2.L)] := by
 unfold dossierref04_fresh_30.f at h
 refine Meets.of_body (n := 21) Try.func30 rfl rfl (nl rfl) fun x hx => ?_
 replace hx : x.k = 2 := hx
 show AW _ x _ _ ⟨21, fr0 [(rf 0 0), (D.one (C.p false (.sl a1.length (a1.flatMap e_u8))))], [(o_dossierref03_Disk_0 false (C.own 1 0 p0.L.length 3) p0), (or_ e_dossierref03_File p0.L)]⟩
 refine AW.weak (st' := ⟨21, (upd 21 (upd 21 topF 0 (rf 0 0)) 1 (D.one (C.p false (.sl a1.length (a1.flatMap e_u8))))), [(o_dossierref03_Disk_0 false (C.own 2 0 p0.L.length 3) p0), none, (or_ e_dossierref03_File p0.L)]⟩) (Weak.genL (kk := 2) [0, 1, 1] [] hx rfl (by decide) rfl rfl rfl rfl (le_upd (le_upd (le_top _) (o1 (.ref rfl))) (o1 .same)) (ac (.cells id (ac (.own rfl) (ac .sc (ac .sc (ac .sc an))))) (ac (.none _) (ac (.cells id (all2_row _)) an)))) (AW.seq (AW.region ?_))
 refine s_assign (d := (si 0)) rfl (AWops.nil (AW.seq (AW.seq (AW.region ?_))))
 refine s_move (d := (rf 0 0)) rfl (s_move (d := (D.one (C.p false (.sl a1.length (a1.flatMap e_u8))))) rfl ?_)
 obtain ⟨r1, er1, h⟩ := bnd h
 refine cc [] [(o_dossierref03_Disk_0 false (C.own 2 0 p0.L.length 3) p0), none, (or_ e_dossierref03_File p0.L), (ow_ e_u8 r1)] (D.one (C.own 3 0 r1.length 1)) F.ca_50 rfl rfl (ac (.one .imm) an) an (dossierref04_frame.meets _ a1 r1 er1) ?_
 obtain ⟨r2, er2, h⟩ := bnd h
 refine AWops.weak (st' := ⟨21, (upd 21 (upd 21 (upd 21 (upd 21 (upd 21 (upd 21 topF 0 (rf 0 0)) 1 (D.one (C.p false (.sl a1.length (a1.flatMap e_u8))))) 4 (si 0)) 7 (rf 0 0)) 8 (D.one (C.p false (.sl a1.length (a1.flatMap e_u8))))) 9 (D.one (C.p false (.sl r1.length (r1.flatMap e_u8))))), [(o_dossierref03_Disk_0 false (C.own 2 0 p0.L.length 3) p0), none, (or_ e_dossierref03_File p0.L)]⟩) (wG 2 [0, 1, 2] [3]) ?_
 refine cc [0, 2] [(o_dossierref03_Disk_0 false (C.own 3 0 r2.2.L.length 3) r2.2), none, none, (or_ e_dossierref03_File r2.2.L)] (si r2.1) F.ca_36 rfl rfl (ac (.one (.ref rfl)) (ac (.one .sc) (ac (.one .imm) an))) (ac (.cells (ac (.own rfl) (ac .sc (ac .sc (ac .sc an))))) (ac (.cells (lend_row _)) an)) (dossierref03_Disk_Append_36.meets _ p0 (⟨#[106, 111, 117, 114, 110, 97, 108, 46, 110, 101, 119]⟩ : ByteArray) r1 r2 er2) (s_assign (d := (si r2.1)) rfl (AWops.nil (AW.seq (AW.region (s_move (d := (si r2.1)) rfl (s_binI (v := (.bool (r2.1 != 0))) rfl rfl rfl (AWops.nil ?_)))))))
 rcases itH h with ⟨c3, h⟩ | ⟨c3, h⟩
 ·refine AW.cond_yes rfl c3 (AW.seq (AW.region ?_))
  refine s_move (d := (si r2.1)) rfl (s_assign (d := (si r2.1)) rfl (AWops.nil (AW.ret ?_)))
  obtain rfl := Option.some.inj h
  exact ⟨_, rfl, (wG 2 [0, 1, 3] [])⟩
 ·refine AW.cond_no rfl c3 (AW.skip (AW.seq (AW.seq (AW.region ?_))))
  refine s_move (d := (rf 0 0)) rfl ?_
  obtain ⟨r4, er4, h⟩ := bnd h
  refine cc [0, 3] [(o_dossierref03_Disk_0 false (C.own 4 0 r4.2.L.length 3) r4.2), none, none, none, (or_ e_dossierref03_File r4.2.L)] (si r4.1) F.ca_38 rfl rfl (ac (.one (.ref rfl)) (ac (.one .sc) an)) (ac (.cells (ac (.own rfl) (ac .sc (ac .sc (ac .sc an))))) (ac (.cells (lend_row _)) an)) (dossierref03_Disk_Sync_38.meets _ r2.2 (⟨#[106, 111, 117, 114, 110, 97, 108, 46, 110, 101, 119]⟩ : ByteArray) r4 er4) (s_assign (d := (si r4.1)) rfl (AWops.nil (AW.seq (AW.region (s_move (d := (si r4.1)) rfl (s_binI (v := (.bool (r4.1 != 0))) rfl rfl rfl (AWops.nil ?_)))))))
  rcases itH h with ⟨c5, h⟩ | ⟨c5, h⟩
  ·refine AW.cond_yes rfl c5 (AW.seq (AW.region ?_))
   refine s_move (d := (si r4.1)) rfl (s_assign (d := (si r4.1)) rfl (AWops.nil (AW.ret ?_)))
   obtain rfl := Option.some.inj h
   exact ⟨_, rfl, (wG 2 [0, 1, 4] [])⟩
  ·refine AW.cond_no rfl c5 (AW.skip (AW.seq (AW.region ?_)))
   refine s_move (d := (rf 0 0)) rfl ?_
   obtain ⟨r6, er6, h⟩ := bnd h
   refine cc [0, 4] [(o_dossierref03_Disk_0 false (C.own 5 0 r6.2.L.length 3) r6.2), none, none, none, none, (or_ e_dossierref03_File r6.2.L)] (si r6.1) F.ca_40 rfl rfl (ac (.one (.ref rfl)) (ac (.one .sc) (ac (.one .sc) an))) (ac (.cells (ac (.own rfl) (ac .sc (ac .sc (ac .sc an))))) (ac (.cells (lend_row _)) an)) (dossierref03_Disk_Rename_40.meets _ r4.2 (⟨#[106, 111, 117, 114, 110, 97, 108, 46, 110, 101, 119]⟩ : ByteArray) (⟨#[106, 111, 117, 114, 110, 97, 108]⟩ : ByteArray) r6 er6) (s_assign (d := (si r6.1)) rfl (AWops.nil (AW.ret ?_)))
   obtain rfl := Option.some.inj h
   exact ⟨_, rfl, (wG 2 [0, 1, 5] [])⟩
mutual
def dossierref04_frames.l0 : Nat → (List (List Int)) → Int → (List Int) → Option ((List (List Int)) × Int)
 | 0, _, _, _ => none
 | k + 1, x1, x2, a0 => if (decide ((IntKind.i64.wrap ((a0.length : Int) - x2)) ≥ 8)) = true then ((rd a0 x2).bind fun v4 => (rd a0 (IntKind.i64.wrap (x2 + 1))).bind fun v5 => (rd a0 (IntKind.i64.wrap (x2 + 2))).bind fun v6 => (rd a0 (IntKind.i64.wrap (x2 + 3))).bind fun v7 => if (decide ((W1 v4 v5 v6 v7) > (IntKind.i64.wrap ((IntKind.i64.wrap ((a0.length : Int) - x2)) - 8)))) = true then (some (x1, x2)) else (if (decide (0 ≤ (IntKind.i64.wrap (x2 + 8)) ∧ (IntKind.i64.wrap (x2 + 8)) ≤ (IntKind.i64.wrap ((IntKind.i64.wrap (x2 + 8)) + (W1 v4 v5 v6 v7))) ∧ (IntKind.i64.wrap ((IntKind.i64.wrap (x2 + 8)) + (W1 v4 v5 v6 v7))) ≤ (a0.length : Int))) = true then ((dossierref04_frame.f k (sub a0 (IntKind.i64.wrap (x2 + 8)) (IntKind.i64.wrap ((IntKind.i64.wrap (x2 + 8)) + (W1 v4 v5 v6 v7))))).bind fun r10 => if (decide (0 ≤ x2 ∧ x2 ≤ (IntKind.i64.wrap ((IntKind.i64.wrap (x2 + 8)) + (W1 v4 v5 v6 v7))) ∧ (IntKind.i64.wrap ((IntKind.i64.wrap (x2 + 8)) + (W1 v4 v5 v6 v7))) ≤ (a0.length : Int))) = true then (if ((ofNums r10).toList == (ofNums (sub a0 x2 (IntKind.i64.wrap ((IntKind.i64.wrap (x2 + 8)) + (W1 v4 v5 v6 v7))))).toList) = true then (if (decide (([] : List Int).length + (sub a0 (IntKind.i64.wrap (x2 + 8)) (IntKind.i64.wrap ((IntKind.i64.wrap (x2 + 8)) + (W1 v4 v5 v6 v7)))).length ≤ 140737488355328)) = true then (if (decide (x1.length + ([sub a0 (IntKind.i64.wrap (x2 + 8)) (IntKind.i64.wrap ((IntKind.i64.wrap (x2 + 8)) + (W1 v4 v5 v6 v7)))] : List (List Int)).length ≤ 5864062014805)) = true then (dossierref04_frames.l0 k (x1 ++ ([sub a0 (IntKind.i64.wrap (x2 + 8)) (IntKind.i64.wrap ((IntKind.i64.wrap (x2 + 8)) + (W1 v4 v5 v6 v7)))] : List (List Int))) (IntKind.i64.wrap (x2 + (IntKind.i64.wrap (8 + (W1 v4 v5 v6 v7))))) a0) else none) else none) else (some (x1, x2))) else none) else none)) else (some (x1, x2))
end
def dossierref04_frames.f (k : Nat) (a0 : List Int) : Option ((List (List Int)) × Int) := dossierref04_frames.l0 k ([] : List (List Int)) 0 a0
theorem dossierref04_frames.meets (k : Nat) (a0 : List Int) (r : (List (List Int)) × Int) (h : dossierref04_frames.f k a0 = some r) : Meets Try.prog 31 [(D.one (C.p false (.sl a0.length (a0.flatMap e_u8))))] [] (D.tup [(D.one (C.own 0 0 r.1.length 1)), (si r.2)]) [(some (AObj.cells true (rowC (e_sl e_u8) r.1)))] := by
 unfold dossierref04_frames.f at h
 refine Meets.of_body (n := 88) Try.func31 rfl rfl (nl rfl) fun x hx => ?_
 replace hx : x.k = 0 := hx
 show AW _ x _ _ ⟨88, fr0 [(D.one (C.p false (.sl a0.length (a0.flatMap e_u8))))], []⟩
 refine AW.seq (AW.region ?_)
 refine s_assign (d := (sc (.slice none 0 0))) rfl (s_assign (d := (si 0)) rfl (AWops.nil (AW.seq (AW.region (s_assign (d := (sc (.slice none 0 0))) rfl (AWops.nil (AW.seq (AW.region (s_assign (d := (si 0)) rfl (AWops.nil (AW.seq (AW.block ?_))))))))))))
 refine AW.loopw (st0 := ⟨88, (upd 88 (upd 88 (upd 88 topF 0 (D.one (C.p false (.sl a0.length (a0.flatMap e_u8))))) 4 (D.one (C.own 0 0 ([] : List (List Int)).length 1))) 5 (si 0)), [(some (AObj.cells true (rowC (e_sl e_u8) ([] : List (List Int)))))]⟩) (fun kv st => kv ≤ k ∧ ∃ (x1 : List (List Int)) (x2 : Int), dossierref04_frames.l0 kv x1 x2 a0 = some r ∧ st = ⟨88, (upd 88 (upd 88 (upd 88 topF 0 (D.one (C.p false (.sl a0.length (a0.flatMap e_u8))))) 4 (D.one (C.own 0 0 x1.length 1))) 5 (si x2)), [(some (AObj.cells true (rowC (e_sl e_u8) x1)))]⟩) (k := k) (Weak.trans (Weak.nil (sz := 1) (i := 4) rfl) (wG 0 [0] [])) ⟨Nat.le_refl _, ([] : List (List Int)), 0, h, rfl⟩ ?_
 rintro ql0 st ⟨hkl0, x1, x2, h, rfl⟩
 cases ql0 with
 | zero => exact absurd h (by simp [dossierref04_frames.l0])
 | succ ql0 =>
  replace h := (dossierref04_frames.l0.eq_2 _ _ _ _).symm.trans h
  refine AW.seq (AW.seq (AW.region ?_))
  refine s_move (d := (D.one (C.p false (.sl a0.length (a0.flatMap e_u8))))) rfl (s_len (n := a0.length) F.u_22 rfl (.inr ⟨(fun _ _ h => by cases h), ⟨_, rfl⟩⟩) (s_move (d := (si x2)) rfl (s_binI (v := (.int .i64 (IntKind.i64.wrap ((a0.length : Int) - x2)))) rfl rfl rfl (s_binI (v := (.bool (decide ((IntKind.i64.wrap ((a0.length : Int) - x2)) ≥ 8)))) rfl rfl rfl (AWops.nil ?_)))))
  rcases itH h with ⟨c3, h⟩ | ⟨c3, h⟩
  ·refine AW.cond_yes rfl c3 (AW.skip (AW.block (AW.seq ?_)))
   refine AW.weak (st' := ⟨88, (upd 88 (upd 88 (upd 88 topF 0 (D.one (C.p false (.sl a0.length (a0.flatMap e_u8))))) 4 (D.one (C.own 0 0 x1.length 1))) 5 (si x2)), [(some (AObj.cells true (rowC (e_sl e_u8) x1)))]⟩) (wG 0 [0] []) ?_
   obtain ⟨v4, ev4, h⟩ := bnd h
   obtain ⟨pv4, qv4, gv4⟩ := rd_some ev4
   obtain ⟨v5, ev5, h⟩ := bnd h
   obtain ⟨pv5, qv5, gv5⟩ := rd_some ev5
   obtain ⟨v6, ev6, h⟩ := bnd h
   obtain ⟨pv6, qv6, gv6⟩ := rd_some ev6
   obtain ⟨v7, ev7, h⟩ := bnd h
   obtain ⟨pv7, qv7, gv7⟩ := rd_some ev7
   refine AW.draw2 1 [kf 12 (D.one (C.p false (.sl a0.length (a0.flatMap e_u8)))) [0], kf 13 (si x2) [5], kf 14 (D.one (C.peek false [P.v (.int .u8 v4)])) [12, 13], kf 15 (sc (.int .u8 v4)) [14], kf 16 (si (IntKind.i64.wrap v4)) [15], kf 17 (si (IntKind.i64.wrap ((IntKind.i64.wrap v4) * 2 ^ 24))) [16], kf 18 (D.one (C.p false (.sl a0.length (a0.flatMap e_u8)))) [0], kf 19 (si x2) [5], kf 20 (si (IntKind.i64.wrap (x2 + 1))) [19], kf 21 (D.one (C.peek false [P.v (.int .u8 v5)])) [18, 20], kf 22 (sc (.int .u8 v5)) [21], kf 23 (si (IntKind.i64.wrap v5)) [22], kf 24 (si (IntKind.i64.wrap ((IntKind.i64.wrap v5) * 2 ^ 16))) [23], kf 25 (si (IntKind.i64.wrap ((IntKind.i64.wrap ((IntKind.i64.wrap v4) * 2 ^ 24)) + (IntKind.i64.wrap ((IntKind.i64.wrap v5) * 2 ^ 16))))) [17, 24], kf 26 (D.one (C.p false (.sl a0.length (a0.flatMap e_u8)))) [0], kf 27 (si x2) [5], kf 28 (si (IntKind.i64.wrap (x2 + 2))) [27], kf 29 (D.one (C.peek false [P.v (.int .u8 v6)])) [26, 28], kf 30 (sc (.int .u8 v6)) [29], kf 31 (si (IntKind.i64.wrap v6)) [30], kf 32 (si (IntKind.i64.wrap ((IntKind.i64.wrap v6) * 2 ^ 8))) [31], kf 33 (si (IntKind.i64.wrap ((IntKind.i64.wrap ((IntKind.i64.wrap ((IntKind.i64.wrap v4) * 2 ^ 24)) + (IntKind.i64.wrap ((IntKind.i64.wrap v5) * 2 ^ 16)))) + (IntKind.i64.wrap ((IntKind.i64.wrap v6) * 2 ^ 8))))) [25, 32], kf 34 (D.one (C.p false (.sl a0.length (a0.flatMap e_u8)))) [0], kf 35 (si x2) [5], kf 36 (si (IntKind.i64.wrap (x2 + 3))) [35], kf 37 (D.one (C.peek false [P.v (.int .u8 v7)])) [34, 36], kf 38 (sc (.int .u8 v7)) [37], kf 39 (si (IntKind.i64.wrap v7)) [38], kf 40 (si (W1 v4 v5 v6 v7)) [33, 39], kf 6 (si (W1 v4 v5 v6 v7)) [40]] ⟨?_, ?_⟩
   ·refine (pA (pA (pC ?_ (pE F.ag_5 (pC ?_ (pC ?_ (pA (pA (pA (pC ?_ (pE F.ag_5 (pC ?_ (pC ?_ (pA (pA (pA (pA (pC ?_ (pE F.ag_5 (pC ?_ (pC ?_ (pA (pA (pA (pA (pC ?_ (pE F.ag_5 (pC ?_ (pA (pA AllStep.nil'))))))))))))))))))))))))))))))
    ·intro K rest fr hv htk k
     refine s_indexImm (ps := [P.v (.int .u8 v4)]) F.u_22 F.sz_5 rfl rfl pv4 qv4 (flat_at e_u8_len gv4 (e_u8_eq v4)) k
    ·intro K rest fr hv htk k
     refine s_convI F.u_5 F.u_3 rfl k
    ·intro K rest fr hv htk k
     refine s_shift (v := (.int .i64 (IntKind.i64.wrap ((IntKind.i64.wrap v4) * 2 ^ 24)))) rfl rfl rfl k
    ·intro K rest fr hv htk k
     refine s_indexImm (ps := [P.v (.int .u8 v5)]) F.u_22 F.sz_5 rfl rfl pv5 qv5 (flat_at e_u8_len gv5 (e_u8_eq v5)) k
    ·intro K rest fr hv htk k
     refine s_convI F.u_5 F.u_3 rfl k
    ·intro K rest fr hv htk k
     refine s_shift (v := (.int .i64 (IntKind.i64.wrap ((IntKind.i64.wrap v5) * 2 ^ 16)))) rfl rfl rfl k
    ·intro K rest fr hv htk k
     refine s_indexImm (ps := [P.v (.int .u8 v6)]) F.u_22 F.sz_5 rfl rfl pv6 qv6 (flat_at e_u8_len gv6 (e_u8_eq v6)) k
    ·intro K rest fr hv htk k
     refine s_convI F.u_5 F.u_3 rfl k
    ·intro K rest fr hv htk k
     refine s_shift (v := (.int .i64 (IntKind.i64.wrap ((IntKind.i64.wrap v6) * 2 ^ 8)))) rfl rfl rfl k
    ·intro K rest fr hv htk k
     refine s_indexImm (ps := [P.v (.int .u8 v7)]) F.u_22 F.sz_5 rfl rfl pv7 qv7 (flat_at e_u8_len gv7 (e_u8_eq v7)) k
    ·intro K rest fr hv htk k
     refine s_convI F.u_5 F.u_3 rfl k
   ·refine AWops.weak (st' := ⟨88, (upd 88 (upd 88 (upd 88 (upd 88 topF 0 (D.one (C.p false (.sl a0.length (a0.flatMap e_u8))))) 4 (D.one (C.own 0 0 x1.length 1))) 5 (si x2)) 6 (si (W1 v4 v5 v6 v7))), [(some (AObj.cells true (rowC (e_sl e_u8) x1)))]⟩) (wG 0 [0] []) (AWops.nil (AW.seq (AW.seq ?_)))
    refine AW.weak (st' := ⟨88, (upd 88 (upd 88 (upd 88 (upd 88 topF 0 (D.one (C.p false (.sl a0.length (a0.flatMap e_u8))))) 4 (D.one (C.own 0 0 x1.length 1))) 5 (si x2)) 6 (si (W1 v4 v5 v6 v7))), [(some (AObj.cells true (rowC (e_sl e_u8) x1)))]⟩) (wG 0 [0] []) ?_
    rcases itH h with ⟨c8, h⟩ | ⟨c8, h⟩
    ·refine AW.draw2 2 [kf 41 (si (W1 v4 v5 v6 v7)) [6], kf 42 (D.one (C.p false (.sl a0.length (a0.flatMap e_u8)))) [0], kf 43 (si (a0.length : Int)) [42], kf 44 (si x2) [5], kf 45 (si (IntKind.i64.wrap ((a0.length : Int) - x2))) [43, 44], kf 46 (si (IntKind.i64.wrap ((IntKind.i64.wrap ((a0.length : Int) - x2)) - 8))) [45], kf 47 (sb (decide ((W1 v4 v5 v6 v7) > (IntKind.i64.wrap ((IntKind.i64.wrap ((a0.length : Int) - x2)) - 8))))) [41, 46], kf 48 (sb (decide ((W1 v4 v5 v6 v7) > (IntKind.i64.wrap ((IntKind.i64.wrap ((a0.length : Int) - x2)) - 8))))) [47], kf 49 (D.tup []) [0, 48], kf 50 (D.tup []) [48], kf 51 (D.tup []) [48], kf 52 (D.tup []) [48], kf 53 (D.tup []) [48], kf 54 (D.tup []) [48], kf 55 (D.tup []) [48], kf 56 (D.tup []) [48], kf 57 (D.tup []) [48], kf 58 (D.tup []) [48], kf 59 (D.tup []) [48], kf 60 (D.tup []) [48], kf 61 (D.tup []) [48], kf 62 (D.tup []) [48], kf 63 (D.tup []) [48], kf 64 (D.tup []) [48], kf 65 (D.tup []) [48], kf 66 (D.tup []) [48], kf 67 (D.tup []) [48], kf 68 (sb true) [48]] ⟨?_, ?_⟩
     ·refine (pA (pA (pC ?_ (pA (pA (pA (pA (pA (pN c8 (pN c8 (pN c8 (pN c8 (pN c8 (pN c8 (pN c8 (pN c8 (pN c8 (pN c8 (pN c8 (pN c8 (pN c8 (pN c8 (pN c8 (pN c8 (pN c8 (pN c8 (pN c8 (pC ?_ AllStep.nil'))))))))))))))))))))))))))))
      ·intro K rest fr hv htk k
       refine s_len (n := a0.length) F.u_22 rfl (.inr ⟨(fun _ _ h => by cases h), ⟨_, rfl⟩⟩) k
      ·intro K rest fr hv htk k
       refine s_pick_yes (d := (sb true)) rfl c8 rfl k
     ·refine AWops.weak (st' := ⟨88, (upd 88 (upd 88 (upd 88 (upd 88 (upd 88 (upd 88 (upd 88 (upd 88 (upd 88 (upd 88 (upd 88 (upd 88 (upd 88 (upd 88 (upd 88 (upd 88 (upd 88 (upd 88 (upd 88 (upd 88 (upd 88 (upd 88 (upd 88 (upd 88 topF 0 (D.one (C.p false (.sl a0.length (a0.flatMap e_u8))))) 4 (D.one (C.own 0 0 x1.length 1))) 5 (si x2)) 6 (si (W1 v4 v5 v6 v7))) 49 (D.tup [])) 50 (D.tup [])) 51 (D.tup [])) 52 (D.tup [])) 53 (D.tup [])) 54 (D.tup [])) 55 (D.tup [])) 56 (D.tup [])) 57 (D.tup [])) 58 (D.tup [])) 59 (D.tup [])) 60 (D.tup [])) 61 (D.tup [])) 62 (D.tup [])) 63 (D.tup [])) 64 (D.tup [])) 65 (D.tup [])) 66 (D.tup [])) 67 (D.tup [])) 68 (sb true)), [(some (AObj.cells true (rowC (e_sl e_u8) x1)))]⟩) (wG 0 [0] []) (AWops.nil ?_)
      refine AW.cond_yes rfl rfl (AW.exit (AW.seq (AW.region ?_)))
      refine s_move (d := (D.one (C.own 0 0 x1.length 1))) rfl (s_move (d := (si x2)) rfl (s_assign (d := (D.one (C.own 0 0 x1.length 1))) rfl (s_assign (d := (si x2)) rfl (AWops.nil (AW.ret ?_)))))
      obtain rfl := Option.some.inj h
      exact ⟨_, rfl, (wG 0 [0] [])⟩
    ·obtain ⟨c9, h⟩ := gdH h
     have dc9 := of_decide_eq_true c9
     obtain ⟨r10, er10, h⟩ := bnd h
     obtain ⟨c11, h⟩ := gdH h
     have dc11 := of_decide_eq_true c11
     refine AW.draw2 2 [kf 41 (si (W1 v4 v5 v6 v7)) [6], kf 42 (D.one (C.p false (.sl a0.length (a0.flatMap e_u8)))) [0], kf 43 (si (a0.length : Int)) [42], kf 44 (si x2) [5], kf 45 (si (IntKind.i64.wrap ((a0.length : Int) - x2))) [43, 44], kf 46 (si (IntKind.i64.wrap ((IntKind.i64.wrap ((a0.length : Int) - x2)) - 8))) [45], kf 47 (sb (decide ((W1 v4 v5 v6 v7) > (IntKind.i64.wrap ((IntKind.i64.wrap ((a0.length : Int) - x2)) - 8))))) [41, 46], kf 48 (sb (decide ((W1 v4 v5 v6 v7) > (IntKind.i64.wrap ((IntKind.i64.wrap ((a0.length : Int) - x2)) - 8))))) [47], kf 49 (D.one (C.p false (.sl a0.length (a0.flatMap e_u8)))) [0, 48], kf 50 (si x2) [5, 48], kf 51 (si (IntKind.i64.wrap (x2 + 8))) [48, 50], kf 52 (si x2) [5, 48], kf 53 (si (IntKind.i64.wrap (x2 + 8))) [48, 52], kf 54 (si (W1 v4 v5 v6 v7)) [6, 48], kf 55 (si (IntKind.i64.wrap ((IntKind.i64.wrap (x2 + 8)) + (W1 v4 v5 v6 v7)))) [48, 53, 54], kf 56 (D.one (C.p false (.sl (sub a0 (IntKind.i64.wrap (x2 + 8)) (IntKind.i64.wrap ((IntKind.i64.wrap (x2 + 8)) + (W1 v4 v5 v6 v7)))).length ((sub a0 (IntKind.i64.wrap (x2 + 8)) (IntKind.i64.wrap ((IntKind.i64.wrap (x2 + 8)) + (W1 v4 v5 v6 v7)))).flatMap e_u8)))) [48, 49, 51, 55], ⟨some 57, (D.one (C.own 1 0 r10.length 1)), [48, 56], [], [(1, (ow_ e_u8 r10))], some (1, 1)⟩, ⟨some 58, (st_ (ofNums r10)), [48, 57], [1], [], none⟩, kf 59 (D.one (C.p false (.sl a0.length (a0.flatMap e_u8)))) [0, 48], kf 60 (si x2) [5, 48], kf 61 (si x2) [5, 48], kf 62 (si (IntKind.i64.wrap (x2 + 8))) [48, 61], kf 63 (si (W1 v4 v5 v6 v7)) [6, 48], kf 64 (si (IntKind.i64.wrap ((IntKind.i64.wrap (x2 + 8)) + (W1 v4 v5 v6 v7)))) [48, 62, 63], kf 65 (D.one (C.p false (.sl (sub a0 x2 (IntKind.i64.wrap ((IntKind.i64.wrap (x2 + 8)) + (W1 v4 v5 v6 v7)))).length ((sub a0 x2 (IntKind.i64.wrap ((IntKind.i64.wrap (x2 + 8)) + (W1 v4 v5 v6 v7)))).flatMap e_u8)))) [48, 59, 60, 64], kf 66 (st_ (ofNums (sub a0 x2 (IntKind.i64.wrap ((IntKind.i64.wrap (x2 + 8)) + (W1 v4 v5 v6 v7)))))) [48, 65], kf 67 (sb (!((ofNums r10).toList == (ofNums (sub a0 x2 (IntKind.i64.wrap ((IntKind.i64.wrap (x2 + 8)) + (W1 v4 v5 v6 v7))))).toList))) [48, 58, 66], kf 68 (sb (!((ofNums r10).toList == (ofNums (sub a0 x2 (IntKind.i64.wrap ((IntKind.i64.wrap (x2 + 8)) + (W1 v4 v5 v6 v7))))).toList))) [48, 67]] ⟨?_, ?_⟩
     ·refine (pA (pA (pC ?_ (pA (pA (pA (pA (pA (pY c8 (pY c8 (pY c8 (pY c8 (pY c8 (pY c8 (pY c8 (pC ?_ (pC ?_ (pC ?_ (pY c8 (pY c8 (pY c8 (pY c8 (pY c8 (pY c8 (pC ?_ (pC ?_ (pC ?_ (pC ?_ AllStep.nil'))))))))))))))))))))))))))))
      ·intro K rest fr hv htk k
       refine s_len (n := a0.length) F.u_22 rfl (.inr ⟨(fun _ _ h => by cases h), ⟨_, rfl⟩⟩) k
      ·intro K rest fr hv htk k
       refine AWops.guard_yes rfl (nl rfl) rfl c8 ?_
       refine t_sliceImm (a := IntKind.i64.wrap (x2 + 8)) (b := IntKind.i64.wrap ((IntKind.i64.wrap (x2 + 8)) + (W1 v4 v5 v6 v7))) F.u_22 F.sz_5 e_u8_len rfl (by omega) (by omega) (by omega) (.yes rfl (by omega) rfl) (.yes rfl (by omega) rfl) k
      ·intro K rest fr hv htk k
       show AWops _ x _ _ K ⟨88, (upd 88 (upd 88 fr 56 (D.one (C.p false (.sl (sub a0 (IntKind.i64.wrap (x2 + 8)) (IntKind.i64.wrap ((IntKind.i64.wrap (x2 + 8)) + (W1 v4 v5 v6 v7)))).length ((sub a0 (IntKind.i64.wrap (x2 + 8)) (IntKind.i64.wrap ((IntKind.i64.wrap (x2 + 8)) + (W1 v4 v5 v6 v7)))).flatMap e_u8))))) 48 (sb (decide ((W1 v4 v5 v6 v7) > (IntKind.i64.wrap ((IntKind.i64.wrap ((a0.length : Int) - x2)) - 8)))))), [(hv 0), (hv 1)]⟩
       refine AWops.guard_yes rfl (nl rfl) rfl c8 ?_
       refine cc [] [(hv 0), (hv 1), (ow_ e_u8 r10)] (D.one (C.own 2 0 r10.length 1)) F.ca_50 rfl rfl (ac (.one .imm) an) an (dossierref04_frame.meets _ (sub a0 (IntKind.i64.wrap (x2 + 8)) (IntKind.i64.wrap ((IntKind.i64.wrap (x2 + 8)) + (W1 v4 v5 v6 v7)))) r10 er10) ?_
       refine AWops.weak (wD 0 (1, 1) 2 [0, 2] [] (htk (1, 1) rfl)) k
      ·intro K rest fr hv htk k
       refine AWops.guard_yes rfl (nl rfl) rfl c8 ?_
       refine t_toStr (xs := r10) F.u_22 F.u_5 F.u_9 (.own rfl rfl) k
      ·intro K rest fr hv htk k
       refine AWops.guard_yes rfl (nl rfl) rfl c8 ?_
       refine t_sliceImm (a := x2) (b := IntKind.i64.wrap ((IntKind.i64.wrap (x2 + 8)) + (W1 v4 v5 v6 v7))) F.u_22 F.sz_5 e_u8_len rfl (by omega) (by omega) (by omega) (.yes rfl (by omega) rfl) (.yes rfl (by omega) rfl) k
      ·intro K rest fr hv htk k
       refine AWops.guard_yes rfl (nl rfl) rfl c8 ?_
       refine t_toStr (xs := sub a0 x2 (IntKind.i64.wrap ((IntKind.i64.wrap (x2 + 8)) + (W1 v4 v5 v6 v7)))) F.u_22 F.u_5 F.u_9 .imm k
      ·intro K rest fr hv htk k
       refine AWops.guard_yes rfl (nl rfl) rfl c8 ?_
       refine s_binS (v := (.bool (!((ofNums r10).toList == (ofNums (sub a0 x2 (IntKind.i64.wrap ((IntKind.i64.wrap (x2 + 8)) + (W1 v4 v5 v6 v7))))).toList)))) rfl rfl rfl k
      ·intro K rest fr hv htk k
       refine s_pick_no (d := (sb (!((ofNums r10).toList == (ofNums (sub a0 x2 (IntKind.i64.wrap ((IntKind.i64.wrap (x2 + 8)) + (W1 v4 v5 v6 v7))))).toList)))) rfl c8 rfl k
     ·refine AWops.weak (st' := ⟨88, (upd 88 (upd 88 (upd 88 (upd 88 (upd 88 (upd 88 (upd 88 (upd 88 (upd 88 (upd 88 (upd 88 (upd 88 (upd 88 (upd 88 (upd 88 (upd 88 (upd 88 (upd 88 (upd 88 (upd 88 (upd 88 (upd 88 (upd 88 (upd 88 topF 0 (D.one (C.p false (.sl a0.length (a0.flatMap e_u8))))) 4 (D.one (C.own 0 0 x1.length 1))) 5 (si x2)) 6 (si (W1 v4 v5 v6 v7))) 49 (D.one (C.p false (.sl a0.length (a0.flatMap e_u8))))) 50 (si x2)) 51 (si (IntKind.i64.wrap (x2 + 8)))) 52 (si x2)) 53 (si (IntKind.i64.wrap (x2 + 8)))) 54 (si (W1 v4 v5 v6 v7))) 55 (si (IntKind.i64.wrap ((IntKind.i64.wrap (x2 + 8)) + (W1 v4 v5 v6 v7))))) 56 (D.one (C.p false (.sl (sub a0 (IntKind.i64.wrap (x2 + 8)) (IntKind.i64.wrap ((IntKind.i64.wrap (x2 + 8)) + (W1 v4 v5 v6 v7)))).length ((sub a0 (IntKind.i64.wrap (x2 + 8)) (IntKind.i64.wrap ((IntKind.i64.wrap (x2 + 8)) + (W1 v4 v5 v6 v7)))).flatMap e_u8))))) 57 (D.one (C.own 1 0 r10.length 1))) 58 (st_ (ofNums r10))) 59 (D.one (C.p false (.sl a0.length (a0.flatMap e_u8))))) 60 (si x2)) 61 (si x2)) 62 (si (IntKind.i64.wrap (x2 + 8)))) 63 (si (W1 v4 v5 v6 v7))) 64 (si (IntKind.i64.wrap ((IntKind.i64.wrap (x2 + 8)) + (W1 v4 v5 v6 v7))))) 65 (D.one (C.p false (.sl (sub a0 x2 (IntKind.i64.wrap ((IntKind.i64.wrap (x2 + 8)) + (W1 v4 v5 v6 v7)))).length ((sub a0 x2 (IntKind.i64.wrap ((IntKind.i64.wrap (x2 + 8)) + (W1 v4 v5 v6 v7)))).flatMap e_u8))))) 66 (st_ (ofNums (sub a0 x2 (IntKind.i64.wrap ((IntKind.i64.wrap (x2 + 8)) + (W1 v4 v5 v6 v7))))))) 67 (sb (!((ofNums r10).toList == (ofNums (sub a0 x2 (IntKind.i64.wrap ((IntKind.i64.wrap (x2 + 8)) + (W1 v4 v5 v6 v7))))).toList)))) 68 (sb (!((ofNums r10).toList == (ofNums (sub a0 x2 (IntKind.i64.wrap ((IntKind.i64.wrap (x2 + 8)) + (W1 v4 v5 v6 v7))))).toList)))), [(some (AObj.cells true (rowC (e_sl e_u8) x1))), (ow_ e_u8 r10)]⟩) (wG 0 [0, 1] []) (AWops.nil ?_)
      rcases itH h with ⟨c12, h⟩ | ⟨c12, h⟩
      ·refine AW.cond_no rfl (by rw [c12] <;> rfl) (AW.skip (AW.seq (AW.region ?_)))
       refine s_move (d := (D.one (C.own 0 0 x1.length 1))) rfl (s_buildSlice (n := 0) (ps := []) (cs := rowC e_u8 ([] : List Int)) F.u_22 F.sz_5 F.z_5 rfl rfl (by decide) (by decide) rfl rfl (s_move (d := (D.one (C.p false (.sl a0.length (a0.flatMap e_u8))))) rfl (s_move (d := (si x2)) rfl (s_binI (v := (.int .i64 (IntKind.i64.wrap (x2 + 8)))) rfl rfl rfl (s_move (d := (si x2)) rfl ?_)))))
       refine s_binI (v := (.int .i64 (IntKind.i64.wrap (x2 + 8)))) rfl rfl rfl (s_move (d := (si (W1 v4 v5 v6 v7))) rfl (s_binI (v := (.int .i64 (IntKind.i64.wrap ((IntKind.i64.wrap (x2 + 8)) + (W1 v4 v5 v6 v7))))) rfl rfl rfl ?_))
       have dc9 := of_decide_eq_true c9
       refine t_sliceImm (a := IntKind.i64.wrap (x2 + 8)) (b := IntKind.i64.wrap ((IntKind.i64.wrap (x2 + 8)) + (W1 v4 v5 v6 v7))) F.u_22 F.sz_5 e_u8_len rfl (by omega) (by omega) (by omega) (.yes rfl (by omega) rfl) (.yes rfl (by omega) rfl) ?_
       obtain ⟨c13, h⟩ := gdH h
       have dc13 := of_decide_eq_true c13
       refine t_append (xs := ([] : List Int)) (ys := sub a0 (IntKind.i64.wrap (x2 + 8)) (IntKind.i64.wrap ((IntKind.i64.wrap (x2 + 8)) + (W1 v4 v5 v6 v7)))) (zs := sub a0 (IntKind.i64.wrap (x2 + 8)) (IntKind.i64.wrap ((IntKind.i64.wrap (x2 + 8)) + (W1 v4 v5 v6 v7)))) (H' := [(some (AObj.cells true (rowC (e_sl e_u8) x1))), (ow_ e_u8 r10), none, (some (AObj.cells true (rowC e_u8 (sub a0 (IntKind.i64.wrap (x2 + 8)) (IntKind.i64.wrap ((IntKind.i64.wrap (x2 + 8)) + (W1 v4 v5 v6 v7)))))))]) F.u_22 F.in_5 rfl e_u8_len (.own rfl rfl) .imm F.u_22 (by omega) (by omega) rfl rfl ?_
       refine AWops.weak (st' := ⟨88, (upd 88 (upd 88 (upd 88 (upd 88 (upd 88 (upd 88 (upd 88 (upd 88 (upd 88 (upd 88 (upd 88 (upd 88 (upd 88 (upd 88 (upd 88 (upd 88 (upd 88 (upd 88 (upd 88 (upd 88 (upd 88 (upd 88 (upd 88 (upd 88 (upd 88 (upd 88 (upd 88 (upd 88 (upd 88 (upd 88 (upd 88 (upd 88 (upd 88 (upd 88 topF 0 (D.one (C.p false (.sl a0.length (a0.flatMap e_u8))))) 4 (D.one (C.own 0 0 x1.length 1))) 5 (si x2)) 6 (si (W1 v4 v5 v6 v7))) 49 (D.one (C.p false (.sl a0.length (a0.flatMap e_u8))))) 50 (si x2)) 51 (si (IntKind.i64.wrap (x2 + 8)))) 52 (si x2)) 53 (si (IntKind.i64.wrap (x2 + 8)))) 54 (si (W1 v4 v5 v6 v7))) 55 (si (IntKind.i64.wrap ((IntKind.i64.wrap (x2 + 8)) + (W1 v4 v5 v6 v7))))) 56 (D.one (C.p false (.sl (sub a0 (IntKind.i64.wrap (x2 + 8)) (IntKind.i64.wrap ((IntKind.i64.wrap (x2 + 8)) + (W1 v4 v5 v6 v7)))).length ((sub a0 (IntKind.i64.wrap (x2 + 8)) (IntKind.i64.wrap ((IntKind.i64.wrap (x2 + 8)) + (W1 v4 v5 v6 v7)))).flatMap e_u8))))) 57 (D.one (C.own 1 0 r10.length 1))) 58 (st_ (ofNums r10))) 59 (D.one (C.p false (.sl a0.length (a0.flatMap e_u8))))) 60 (si x2)) 61 (si x2)) 62 (si (IntKind.i64.wrap (x2 + 8)))) 63 (si (W1 v4 v5 v6 v7))) 64 (si (IntKind.i64.wrap ((IntKind.i64.wrap (x2 + 8)) + (W1 v4 v5 v6 v7))))) 65 (D.one (C.p false (.sl (sub a0 x2 (IntKind.i64.wrap ((IntKind.i64.wrap (x2 + 8)) + (W1 v4 v5 v6 v7)))).length ((sub a0 x2 (IntKind.i64.wrap ((IntKind.i64.wrap (x2 + 8)) + (W1 v4 v5 v6 v7)))).flatMap e_u8))))) 66 (st_ (ofNums (sub a0 x2 (IntKind.i64.wrap ((IntKind.i64.wrap (x2 + 8)) + (W1 v4 v5 v6 v7))))))) 67 (sb (!((ofNums r10).toList == (ofNums (sub a0 x2 (IntKind.i64.wrap ((IntKind.i64.wrap (x2 + 8)) + (W1 v4 v5 v6 v7))))).toList)))) 68 (sb (!((ofNums r10).toList == (ofNums (sub a0 x2 (IntKind.i64.wrap ((IntKind.i64.wrap (x2 + 8)) + (W1 v4 v5 v6 v7))))).toList)))) 69 (D.one (C.own 0 0 x1.length 1))) 71 (D.one (C.p false (.sl a0.length (a0.flatMap e_u8))))) 72 (si x2)) 73 (si (IntKind.i64.wrap (x2 + 8)))) 74 (si x2)) 75 (si (IntKind.i64.wrap (x2 + 8)))) 76 (si (W1 v4 v5 v6 v7))) 77 (si (IntKind.i64.wrap ((IntKind.i64.wrap (x2 + 8)) + (W1 v4 v5 v6 v7))))) 78 (D.one (C.p false (.sl (sub a0 (IntKind.i64.wrap (x2 + 8)) (IntKind.i64.wrap ((IntKind.i64.wrap (x2 + 8)) + (W1 v4 v5 v6 v7)))).length ((sub a0 (IntKind.i64.wrap (x2 + 8)) (IntKind.i64.wrap ((IntKind.i64.wrap (x2 + 8)) + (W1 v4 v5 v6 v7)))).flatMap e_u8))))) 79 (D.one (C.p false (.sl (sub a0 (IntKind.i64.wrap (x2 + 8)) (IntKind.i64.wrap ((IntKind.i64.wrap (x2 + 8)) + (W1 v4 v5 v6 v7)))).length ((sub a0 (IntKind.i64.wrap (x2 + 8)) (IntKind.i64.wrap ((IntKind.i64.wrap (x2 + 8)) + (W1 v4 v5 v6 v7)))).flatMap e_u8))))), [(some (AObj.cells true (rowC (e_sl e_u8) x1))), (ow_ e_u8 r10)]⟩) (wG 0 [0, 1] [3]) ?_
       refine s_buildSlice (n := 1) (ps := [(0, (D.one (C.p false (.sl (sub a0 (IntKind.i64.wrap (x2 + 8)) (IntKind.i64.wrap ((IntKind.i64.wrap (x2 + 8)) + (W1 v4 v5 v6 v7)))).length ((sub a0 (IntKind.i64.wrap (x2 + 8)) (IntKind.i64.wrap ((IntKind.i64.wrap (x2 + 8)) + (W1 v4 v5 v6 v7)))).flatMap e_u8)))))]) (cs := rowC (e_sl e_u8) ([sub a0 (IntKind.i64.wrap (x2 + 8)) (IntKind.i64.wrap ((IntKind.i64.wrap (x2 + 8)) + (W1 v4 v5 v6 v7)))] : List (List Int))) F.u_61 F.sz_22 F.z_22 rfl rfl (by decide) (by decide) rfl rfl ?_
       obtain ⟨c14, h⟩ := gdH h
       have dc14 := of_decide_eq_true c14
       refine t_append (xs := x1) (ys := ([sub a0 (IntKind.i64.wrap (x2 + 8)) (IntKind.i64.wrap ((IntKind.i64.wrap (x2 + 8)) + (W1 v4 v5 v6 v7)))] : List (List Int))) (zs := x1 ++ ([sub a0 (IntKind.i64.wrap (x2 + 8)) (IntKind.i64.wrap ((IntKind.i64.wrap (x2 + 8)) + (W1 v4 v5 v6 v7)))] : List (List Int))) (H' := [none, (ow_ e_u8 r10), (some (AObj.cells true (rowC (e_sl e_u8) ([sub a0 (IntKind.i64.wrap (x2 + 8)) (IntKind.i64.wrap ((IntKind.i64.wrap (x2 + 8)) + (W1 v4 v5 v6 v7)))] : List (List Int))))), (some (AObj.cells true (rowC (e_sl e_u8) (x1 ++ ([sub a0 (IntKind.i64.wrap (x2 + 8)) (IntKind.i64.wrap ((IntKind.i64.wrap (x2 + 8)) + (W1 v4 v5 v6 v7)))] : List (List Int))))))]) F.u_61 F.in_22 rfl (e_sl_len _) (.own rfl rfl) (.own rfl rfl) F.u_61 (by omega) (by omega) rfl rfl (s_assign (d := (D.one (C.own 3 0 ((x1 ++ ([sub a0 (IntKind.i64.wrap (x2 + 8)) (IntKind.i64.wrap ((IntKind.i64.wrap (x2 + 8)) + (W1 v4 v5 v6 v7)))] : List (List Int))).length) 1))) rfl (AWops.nil (AW.region (s_move (d := (si x2)) rfl (s_move (d := (si (W1 v4 v5 v6 v7))) rfl (s_binI (v := (.int .i64 (IntKind.i64.wrap (8 + (W1 v4 v5 v6 v7))))) rfl rfl rfl (s_binI (v := (.int .i64 (IntKind.i64.wrap (x2 + (IntKind.i64.wrap (8 + (W1 v4 v5 v6 v7))))))) rfl rfl rfl ?_)))))))
       refine s_assign (d := (si (IntKind.i64.wrap (x2 + (IntKind.i64.wrap (8 + (W1 v4 v5 v6 v7))))))) rfl (AWops.nil ?_)
       exact ⟨_, ⟨88, (upd 88 (upd 88 (upd 88 topF 0 (D.one (C.p false (.sl a0.length (a0.flatMap e_u8))))) 4 (D.one (C.own 0 0 (x1 ++ ([sub a0 (IntKind.i64.wrap (x2 + 8)) (IntKind.i64.wrap ((IntKind.i64.wrap (x2 + 8)) + (W1 v4 v5 v6 v7)))] : List (List Int))).length 1))) 5 (si (IntKind.i64.wrap (x2 + (IntKind.i64.wrap (8 + (W1 v4 v5 v6 v7))))))), [(some (AObj.cells true (rowC (e_sl e_u8) (x1 ++ ([sub a0 (IntKind.i64.wrap (x2 + 8)) (IntKind.i64.wrap ((IntKind.i64.wrap (x2 + 8)) + (W1 v4 v5 v6 v7)))] : List (List Int))))))]⟩, by omega, (wG 0 [3] []), by omega, x1 ++ ([sub a0 (IntKind.i64.wrap (x2 + 8)) (IntKind.i64.wrap ((IntKind.i64.wrap (x2 + 8)) + (W1 v4 v5 v6 v7)))] : List (List Int)), IntKind.i64.wrap (x2 + (IntKind.i64.wrap (8 + (W1 v4 v5 v6 v7)))), h, rfl⟩
      ·refine AW.cond_yes rfl (by rw [c12] <;> rfl) (AW.exit (AW.seq (AW.region ?_)))
       refine s_move (d := (D.one (C.own 0 0 x1.length 1))) rfl (s_move (d := (si x2)) rfl (s_assign (d := (D.one (C.own 0 0 x1.length 1))) rfl (s_assign (d := (si x2)) rfl (AWops.nil (AW.ret ?_)))))
       obtain rfl := Option.some.inj h
       exact ⟨_, rfl, (wG 0 [0] [])⟩
  ·refine AW.cond_no rfl c3 (AW.exit (AW.seq (AW.region ?_)))
   refine s_move (d := (D.one (C.own 0 0 x1.length 1))) rfl (s_move (d := (si x2)) rfl (s_assign (d := (D.one (C.own 0 0 x1.length 1))) rfl (s_assign (d := (si x2)) rfl (AWops.nil (AW.ret ?_)))))
   obtain rfl := Option.some.inj h
   exact ⟨_, rfl, (wG 0 [0] [])⟩
mutual
def dossierref03_Disk_Truncate_32.j0 : Nat → Int → Int → Bool → (List dossierref03_File) → Int → Int → (dossierref03_File × Int) → Option (Int × dossierref03_Disk)
 | 0, _, _, _, _, _, _, _ => none
 | k + 1, x5, x6, x7, x8, x9, a2, r2 => if (x9 == 0) = true then (if (decide (0 ≤ 0 ∧ 0 ≤ (if (r2.1.B.length : Int) < a2 then (r2.1.B.length : Int) else a2) ∧ (if (r2.1.B.length : Int) < a2 then (r2.1.B.length : Int) else a2) ≤ (r2.1.B.length : Int))) = true then (if (decide (([] : List Int).length + (sub r2.1.B 0 (if (r2.1.B.length : Int) < a2 then (r2.1.B.length : Int) else a2)).length ≤ 140737488355328)) = true then ((dossierref03_Disk_set_66.f k (⟨x8, x5, x6, x7⟩ : dossierref03_Disk) (⟨r2.1.Name, sub r2.1.B 0 (if (r2.1.B.length : Int) < a2 then (r2.1.B.length : Int) else a2), (if ((sub r2.1.B 0 (if (r2.1.B.length : Int) < a2 then (r2.1.B.length : Int) else a2)).length : Int) < r2.1.Sure then ((sub r2.1.B 0 (if (r2.1.B.length : Int) < a2 then (r2.1.B.length : Int) else a2)).length : Int) else r2.1.Sure)⟩ : dossierref03_File)).bind fun r13 => some (x9, r13)) else none) else none) else (some (x9, (⟨x8, x5, x6, x7⟩ : dossierref03_Disk)))
end
def dossierref03_Disk_Truncate_32.f (k : Nat) (p0 : dossierref03_Disk) (a1 : ByteArray) (a2 : Int) : Option (Int × dossierref03_Disk) := if (decide (a2 < 0)) = true then (some (1, p0)) else ((dossierref03_Disk_there.f k p0 a1).bind fun r2 => if (r2.2 == 0) = true then ((dossierref03_Disk_burn.f k p0).bind fun r4 => dossierref03_Disk_Truncate_32.j0 k r4.2.Most r4.2.Burns r4.2.Off r4.2.L r4.1 a2 r2) else (dossierref03_Disk_Truncate_32.j0 k p0.Most p0.Burns p0.Off p0.L r2.2 a2 r2))
theorem dossierref03_Disk_Truncate_32.meets (k : Nat) (p0 : dossierref03_Disk) (a1 : ByteArray) (a2 : Int) (r : Int × dossierref03_Disk) (h : dossierref03_Disk_Truncate_32.f k p0 a1 a2 = some r) : Meets Try.prog 32 [(rf 0 0), (st_ a1), (si a2)] [(o_dossierref03_Disk_0 false (C.own 1 0 p0.L.length 3) p0), (or_ e_dossierref03_File p0.L)] (si r.1) [(o_dossierref03_Disk_0 false (C.own 2 0 r.2.L.length 3) r.2), none, (or_ e_dossierref03_File r.2.L)] := by
 unfold dossierref03_Disk_Truncate_32.f at h
 refine Meets.of_body (n := 45) Try.func32 rfl rfl (nl rfl) fun x hx => ?_
 replace hx : x.k = 2 := hx
 show AW _ x _ _ ⟨45, fr0 [(rf 0 0), (st_ a1), (si a2)], [(o_dossierref03_Disk_0 false (C.own 1 0 p0.L.length 3) p0), (or_ e_dossierref03_File p0.L)]⟩
 refine AW.weak (st' := ⟨45, (upd 45 (upd 45 (upd 45 topF 0 (rf 0 0)) 1 (st_ a1)) 2 (si a2)), [(o_dossierref03_Disk_0 false (C.own 2 0 p0.L.length 3) p0), none, (or_ e_dossierref03_File p0.L)]⟩) (Weak.genL (kk := 2) [0, 1, 1] [] hx rfl (by decide) rfl rfl rfl rfl (le_upd (le_upd (le_upd (le_top _) (o1 (.ref rfl))) (o1 .sc)) (o1 .sc)) (ac (.cells id (ac (.own rfl) (ac .sc (ac .sc (ac .sc an))))) (ac (.none _) (ac (.cells id (all2_row _)) an)))) (AW.seq (AW.region ?_))
 refine s_assign (d := (si 0)) rfl (AWops.nil (AW.seq (AW.seq (AW.region ?_))))
 refine s_move (d := (si a2)) rfl (s_binI (v := (.bool (decide (a2 < 0)))) rfl rfl rfl (AWops.nil ?_))
 rcases itH h with ⟨c1, h⟩ | ⟨c1, h⟩
 ·refine AW.cond_yes rfl c1 (AW.seq (AW.region ?_))
  refine s_assign (d := (si 1)) rfl (AWops.nil (AW.ret ?_))
  obtain rfl := Option.some.inj h
  exact ⟨_, rfl, (wG 2 [0, 1, 2] [])⟩
 ·refine AW.cond_no rfl c1 (AW.skip (AW.seq (AW.region ?_)))
  refine s_move (d := (rf 0 0)) rfl (s_move (d := (st_ a1)) rfl ?_)
  obtain ⟨r2, er2, h⟩ := bnd h
  refine cc [0, 2] [(o_dossierref03_Disk_0 false (C.own 2 0 p0.L.length 3) p0), none, (or_ e_dossierref03_File p0.L)] (D.tup [(D.agg (c_dossierref03_File r2.1)), (si r2.2)]) F.ca_63 rfl rfl (ac (.one (.ref rfl)) (ac (.one .sc) an)) (ac (.cells (ac (.own rfl) (ac .sc (ac .sc (ac .sc an))))) (ac (.cells (lend_row _)) an)) (dossierref03_Disk_there.meets _ p0 a1 r2 er2) (s_move (d := (D.tup [(D.agg (c_dossierref03_File r2.1)), (si r2.2)])) rfl (s_extract (d := (D.agg (c_dossierref03_File r2.1))) rfl rfl (s_extract (d := (si r2.2)) rfl rfl (s_alloc (cs := [(ct (⟨#[]⟩ : ByteArray)), (C.p true (.v (.slice none 0 0))), (ci 0)]) F.z_90 rfl rfl (s_store (cs' := (c_dossierref03_File r2.1)) rfl rfl rfl (List.cons_ne_nil _ _) rfl F.sz_90 (nl rfl) rfl ?_)))))
  refine s_assign (d := (si r2.2)) rfl (AWops.nil ?_)
  refine AW.seqJ (fun st => ∃ (x5 : Int) (x6 : Int) (x7 : Bool) (x8 : List dossierref03_File) (x9 : Int), dossierref03_Disk_Truncate_32.j0 k x5 x6 x7 x8 x9 a2 r2 = some r ∧ st = ⟨45, (upd 45 (upd 45 (upd 45 (upd 45 topF 0 (rf 0 0)) 2 (si a2)) 7 (rf 2 0)) 8 (si x9)), [(some (AObj.cells false [(C.own 3 0 x8.length 3), (ci x5), (ci x6), (cb x7)])), none, (some (AObj.cells true (c_dossierref03_File r2.1))), (or_ e_dossierref03_File x8)]⟩) ?_ ?_
  ·refine AW.seq (AW.region ?_)
   refine s_move (d := (si r2.2)) rfl (s_binI (v := (.bool (r2.2 == 0))) rfl rfl rfl (AWops.nil ?_))
   rcases itH h with ⟨c3, h⟩ | ⟨c3, h⟩
   ·refine AW.cond_yes rfl c3 (AW.region ?_)
    refine s_move (d := (rf 0 0)) rfl ?_
    obtain ⟨r4, er4, h⟩ := bnd h
    refine cc [0, 2] [(o_dossierref03_Disk_0 false (C.own 2 0 r4.2.L.length 3) r4.2), none, (or_ e_dossierref03_File r4.2.L), (some (AObj.cells true (c_dossierref03_File r2.1)))] (si r4.1) F.ca_64 rfl rfl (ac (.one (.ref rfl)) an) (ac (.cells (ac (.own rfl) (ac .sc (ac .sc (ac .sc an))))) (ac (.cells (lend_row _)) an)) (dossierref03_Disk_burn.meets _ p0 r4 er4) (s_assign (d := (si r4.1)) rfl (AWops.nil ?_))
    exact ⟨⟨45, (upd 45 (upd 45 (upd 45 (upd 45 topF 0 (rf 0 0)) 2 (si a2)) 7 (rf 2 0)) 8 (si r4.1)), [(some (AObj.cells false [(C.own 3 0 r4.2.L.length 3), (ci r4.2.Most), (ci r4.2.Burns), (cb r4.2.Off)])), none, (some (AObj.cells true (c_dossierref03_File r2.1))), (or_ e_dossierref03_File r4.2.L)]⟩, (wG 2 [0, 1, 3, 2] []), r4.2.Most, r4.2.Burns, r4.2.Off, r4.2.L, r4.1, h, rfl⟩
   ·refine AW.cond_no rfl c3 (AW.skip ?_)
    exact ⟨⟨45, (upd 45 (upd 45 (upd 45 (upd 45 topF 0 (rf 0 0)) 2 (si a2)) 7 (rf 2 0)) 8 (si r2.2)), [(some (AObj.cells false [(C.own 3 0 p0.L.length 3), (ci p0.Most), (ci p0.Burns), (cb p0.Off)])), none, (some (AObj.cells true (c_dossierref03_File r2.1))), (or_ e_dossierref03_File p0.L)]⟩, (wG 2 [0, 1, 3, 2] []), p0.Most, p0.Burns, p0.Off, p0.L, r2.2, h, rfl⟩
  ·rintro st ⟨x5, x6, x7, x8, x9, h, rfl⟩
   cases k with
   | zero => exact absurd h (by simp [dossierref03_Disk_Truncate_32.j0])
   | succ qj0 =>
    replace h := (dossierref03_Disk_Truncate_32.j0.eq_2 _ _ _ _ _ _ _ _).symm.trans h
    refine AW.seq (AW.seq (AW.region ?_))
    refine s_move (d := (si x9)) rfl (s_binI (v := (.bool (x9 == 0))) rfl rfl rfl (AWops.nil ?_))
    rcases itH h with ⟨c10, h⟩ | ⟨c10, h⟩
    ·refine AW.cond_yes rfl c10 (AW.seq (AW.region ?_))
     refine s_buildSlice (n := 0) (ps := []) (cs := rowC e_u8 ([] : List Int)) F.u_22 F.sz_5 F.z_5 rfl rfl (by decide) (by decide) rfl rfl (s_fieldRef F.fo_90_1 (by decide) rfl (s_load1 (c' := (C.p false (.sl r2.1.B.length (r2.1.B.flatMap e_u8)))) F.ag_22 rfl rfl (s_move (d := (si a2)) rfl (s_fieldRef F.fo_90_1 (by decide) rfl (s_load1 (c' := (C.p false (.sl r2.1.B.length (r2.1.B.flatMap e_u8)))) F.ag_22 rfl rfl ?_)))))
     refine s_len (n := r2.1.B.length) F.u_22 rfl (.inr ⟨(fun _ _ h => by cases h), ⟨_, rfl⟩⟩) (s_min2 (r := (if (r2.1.B.length : Int) < a2 then (r2.1.B.length : Int) else a2)) rfl rfl rfl ?_)
     obtain ⟨c11, h⟩ := gdH h
     have dc11 := of_decide_eq_true c11
     refine t_sliceImm (a := 0) (b := (if (r2.1.B.length : Int) < a2 then (r2.1.B.length : Int) else a2)) F.u_22 F.sz_5 e_u8_len rfl (by omega) (by omega) (by omega) .no (.yes rfl (by omega) rfl) ?_
     obtain ⟨c12, h⟩ := gdH h
     have dc12 := of_decide_eq_true c12
     refine t_append (xs := ([] : List Int)) (ys := sub r2.1.B 0 (if (r2.1.B.length : Int) < a2 then (r2.1.B.length : Int) else a2)) (zs := sub r2.1.B 0 (if (r2.1.B.length : Int) < a2 then (r2.1.B.length : Int) else a2)) (H' := [(some (AObj.cells false [(C.own 3 0 x8.length 3), (ci x5), (ci x6), (cb x7)])), none, (some (AObj.cells true (c_dossierref03_File r2.1))), (or_ e_dossierref03_File x8), none, (some (AObj.cells true (rowC e_u8 (sub r2.1.B 0 (if (r2.1.B.length : Int) < a2 then (r2.1.B.length : Int) else a2)))))]) F.u_22 F.in_5 rfl e_u8_len (.own rfl rfl) .imm F.u_22 (by omega) (by omega) rfl rfl (s_fieldRef F.fo_90_1 (by decide) rfl (s_store (cs' := [(ct r2.1.Name), (C.own 5 0 ((sub r2.1.B 0 (if (r2.1.B.length : Int) < a2 then (r2.1.B.length : Int) else a2)).length) 1), (ci r2.1.Sure)]) rfl rfl rfl (List.cons_ne_nil _ _) rfl F.sz_22 (nl rfl) rfl (AWops.nil (AW.seq (AW.region (s_fieldRef F.fo_90_2 (by decide) rfl (s_load1 (c' := (ci r2.1.Sure)) F.ag_3 rfl rfl (s_fieldRef F.fo_90_1 (by decide) rfl ?_))))))))
     refine s_load1 (c' := (C.own 5 0 ((sub r2.1.B 0 (if (r2.1.B.length : Int) < a2 then (r2.1.B.length : Int) else a2)).length) 1)) F.ag_22 rfl rfl (s_len (n := (sub r2.1.B 0 (if (r2.1.B.length : Int) < a2 then (r2.1.B.length : Int) else a2)).length) F.u_22 rfl (.inr ⟨(fun _ _ h => by cases h), ⟨_, rfl⟩⟩) (s_min2 (r := (if ((sub r2.1.B 0 (if (r2.1.B.length : Int) < a2 then (r2.1.B.length : Int) else a2)).length : Int) < r2.1.Sure then ((sub r2.1.B 0 (if (r2.1.B.length : Int) < a2 then (r2.1.B.length : Int) else a2)).length : Int) else r2.1.Sure)) rfl rfl rfl (s_fieldRef F.fo_90_2 (by decide) rfl (s_store (cs' := [(ct r2.1.Name), (C.own 5 0 ((sub r2.1.B 0 (if (r2.1.B.length : Int) < a2 then (r2.1.B.length : Int) else a2)).length) 1), (ci (if ((sub r2.1.B 0 (if (r2.1.B.length : Int) < a2 then (r2.1.B.length : Int) else a2)).length : Int) < r2.1.Sure then ((sub r2.1.B 0 (if (r2.1.B.length : Int) < a2 then (r2.1.B.length : Int) else a2)).length : Int) else r2.1.Sure))]) rfl rfl rfl (List.cons_ne_nil _ _) rfl F.sz_3 (nl rfl) rfl (AWops.nil (AW.region (s_move (d := (rf 0 0)) rfl ?_)))))))
     refine s_loadN (ds := [(ct r2.1.Name), (C.own 5 0 ((sub r2.1.B 0 (if (r2.1.B.length : Int) < a2 then (r2.1.B.length : Int) else a2)).length) 1), (ci (if ((sub r2.1.B 0 (if (r2.1.B.length : Int) < a2 then (r2.1.B.length : Int) else a2)).length : Int) < r2.1.Sure then ((sub r2.1.B 0 (if (r2.1.B.length : Int) < a2 then (r2.1.B.length : Int) else a2)).length : Int) else r2.1.Sure))]) F.ag_90 F.sz_90 rfl rfl rfl ?_
     obtain ⟨r13, er13, h⟩ := bnd h
     refine AWops.weak (st' := ⟨45, (upd 45 (upd 45 (upd 45 (upd 45 (upd 45 (upd 45 (upd 45 (upd 45 (upd 45 (upd 45 (upd 45 (upd 45 (upd 45 (upd 45 (upd 45 (upd 45 (upd 45 (upd 45 (upd 45 (upd 45 (upd 45 (upd 45 (upd 45 (upd 45 (upd 45 topF 0 (rf 0 0)) 2 (si a2)) 7 (rf 2 0)) 8 (si x9)) 21 (si x9)) 22 (sb (x9 == 0))) 24 (rf 2 1)) 25 (D.one (C.p false (.sl r2.1.B.length (r2.1.B.flatMap e_u8))))) 26 (si a2)) 27 (rf 2 1)) 28 (D.one (C.p false (.sl r2.1.B.length (r2.1.B.flatMap e_u8))))) 29 (si (r2.1.B.length : Int))) 30 (si (if (r2.1.B.length : Int) < a2 then (r2.1.B.length : Int) else a2))) 31 (D.one (C.p false (.sl (sub r2.1.B 0 (if (r2.1.B.length : Int) < a2 then (r2.1.B.length : Int) else a2)).length ((sub r2.1.B 0 (if (r2.1.B.length : Int) < a2 then (r2.1.B.length : Int) else a2)).flatMap e_u8))))) 32 (D.one (C.p false (.sl (sub r2.1.B 0 (if (r2.1.B.length : Int) < a2 then (r2.1.B.length : Int) else a2)).length ((sub r2.1.B 0 (if (r2.1.B.length : Int) < a2 then (r2.1.B.length : Int) else a2)).flatMap e_u8))))) 33 (rf 2 1)) 34 (rf 2 2)) 35 (si r2.1.Sure)) 36 (rf 2 1)) 37 (D.one (C.p false (.sl (sub r2.1.B 0 (if (r2.1.B.length : Int) < a2 then (r2.1.B.length : Int) else a2)).length ((sub r2.1.B 0 (if (r2.1.B.length : Int) < a2 then (r2.1.B.length : Int) else a2)).flatMap e_u8))))) 38 (si ((sub r2.1.B 0 (if (r2.1.B.length : Int) < a2 then (r2.1.B.length : Int) else a2)).length : Int))) 39 (si (if ((sub r2.1.B 0 (if (r2.1.B.length : Int) < a2 then (r2.1.B.length : Int) else a2)).length : Int) < r2.1.Sure then ((sub r2.1.B 0 (if (r2.1.B.length : Int) < a2 then (r2.1.B.length : Int) else a2)).length : Int) else r2.1.Sure))) 40 (rf 2 2)) 41 (rf 0 0)) 42 (D.agg [(ct r2.1.Name), (C.p false (.sl (sub r2.1.B 0 (if (r2.1.B.length : Int) < a2 then (r2.1.B.length : Int) else a2)).length ((sub r2.1.B 0 (if (r2.1.B.length : Int) < a2 then (r2.1.B.length : Int) else a2)).flatMap e_u8))), (ci (if ((sub r2.1.B 0 (if (r2.1.B.length : Int) < a2 then (r2.1.B.length : Int) else a2)).length : Int) < r2.1.Sure then ((sub r2.1.B 0 (if (r2.1.B.length : Int) < a2 then (r2.1.B.length : Int) else a2)).length : Int) else r2.1.Sure))])), [(some (AObj.cells false [(C.own 3 0 x8.length 3), (ci x5), (ci x6), (cb x7)])), none, (some (AObj.cells true [(ct r2.1.Name), (C.p false (.sl (sub r2.1.B 0 (if (r2.1.B.length : Int) < a2 then (r2.1.B.length : Int) else a2)).length ((sub r2.1.B 0 (if (r2.1.B.length : Int) < a2 then (r2.1.B.length : Int) else a2)).flatMap e_u8))), (ci (if ((sub r2.1.B 0 (if (r2.1.B.length : Int) < a2 then (r2.1.B.length : Int) else a2)).length : Int) < r2.1.Sure then ((sub r2.1.B 0 (if (r2.1.B.length : Int) < a2 then (r2.1.B.length : Int) else a2)).length : Int) else r2.1.Sure))])), (or_ e_dossierref03_File x8)]⟩) (wG 2 [0, 1, 2, 3] [5]) ?_
     refine cc [0, 3] [(o_dossierref03_Disk_0 false (C.own 4 0 r13.L.length 3) r13), none, (some (AObj.cells true [(ct r2.1.Name), (C.p false (.sl (sub r2.1.B 0 (if (r2.1.B.length : Int) < a2 then (r2.1.B.length : Int) else a2)).length ((sub r2.1.B 0 (if (r2.1.B.length : Int) < a2 then (r2.1.B.length : Int) else a2)).flatMap e_u8))), (ci (if ((sub r2.1.B 0 (if (r2.1.B.length : Int) < a2 then (r2.1.B.length : Int) else a2)).length : Int) < r2.1.Sure then ((sub r2.1.B 0 (if (r2.1.B.length : Int) < a2 then (r2.1.B.length : Int) else a2)).length : Int) else r2.1.Sure))])), none, (or_ e_dossierref03_File r13.L)] (D.tup []) F.ca_66 rfl rfl (ac (.one (.ref rfl)) (ac (LendT.aggL (ac .sc (ac .imm (ac .sc an)))) an)) (ac (.cells (ac (.own rfl) (ac .sc (ac .sc (ac .sc an))))) (ac (.cells (lend_row _)) an)) (dossierref03_Disk_set_66.meets _ (⟨x8, x5, x6, x7⟩ : dossierref03_Disk) (⟨r2.1.Name, sub r2.1.B 0 (if (r2.1.B.length : Int) < a2 then (r2.1.B.length : Int) else a2), (if ((sub r2.1.B 0 (if (r2.1.B.length : Int) < a2 then (r2.1.B.length : Int) else a2)).length : Int) < r2.1.Sure then ((sub r2.1.B 0 (if (r2.1.B.length : Int) < a2 then (r2.1.B.length : Int) else a2)).length : Int) else r2.1.Sure)⟩ : dossierref03_File) r13 er13) (AWops.nil (AW.seq (AW.region ?_)))
     refine s_move (d := (si x9)) rfl (s_assign (d := (si x9)) rfl (AWops.nil (AW.ret ?_)))
     obtain rfl := Option.some.inj h
     exact ⟨_, rfl, (wG 2 [0, 1, 4] [])⟩
    ·refine AW.cond_no rfl c10 (AW.skip (AW.seq (AW.region ?_)))
     refine s_move (d := (si x9)) rfl (s_assign (d := (si x9)) rfl (AWops.nil (AW.ret ?_)))
     obtain rfl := Option.some.inj h
     exact ⟨_, rfl, (wG 2 [0, 1, 3] [])⟩
mutual
def dossierref04_Open_11.j0 : Nat → Int → Int → Bool → (List dossierref03_File) → (List Int) → Option ((Option dossierref04_Journal) × Int × dossierref03_Disk)
 | 0, _, _, _, _, _ => none
 | k + 1, x6, x7, x8, x9, a1 => (dossierref03_Disk_Read.f k (⟨x9, x6, x7, x8⟩ : dossierref03_Disk) (⟨#[106, 111, 117, 114, 110, 97, 108]⟩ : ByteArray)).bind fun r10 => if (r10.2 != 0) = true then (if (decide ((a1.length : Int) > 4194304)) = true then (some ((none : Option dossierref04_Journal), 1, (⟨x9, x6, x7, x8⟩ : dossierref03_Disk))) else ((dossierref04_fresh_30.f k (⟨x9, x6, x7, x8⟩ : dossierref03_Disk) a1).bind fun r13 => if (r13.1 != 0) = true then (some ((none : Option dossierref04_Journal), r13.1, r13.2)) else (if (decide (([] : List Int).length + a1.length ≤ 140737488355328)) = true then (some (some (⟨(), a1, ([] : List (List Int)), false⟩ : dossierref04_Journal), 0, r13.2)) else none))) else ((dossierref04_frames.f k r10.1).bind fun r16 => if ((r16.1.length : Int) == 0) = true then (some ((none : Option dossierref04_Journal), 72, (⟨x9, x6, x7, x8⟩ : dossierref03_Disk))) else (if (decide (r16.2 < (r10.1.length : Int))) = true then ((dossierref03_Disk_Truncate_32.f k (⟨x9, x6, x7, x8⟩ : dossierref03_Disk) (⟨#[106, 111, 117, 114, 110, 97, 108]⟩ : ByteArray) r16.2).bind fun r19 => if (r19.1 != 0) = true then (some ((none : Option dossierref04_Journal), r19.1, r19.2)) else ((rd r16.1 0).bind fun v21 => if (decide (1 ≤ r16.1.length)) = true then (some (some (⟨(), v21, r16.1.drop 1, false⟩ : dossierref04_Journal), 0, r19.2)) else none)) else ((rd r16.1 0).bind fun v24 => if (decide (1 ≤ r16.1.length)) = true then (some (some (⟨(), v24, r16.1.drop 1, false⟩ : dossierref04_Journal), 0, (⟨x9, x6, x7, x8⟩ : dossierref03_Disk))) else none)))
end
def dossierref04_Open_11.f (k : Nat) (p0 : dossierref03_Disk) (a1 : List Int) : Option ((Option dossierref04_Journal) × Int × dossierref03_Disk) := if p0.Off = true then (some ((none : Option dossierref04_Journal), 70, p0)) else ((dossierref03_Disk_Read.f k p0 (⟨#[106, 111, 117, 114, 110, 97, 108, 46, 110, 101, 119]⟩ : ByteArray)).bind fun r2 => if (r2.2 == 0) = true then ((dossierref03_Disk_Remove_29.f k p0 (⟨#[106, 111, 117, 114, 110, 97, 108, 46, 110, 101, 119]⟩ : ByteArray)).bind fun r4 => if (r4.1 != 0) = true then (some ((none : Option dossierref04_Journal), r4.1, r4.2)) else (dossierref04_Open_11.j0 k r4.2.Most r4.2.Burns r4.2.Off r4.2.L a1)) else (dossierref04_Open_11.j0 k p0.Most p0.Burns p0.Off p0.L a1))
theorem dossierref04_Open_11.meets (k : Nat) (p0 : dossierref03_Disk) (a1 : List Int) (r : (Option dossierref04_Journal) × Int × dossierref03_Disk) (h : dossierref04_Open_11.f k p0 a1 = some r) : Meets Try.prog 11 [(rf 0 0), (D.one (C.p false (.sl a1.length (a1.flatMap e_u8))))] [(o_dossierref03_Disk_0 false (C.own 1 0 p0.L.length 3) p0), (or_ e_dossierref03_File p0.L)] (optE r.1 (D.tup [(sc (.pointer none)), (si r.2.1)]) (fun z1 : dossierref04_Journal => (D.tup [(rf 3 0), (si r.2.1)]))) (optE r.1 [(o_dossierref03_Disk_0 false (C.own 2 0 r.2.2.L.length 3) r.2.2), none, (or_ e_dossierref03_File r.2.2.L)] (fun z1 : dossierref04_Journal => [(o_dossierref03_Disk_0 false (C.own 2 0 r.2.2.L.length 3) r.2.2), none, (or_ e_dossierref03_File r.2.2.L), (o_dossierref04_Journal_02 true (C.ref 0 0) (C.own 4 0 z1.L.length 1) z1), (some (AObj.cells false (rowC (e_sl e_u8) z1.L)))])) := by
 unfold dossierref04_Open_11.f at h
 refine Meets.of_body (n := 79) Try.func11 rfl rfl (nl rfl) fun x hx => ?_
 replace hx : x.k = 2 := hx
 show AW _ x _ _ ⟨79, fr0 [(rf 0 0), (D.one (C.p false (.sl a1.length (a1.flatMap e_u8))))], [(o_dossierref03_Disk_0 false (C.own 1 0 p0.L.length 3) p0), (or_ e_dossierref03_File p0.L)]⟩
 refine AW.weak (st' := ⟨79, (upd 79 (upd 79 topF 0 (rf 0 0)) 1 (D.one (C.p false (.sl a1.length (a1.flatMap e_u8))))), [(o_dossierref03_Disk_0 false (C.own 2 0 p0.L.length 3) p0), none, (or_ e_dossierref03_File p0.L)]⟩) (Weak.genL (kk := 2) [0, 1, 1] [] hx rfl (by decide) rfl rfl rfl rfl (le_upd (le_upd (le_top _) (o1 (.ref rfl))) (o1 .same)) (ac (.cells id (ac (.own rfl) (ac .sc (ac .sc (ac .sc an))))) (ac (.none _) (ac (.cells id (all2_row _)) an)))) (AW.seq (AW.region ?_))
 refine s_assign (d := (sc (.pointer none))) rfl (s_assign (d := (si 0)) rfl (AWops.nil (AW.seq (AW.seq (AW.region (s_move (d := (rf 0 0)) rfl (s_nilCheck (d := (rf 0 0)) rfl (.inl ⟨_, _, rfl⟩) (s_fieldRef F.fo_52_3 (by decide) rfl (s_load1 (c' := (cb p0.Off)) F.ag_4 rfl rfl (AWops.nil ?_))))))))))
 rcases itH h with ⟨c1, h⟩ | ⟨c1, h⟩
 ·refine AW.cond_yes rfl c1 (AW.seq (AW.region ?_))
  refine s_assign (d := (sc (.pointer none))) rfl (s_assign (d := (si 70)) rfl (AWops.nil (AW.ret ?_)))
  obtain rfl := Option.some.inj h
  exact ⟨_, rfl, (wG 2 [0, 1, 2] [])⟩
 ·refine AW.cond_no rfl c1 (AW.skip ?_)
  refine AW.seqJ (fun st => ∃ (x6 : Int) (x7 : Int) (x8 : Bool) (x9 : List dossierref03_File), dossierref04_Open_11.j0 k x6 x7 x8 x9 a1 = some r ∧ st = ⟨79, (upd 79 (upd 79 topF 0 (rf 0 0)) 1 (D.one (C.p false (.sl a1.length (a1.flatMap e_u8))))), [(some (AObj.cells false [(C.own 2 0 x9.length 3), (ci x6), (ci x7), (cb x8)])), none, (or_ e_dossierref03_File x9)]⟩) ?_ ?_
  ·refine AW.seq (AW.region ?_)
   refine s_move (d := (rf 0 0)) rfl ?_
   obtain ⟨r2, er2, h⟩ := bnd h
   refine cc [0, 2] [(o_dossierref03_Disk_0 false (C.own 2 0 p0.L.length 3) p0), none, (or_ e_dossierref03_File p0.L)] (D.tup [(D.one (C.p false (.sl r2.1.length (r2.1.flatMap e_u8)))), (si r2.2)]) F.ca_28 rfl rfl (ac (.one (.ref rfl)) (ac (.one .sc) an)) (ac (.cells (ac (.own rfl) (ac .sc (ac .sc (ac .sc an))))) (ac (.cells (lend_row _)) an)) (dossierref03_Disk_Read.meets _ p0 (⟨#[106, 111, 117, 114, 110, 97, 108, 46, 110, 101, 119]⟩ : ByteArray) r2 er2) (s_move (d := (D.tup [(D.one (C.p false (.sl r2.1.length (r2.1.flatMap e_u8)))), (si r2.2)])) rfl (s_extract (d := (D.one (C.p false (.sl r2.1.length (r2.1.flatMap e_u8))))) rfl rfl (s_extract (d := (si r2.2)) rfl rfl (s_assign (d := (D.one (C.p false (.sl r2.1.length (r2.1.flatMap e_u8))))) rfl (s_assign (d := (si r2.2)) rfl (AWops.nil (AW.seq (AW.region ?_))))))))
   refine s_move (d := (si r2.2)) rfl (s_binI (v := (.bool (r2.2 == 0))) rfl rfl rfl (AWops.nil ?_))
   rcases itH h with ⟨c3, h⟩ | ⟨c3, h⟩
   ·refine AW.cond_yes rfl c3 (AW.seq (AW.region ?_))
    refine s_move (d := (rf 0 0)) rfl ?_
    obtain ⟨r4, er4, h⟩ := bnd h
    refine cc [0, 2] [(o_dossierref03_Disk_0 false (C.own 3 0 r4.2.L.length 3) r4.2), none, none, (or_ e_dossierref03_File r4.2.L)] (si r4.1) F.ca_29 rfl rfl (ac (.one (.ref rfl)) (ac (.one .sc) an)) (ac (.cells (ac (.own rfl) (ac .sc (ac .sc (ac .sc an))))) (ac (.cells (lend_row _)) an)) (dossierref03_Disk_Remove_29.meets _ p0 (⟨#[106, 111, 117, 114, 110, 97, 108, 46, 110, 101, 119]⟩ : ByteArray) r4 er4) (s_assign (d := (si r4.1)) rfl (AWops.nil (AW.seq (AW.region (s_move (d := (si r4.1)) rfl (s_binI (v := (.bool (r4.1 != 0))) rfl rfl rfl (AWops.nil ?_)))))))
    rcases itH h with ⟨c5, h⟩ | ⟨c5, h⟩
    ·refine AW.cond_yes rfl c5 (AW.seq (AW.region ?_))
     refine s_move (d := (si r4.1)) rfl (s_assign (d := (sc (.pointer none))) rfl (s_assign (d := (si r4.1)) rfl (AWops.nil (AW.ret ?_))))
     obtain rfl := Option.some.inj h
     exact ⟨_, rfl, (wG 2 [0, 1, 3] [])⟩
    ·refine AW.cond_no rfl c5 (AW.skip ?_)
     exact ⟨⟨79, (upd 79 (upd 79 topF 0 (rf 0 0)) 1 (D.one (C.p false (.sl a1.length (a1.flatMap e_u8))))), [(some (AObj.cells false [(C.own 2 0 r4.2.L.length 3), (ci r4.2.Most), (ci r4.2.Burns), (cb r4.2.Off)])), none, (or_ e_dossierref03_File r4.2.L)]⟩, (wG 2 [0, 1, 3] []), r4.2.Most, r4.2.Burns, r4.2.Off, r4.2.L, h, rfl⟩
   ·refine AW.cond_no rfl c3 (AW.skip ?_)
    exact ⟨⟨79, (upd 79 (upd 79 topF 0 (rf 0 0)) 1 (D.one (C.p false (.sl a1.length (a1.flatMap e_u8))))), [(some (AObj.cells false [(C.own 2 0 p0.L.length 3), (ci p0.Most), (ci p0.Burns), (cb p0.Off)])), none, (or_ e_dossierref03_File p0.L)]⟩, (wG 2 [0, 1, 2] []), p0.Most, p0.Burns, p0.Off, p0.L, h, rfl⟩
  ·rintro st ⟨x6, x7, x8, x9, h, rfl⟩
   cases k with
   | zero => exact absurd h (by simp [dossierref04_Open_11.j0])
   | succ qj0 =>
    replace h := (dossierref04_Open_11.j0.eq_2 _ _ _ _ _ _).symm.trans h
    refine AW.seq (AW.region ?_)
    refine s_move (d := (rf 0 0)) rfl ?_
    obtain ⟨r10, er10, h⟩ := bnd h
    refine cc [0, 2] [(some (AObj.cells false [(C.own 2 0 x9.length 3), (ci x6), (ci x7), (cb x8)])), none, (or_ e_dossierref03_File x9)] (D.tup [(D.one (C.p false (.sl r10.1.length (r10.1.flatMap e_u8)))), (si r10.2)]) F.ca_28 rfl rfl (ac (.one (.ref rfl)) (ac (.one .sc) an)) (ac (.cells (ac (.own rfl) (ac .sc (ac .sc (ac .sc an))))) (ac (.cells (lend_row _)) an)) (dossierref03_Disk_Read.meets _ (⟨x9, x6, x7, x8⟩ : dossierref03_Disk) (⟨#[106, 111, 117, 114, 110, 97, 108]⟩ : ByteArray) r10 er10) (s_move (d := (D.tup [(D.one (C.p false (.sl r10.1.length (r10.1.flatMap e_u8)))), (si r10.2)])) rfl (s_extract (d := (D.one (C.p false (.sl r10.1.length (r10.1.flatMap e_u8))))) rfl rfl (s_extract (d := (si r10.2)) rfl rfl (s_assign (d := (D.one (C.p false (.sl r10.1.length (r10.1.flatMap e_u8))))) rfl (s_assign (d := (si r10.2)) rfl (AWops.nil (AW.seq (AW.seq (AW.region ?_)))))))))
    refine s_move (d := (si r10.2)) rfl (s_binI (v := (.bool (r10.2 != 0))) rfl rfl rfl (AWops.nil ?_))
    rcases itH h with ⟨c11, h⟩ | ⟨c11, h⟩
    ·refine AW.cond_yes rfl c11 (AW.seq (AW.seq (AW.region ?_)))
     refine s_move (d := (D.one (C.p false (.sl a1.length (a1.flatMap e_u8))))) rfl (s_len (n := a1.length) F.u_22 rfl (.inr ⟨(fun _ _ h => by cases h), ⟨_, rfl⟩⟩) (s_binI (v := (.bool (decide ((a1.length : Int) > 4194304)))) rfl rfl rfl (AWops.nil ?_)))
     rcases itH h with ⟨c12, h⟩ | ⟨c12, h⟩
     ·refine AW.cond_yes rfl c12 (AW.seq (AW.region ?_))
      refine s_assign (d := (sc (.pointer none))) rfl (s_assign (d := (si 1)) rfl (AWops.nil (AW.ret ?_)))
      obtain rfl := Option.some.inj h
      exact ⟨_, rfl, (wG 2 [0, 1, 2] [])⟩
     ·refine AW.cond_no rfl c12 (AW.skip (AW.seq (AW.seq (AW.region ?_))))
      refine s_move (d := (rf 0 0)) rfl (s_move (d := (D.one (C.p false (.sl a1.length (a1.flatMap e_u8))))) rfl ?_)
      obtain ⟨r13, er13, h⟩ := bnd h
      refine cc [0, 2] [(o_dossierref03_Disk_0 false (C.own 3 0 r13.2.L.length 3) r13.2), none, none, (or_ e_dossierref03_File r13.2.L)] (si r13.1) F.ca_30 rfl rfl (ac (.one (.ref rfl)) (ac (.one .imm) an)) (ac (.cells (ac (.own rfl) (ac .sc (ac .sc (ac .sc an))))) (ac (.cells (lend_row _)) an)) (dossierref04_fresh_30.meets _ (⟨x9, x6, x7, x8⟩ : dossierref03_Disk) a1 r13 er13) (s_assign (d := (si r13.1)) rfl (AWops.nil (AW.seq (AW.region (s_move (d := (si r13.1)) rfl (s_binI (v := (.bool (r13.1 != 0))) rfl rfl rfl (AWops.nil ?_)))))))
      rcases itH h with ⟨c14, h⟩ | ⟨c14, h⟩
      ·refine AW.cond_yes rfl c14 (AW.seq (AW.region ?_))
       refine s_move (d := (si r13.1)) rfl (s_assign (d := (sc (.pointer none))) rfl (s_assign (d := (si r13.1)) rfl (AWops.nil (AW.ret ?_))))
       obtain rfl := Option.some.inj h
       exact ⟨_, rfl, (wG 2 [0, 1, 3] [])⟩
      ·refine AW.cond_no rfl c14 (AW.skip (AW.seq (AW.region ?_)))
       refine s_move (d := (rf 0 0)) rfl (s_buildSlice (n := 0) (ps := []) (cs := rowC e_u8 ([] : List Int)) F.u_22 F.sz_5 F.z_5 rfl rfl (by decide) (by decide) rfl rfl (s_move (d := (D.one (C.p false (.sl a1.length (a1.flatMap e_u8))))) rfl ?_))
       obtain ⟨c15, h⟩ := gdH h
       have dc15 := of_decide_eq_true c15
       refine t_append (xs := ([] : List Int)) (ys := a1) (zs := a1) (H' := [(o_dossierref03_Disk_0 false (C.own 3 0 r13.2.L.length 3) r13.2), none, none, (or_ e_dossierref03_File r13.2.L), none, (ow_ e_u8 a1)]) F.u_22 F.in_5 rfl e_u8_len (.own rfl rfl) .imm F.u_22 (by omega) (by omega) rfl rfl (s_build (ps := [(0, (rf 0 0)), (1, (D.one (C.own 5 0 a1.length 1)))]) (cs := [(C.ref 0 0), (C.own 5 0 a1.length 1), (C.p true (.v (.slice none 0 0))), (cb false)]) F.z_63 rfl F.so_63 rfl rfl (s_box (cs := [(C.ref 0 0), (C.own 5 0 a1.length 1), (C.p true (.v (.slice none 0 0))), (cb false)]) rfl (List.cons_ne_nil _ _) rfl (s_assign (d := (rf 6 0)) rfl (s_assign (d := (si 0)) rfl (AWops.nil (AW.ret ?_))))))
       obtain rfl := Option.some.inj h
       exact ⟨_, rfl, (Weak.trans (Weak.nilC (t := 6) (j := 2) (sz := 1) rfl rfl rfl) (wG 2 [0, 1, 3, 6, 7] [5]))⟩
    ·refine AW.cond_no rfl c11 (AW.skip (AW.seq (AW.region ?_)))
     refine s_move (d := (D.one (C.p false (.sl r10.1.length (r10.1.flatMap e_u8))))) rfl ?_
     obtain ⟨r16, er16, h⟩ := bnd h
     refine cc [] [(some (AObj.cells false [(C.own 2 0 x9.length 3), (ci x6), (ci x7), (cb x8)])), none, (or_ e_dossierref03_File x9), (some (AObj.cells true (rowC (e_sl e_u8) r16.1)))] (D.tup [(D.one (C.own 3 0 r16.1.length 1)), (si r16.2)]) F.ca_31 rfl rfl (ac (.one .imm) an) an (dossierref04_frames.meets _ r10.1 r16 er16) (s_move (d := (D.tup [(D.one (C.own 3 0 r16.1.length 1)), (si r16.2)])) rfl (s_extract (d := (D.one (C.own 3 0 r16.1.length 1))) rfl rfl (s_extract (d := (si r16.2)) rfl rfl (s_assign (d := (D.one (C.own 3 0 r16.1.length 1))) rfl (s_assign (d := (si r16.2)) rfl (AWops.nil (AW.seq (AW.seq (AW.region ?_)))))))))
     refine s_move (d := (D.one (C.own 3 0 r16.1.length 1))) rfl (s_len (n := r16.1.length) F.u_61 rfl (.inr ⟨(fun _ _ h => by cases h), ⟨_, rfl⟩⟩) (s_binI (v := (.bool ((r16.1.length : Int) == 0))) rfl rfl rfl (AWops.nil ?_)))
     rcases itH h with ⟨c17, h⟩ | ⟨c17, h⟩
     ·refine AW.cond_yes rfl c17 (AW.seq (AW.region ?_))
      refine s_assign (d := (sc (.pointer none))) rfl (s_assign (d := (si 72)) rfl (AWops.nil (AW.ret ?_)))
      obtain rfl := Option.some.inj h
      exact ⟨_, rfl, (wG 2 [0, 1, 2] [])⟩
     ·refine AW.cond_no rfl c17 (AW.skip (AW.seq (AW.seq (AW.region ?_))))
      refine s_move (d := (si r16.2)) rfl (s_move (d := (D.one (C.p false (.sl r10.1.length (r10.1.flatMap e_u8))))) rfl (s_len (n := r10.1.length) F.u_22 rfl (.inr ⟨(fun _ _ h => by cases h), ⟨_, rfl⟩⟩) (s_binI (v := (.bool (decide (r16.2 < (r10.1.length : Int))))) rfl rfl rfl (AWops.nil ?_))))
      rcases itH h with ⟨c18, h⟩ | ⟨c18, h⟩
      ·refine AW.cond_yes rfl c18 (AW.seq (AW.region ?_))
       refine s_move (d := (rf 0 0)) rfl (s_move (d := (si r16.2)) rfl ?_)
       obtain ⟨r19, er19, h⟩ := bnd h
       refine cc [0, 2] [(o_dossierref03_Disk_0 false (C.own 4 0 r19.2.L.length 3) r19.2), none, none, (some (AObj.cells true (rowC (e_sl e_u8) r16.1))), (or_ e_dossierref03_File r19.2.L)] (si r19.1) F.ca_32 rfl rfl (ac (.one (.ref rfl)) (ac (.one .sc) (ac (.one .sc) an))) (ac (.cells (ac (.own rfl) (ac .sc (ac .sc (ac .sc an))))) (ac (.cells (lend_row _)) an)) (dossierref03_Disk_Truncate_32.meets _ (⟨x9, x6, x7, x8⟩ : dossierref03_Disk) (⟨#[106, 111, 117, 114, 110, 97, 108]⟩ : ByteArray) r16.2 r19 er19) (s_assign (d := (si r19.1)) rfl (AWops.nil (AW.seq (AW.region (s_move (d := (si r19.1)) rfl (s_binI (v := (.bool (r19.1 != 0))) rfl rfl rfl (AWops.nil ?_)))))))
       rcases itH h with ⟨c20, h⟩ | ⟨c20, h⟩
       ·refine AW.cond_yes rfl c20 (AW.seq (AW.region ?_))
        refine s_move (d := (si r19.1)) rfl (s_assign (d := (sc (.pointer none))) rfl (s_assign (d := (si r19.1)) rfl (AWops.nil (AW.ret ?_))))
        obtain rfl := Option.some.inj h
        exact ⟨_, rfl, (wG 2 [0, 1, 4] [])⟩
       ·refine AW.cond_no rfl c20 (AW.skip (AW.seq ?_))
        refine AW.weak (st' := ⟨79, (upd 79 (upd 79 topF 0 (rf 0 0)) 12 (D.one (C.own 2 0 r16.1.length 1))), [(o_dossierref03_Disk_0 false (C.own 3 0 r19.2.L.length 3) r19.2), none, (some (AObj.cells true (rowC (e_sl e_u8) r16.1))), (or_ e_dossierref03_File r19.2.L)]⟩) (wG 2 [0, 1, 3, 4] []) ?_
        obtain ⟨v21, ev21, h⟩ := bnd h
        obtain ⟨pv21, qv21, gv21⟩ := rd_some ev21
        obtain ⟨R22, hR22⟩ := row_at (f := (e_sl e_u8)) (sz := 1) (o := 0) (e_sl_len _) gv21 (e_sl_eq _ v21) (by decide)
        obtain ⟨c23, h⟩ := gdH h
        have dc23 := of_decide_eq_true c23
        refine AW.draw2 5 [kf 71 (rf 0 0) [0], kf 72 (D.one (C.own 2 0 r16.1.length 1)) [12], ⟨some 73, (D.one (C.er 2 (0 + 0 * 1))), [72], [2], [], none⟩, ⟨some 74, (D.one (C.p false (.sl v21.length (v21.flatMap e_u8)))), [73], [2], [], none⟩, kf 75 (D.one (C.own 2 0 r16.1.length 1)) [12], ⟨some 76, (D.one (C.cut 2 (1 * 1) (r16.1.length - 1) 1)), [75], [2], [], none⟩, kf 77 (D.agg [(C.ref 0 0), (C.p false (.sl v21.length (v21.flatMap e_u8))), (C.cut 2 (1 * 1) (r16.1.length - 1) 1), (cb false)]) [71, 74, 76], ⟨some 78, (rf 4 0), [77], [], [(4, (some (AObj.cells true [(C.ref 0 0), (C.p false (.sl v21.length (v21.flatMap e_u8))), (C.cut 2 (1 * 1) (r16.1.length - 1) 1), (cb false)])))], some (4, 1)⟩, kf 4 (rf 4 0) [78], kf 5 (si 0) []] ⟨?_, ?_⟩
        ·refine (pA (pA (pC ?_ (pC ?_ (pA (pC ?_ (pC ?_ (pC ?_ (pA (pA AllStep.nil'))))))))))
         ·intro K rest fr hv htk k
          refine s_indexOwn (d := (D.one (C.er 2 (0 + 0 * 1)))) F.u_61 F.sz_22 rfl rfl pv21 qv21 rfl k
         ·intro K rest fr hv htk k
          refine s_load1 (c' := (C.p false (.sl v21.length (v21.flatMap e_u8)))) F.ag_22 (congrArg some hR22) rfl k
         ·intro K rest fr hv htk k
          refine s_sliceCut (l := 1) (n := r16.1.length) F.u_61 F.sz_22 rfl (.yes rfl (by omega) rfl) (by decide) (by omega) rfl k
         ·intro K rest fr hv htk k
          refine s_build (ps := [(0, (rf 0 0)), (1, (D.one (C.p false (.sl v21.length (v21.flatMap e_u8))))), (2, (D.one (C.cut 2 (1 * 1) (r16.1.length - 1) 1)))]) (cs := [(C.ref 0 0), (C.p false (.sl v21.length (v21.flatMap e_u8))), (C.cut 2 (1 * 1) (r16.1.length - 1) 1), (cb false)]) F.z_63 rfl F.so_63 rfl rfl k
         ·intro K rest fr hv htk k
          refine s_box (cs := [(C.ref 0 0), (C.p false (.sl v21.length (v21.flatMap e_u8))), (C.cut 2 (1 * 1) (r16.1.length - 1) 1), (cb false)]) rfl (List.cons_ne_nil _ _) rfl ?_
          refine AWops.weak (wD 2 (4, 1) 5 [0, 1, 2, 3, 5] [] (htk (4, 1) rfl)) k
        ·refine AWops.weak (st' := ⟨79, (upd 79 (upd 79 topF 4 (rf 2 0)) 5 (si 0)), [(o_dossierref03_Disk_0 false (C.own 3 0 r19.2.L.length 3) r19.2), none, (some (AObj.cells true [(C.ref 0 0), (C.p false (.sl v21.length (v21.flatMap e_u8))), (C.cut 4 (1 * 1) (r16.1.length - 1) 1), (cb false)])), (or_ e_dossierref03_File r19.2.L), (some (AObj.cells true (rowC (e_sl e_u8) r16.1)))]⟩) (wG 2 [0, 1, 4, 3, 2] []) ?_
         refine AWops.weak (Weak.cutR (t := 4) (p := 2) (j := 2) (l := 1) (xs := r16.1) (H' := [(o_dossierref03_Disk_0 false (C.own 3 0 r19.2.L.length 3) r19.2), none, (some (AObj.cells true [(C.ref 0 0), (C.p false (.sl v21.length (v21.flatMap e_u8))), (C.own 5 0 ((r16.1.drop 1).length) 1), (cb false)])), (or_ e_dossierref03_File r19.2.L), none, (some (AObj.cells true (rowC (e_sl e_u8) (r16.1.drop 1))))]) (e_sl_len _) rfl rfl rfl rfl rfl) (AWops.nil (AW.ret ?_))
         obtain rfl := Option.some.inj h
         exact ⟨_, rfl, (wG 2 [0, 1, 3, 2, 5] [])⟩
      ·refine AW.cond_no rfl c18 (AW.skip (AW.seq ?_))
       refine AW.weak (st' := ⟨79, (upd 79 (upd 79 topF 0 (rf 0 0)) 12 (D.one (C.own 2 0 r16.1.length 1))), [(some (AObj.cells false [(C.own 3 0 x9.length 3), (ci x6), (ci x7), (cb x8)])), none, (some (AObj.cells true (rowC (e_sl e_u8) r16.1))), (or_ e_dossierref03_File x9)]⟩) (wG 2 [0, 1, 3, 2] []) ?_
       obtain ⟨v24, ev24, h⟩ := bnd h
       obtain ⟨pv24, qv24, gv24⟩ := rd_some ev24
       obtain ⟨R25, hR25⟩ := row_at (f := (e_sl e_u8)) (sz := 1) (o := 0) (e_sl_len _) gv24 (e_sl_eq _ v24) (by decide)
       obtain ⟨c26, h⟩ := gdH h
       have dc26 := of_decide_eq_true c26
       refine AW.draw2 5 [kf 71 (rf 0 0) [0], kf 72 (D.one (C.own 2 0 r16.1.length 1)) [12], ⟨some 73, (D.one (C.er 2 (0 + 0 * 1))), [72], [2], [], none⟩, ⟨some 74, (D.one (C.p false (.sl v24.length (v24.flatMap e_u8)))), [73], [2], [], none⟩, kf 75 (D.one (C.own 2 0 r16.1.length 1)) [12], ⟨some 76, (D.one (C.cut 2 (1 * 1) (r16.1.length - 1) 1)), [75], [2], [], none⟩, kf 77 (D.agg [(C.ref 0 0), (C.p false (.sl v24.length (v24.flatMap e_u8))), (C.cut 2 (1 * 1) (r16.1.length - 1) 1), (cb false)]) [71, 74, 76], ⟨some 78, (rf 4 0), [77], [], [(4, (some (AObj.cells true [(C.ref 0 0), (C.p false (.sl v24.length (v24.flatMap e_u8))), (C.cut 2 (1 * 1) (r16.1.length - 1) 1), (cb false)])))], some (4, 1)⟩, kf 4 (rf 4 0) [78], kf 5 (si 0) []] ⟨?_, ?_⟩
       ·refine (pA (pA (pC ?_ (pC ?_ (pA (pC ?_ (pC ?_ (pC ?_ (pA (pA AllStep.nil'))))))))))
        ·intro K rest fr hv htk k
         refine s_indexOwn (d := (D.one (C.er 2 (0 + 0 * 1)))) F.u_61 F.sz_22 rfl rfl pv24 qv24 rfl k
        ·intro K rest fr hv htk k
         refine s_load1 (c' := (C.p false (.sl v24.length (v24.flatMap e_u8)))) F.ag_22 (congrArg some hR25) rfl k
        ·intro K rest fr hv htk k
         refine s_sliceCut (l := 1) (n := r16.1.length) F.u_61 F.sz_22 rfl (.yes rfl (by omega) rfl) (by decide) (by omega) rfl k
        ·intro K rest fr hv htk k
         refine s_build (ps := [(0, (rf 0 0)), (1, (D.one (C.p false (.sl v24.length (v24.flatMap e_u8))))), (2, (D.one (C.cut 2 (1 * 1) (r16.1.length - 1) 1)))]) (cs := [(C.ref 0 0), (C.p false (.sl v24.length (v24.flatMap e_u8))), (C.cut 2 (1 * 1) (r16.1.length - 1) 1), (cb false)]) F.z_63 rfl F.so_63 rfl rfl k
        ·intro K rest fr hv htk k
         refine s_box (cs := [(C.ref 0 0), (C.p false (.sl v24.length (v24.flatMap e_u8))), (C.cut 2 (1 * 1) (r16.1.length - 1) 1), (cb false)]) rfl (List.cons_ne_nil _ _) rfl ?_
         refine AWops.weak (wD 2 (4, 1) 5 [0, 1, 2, 3, 5] [] (htk (4, 1) rfl)) k
       ·refine AWops.weak (st' := ⟨79, (upd 79 (upd 79 topF 4 (rf 2 0)) 5 (si 0)), [(some (AObj.cells false [(C.own 3 0 x9.length 3), (ci x6), (ci x7), (cb x8)])), none, (some (AObj.cells true [(C.ref 0 0), (C.p false (.sl v24.length (v24.flatMap e_u8))), (C.cut 4 (1 * 1) (r16.1.length - 1) 1), (cb false)])), (or_ e_dossierref03_File x9), (some (AObj.cells true (rowC (e_sl e_u8) r16.1)))]⟩) (wG 2 [0, 1, 4, 3, 2] []) ?_
        refine AWops.weak (Weak.cutR (t := 4) (p := 2) (j := 2) (l := 1) (xs := r16.1) (H' := [(some (AObj.cells false [(C.own 3 0 x9.length 3), (ci x6), (ci x7), (cb x8)])), none, (some (AObj.cells true [(C.ref 0 0), (C.p false (.sl v24.length (v24.flatMap e_u8))), (C.own 5 0 ((r16.1.drop 1).length) 1), (cb false)])), (or_ e_dossierref03_File x9), none, (some (AObj.cells true (rowC (e_sl e_u8) (r16.1.drop 1))))]) (e_sl_len _) rfl rfl rfl rfl rfl) (AWops.nil (AW.ret ?_))
        obtain rfl := Option.some.inj h
        exact ⟨_, rfl, (wG 2 [0, 1, 3, 2, 5] [])⟩
def dossierlaw04_pair_open_6.f (k : Nat) (p0 : dossierlaw04_pair) (a1 : List Int) (p1 : vdisk_Disk) (p2 : dossierref03_Disk) : Option (Bool × dossierlaw04_pair × vdisk_Disk × dossierref03_Disk) := (journal_Open.f k p1 a1).bind fun r1 => optE r1.1 ((dossierref04_Open_11.f k p2 a1).bind fun r4 => optE r4.1 (some ((r1.2.1 == r4.2.1), (⟨(none : Option journal_Journal), (none : Option dossierref04_Journal), (), ()⟩ : dossierlaw04_pair), r1.2.2, r4.2.2)) (fun y6 => some ((r1.2.1 == r4.2.1), (⟨(none : Option journal_Journal), (some y6), (), ()⟩ : dossierlaw04_pair), r1.2.2, r4.2.2))) (fun y3 => (dossierref04_Open_11.f k p2 a1).bind fun r7 => optE r7.1 (some ((r1.2.1 == r7.2.1), (⟨(some y3), (none : Option dossierref04_Journal), (), ()⟩ : dossierlaw04_pair), r1.2.2, r7.2.2)) (fun y9 => some ((r1.2.1 == r7.2.1), (⟨(some y3), (some y9), (), ()⟩ : dossierlaw04_pair), r1.2.2, r7.2.2)))
theorem dossierlaw04_pair_open_6.meets (k : Nat) (p0 : dossierlaw04_pair) (a1 : List Int) (p1 : vdisk_Disk) (p2 : dossierref03_Disk) (r : Bool × dossierlaw04_pair × vdisk_Disk × dossierref03_Disk) (h : dossierlaw04_pair_open_6.f k p0 a1 p1 p2 = some r) : Meets Try.prog 6 [(rf 0 0), (D.one (C.p false (.sl a1.length (a1.flatMap e_u8))))] [(some (AObj.cells false [(C.opt p0.j.isSome 4 0), (C.opt p0.x.isSome 6 0), (C.ref 1 0), (C.ref 2 0)])), (o_vdisk_Disk_03 false (C.mp 3) (C.opt p1.fuse.isSome 8 0) p1), (o_dossierref03_Disk_0 false (C.own 9 0 p2.L.length 3) p2), (om_ e_vdisk_file p1.files), (o_journal_Journal_02 false (C.ref 1 0) (C.own 5 0 (((p0.j.getD default).l).length) 1) (p0.j.getD default)), (some (AObj.cells false (rowC (e_sl e_u8) ((p0.j.getD default).l)))), (o_dossierref04_Journal_02 false (C.ref 2 0) (C.own 7 0 (((p0.x.getD default).L).length) 1) (p0.x.getD default)), (some (AObj.cells false (rowC (e_sl e_u8) ((p0.x.getD default).L)))), (some (AObj.cells false [(ci (p1.fuse.getD default))])), (or_ e_dossierref03_File p2.L)] (sb r.1) [(some (AObj.cells false [(C.opt r.2.1.j.isSome 10 0), (C.opt r.2.1.x.isSome 12 0), (C.ref 1 0), (C.ref 2 0)])), (o_vdisk_Disk_03 false (C.mp 3) (C.opt r.2.2.1.fuse.isSome 14 0) r.2.2.1), (o_dossierref03_Disk_0 false (C.own 15 0 r.2.2.2.L.length 3) r.2.2.2), (om_ e_vdisk_file r.2.2.1.files), none, none, none, none, none, none, (o_journal_Journal_02 false (C.ref 1 0) (C.own 11 0 (((r.2.1.j.getD default).l).length) 1) (r.2.1.j.getD default)), (some (AObj.cells false (rowC (e_sl e_u8) ((r.2.1.j.getD default).l)))), (o_dossierref04_Journal_02 false (C.ref 2 0) (C.own 13 0 (((r.2.1.x.getD default).L).length) 1) (r.2.1.x.getD default)), (some (AObj.cells false (rowC (e_sl e_u8) ((r.2.1.x.getD default).L)))), (some (AObj.cells false [(ci (r.2.2.1.fuse.getD default))])), (or_ e_dossierref03_File r.2.2.2.L)] := by
 unfold dossierlaw04_pair_open_6.f at h
 refine Meets.of_body (n := 38) Try.func6 rfl rfl (nl rfl) fun x hx => ?_
 replace hx : x.k = 10 := hx
 show AW _ x _ _ ⟨38, fr0 [(rf 0 0), (D.one (C.p false (.sl a1.length (a1.flatMap e_u8))))], [(some (AObj.cells false [(C.opt p0.j.isSome 4 0), (C.opt p0.x.isSome 6 0), (C.ref 1 0), (C.ref 2 0)])), (o_vdisk_Disk_03 false (C.mp 3) (C.opt p1.fuse.isSome 8 0) p1), (o_dossierref03_Disk_0 false (C.own 9 0 p2.L.length 3) p2), (om_ e_vdisk_file p1.files), (o_journal_Journal_02 false (C.ref 1 0) (C.own 5 0 (((p0.j.getD default).l).length) 1) (p0.j.getD default)), (some (AObj.cells false (rowC (e_sl e_u8) ((p0.j.getD default).l)))), (o_dossierref04_Journal_02 false (C.ref 2 0) (C.own 7 0 (((p0.x.getD default).L).length) 1) (p0.x.getD default)), (some (AObj.cells false (rowC (e_sl e_u8) ((p0.x.getD default).L)))), (some (AObj.cells false [(ci (p1.fuse.getD default))])), (or_ e_dossierref03_File p2.L)]⟩
 refine AW.weak (st' := ⟨38, (upd 38 (upd 38 topF 0 (rf 0 0)) 1 (D.one (C.p false (.sl a1.length (a1.flatMap e_u8))))), [(some (AObj.cells false [(C.opt p0.j.isSome 10 0), (C.opt p0.x.isSome 12 0), (C.ref 1 0), (C.ref 2 0)])), (o_vdisk_Disk_03 false (C.mp 3) (C.opt p1.fuse.isSome 14 0) p1), (o_dossierref03_Disk_0 false (C.own 15 0 p2.L.length 3) p2), (om_ e_vdisk_file p1.files), none, none, none, none, none, none, (o_journal_Journal_02 false (C.ref 1 0) (C.own 11 0 (((p0.j.getD default).l).length) 1) (p0.j.getD default)), (some (AObj.cells false (rowC (e_sl e_u8) ((p0.j.getD default).l)))), (o_dossierref04_Journal_02 false (C.ref 2 0) (C.own 13 0 (((p0.x.getD default).L).length) 1) (p0.x.getD default)), (some (AObj.cells false (rowC (e_sl e_u8) ((p0.x.getD default).L)))), (some (AObj.cells false [(ci (p1.fuse.getD default))])), (or_ e_dossierref03_File p2.L)]⟩) (Weak.genL (kk := 10) [0, 1, 2, 3, 4, 5, 6, 7, 8, 9, 4, 5, 6, 7, 8, 9] [] hx rfl (by decide) rfl rfl rfl rfl (le_upd (le_upd (le_top _) (o1 (.ref rfl))) (o1 .same)) (ac (.cells id (ac (.opt rfl) (ac (.opt rfl) (ac (.ref rfl) (ac (.ref rfl) an))))) (ac (.cells id (ac (.mp rfl) (ac .sc (ac .sc (ac (.opt rfl) (ac .sc an)))))) (ac (.cells id (ac (.own rfl) (ac .sc (ac .sc (ac .sc an))))) (ac .map (ac (.none _) (ac (.none _) (ac (.none _) (ac (.none _) (ac (.none _) (ac (.none _) (ac (.cells id (ac (.ref rfl) (ac .same (ac (.own rfl) (ac .sc an))))) (ac (.cells id (all2_row _)) (ac (.cells id (ac (.ref rfl) (ac .same (ac (.own rfl) (ac .sc an))))) (ac (.cells id (all2_row _)) (ac (.cells id (ac .sc an)) (ac (.cells id (all2_row _)) an))))))))))))))))) (AW.seq (AW.region ?_))
 refine s_assign (d := (sb false)) rfl (AWops.nil (AW.seq (AW.region ?_)))
 refine s_move (d := (rf 0 0)) rfl (s_nilCheck (d := (rf 0 0)) rfl (.inl ⟨_, _, rfl⟩) (s_fieldRef F.fo_36_2 (by decide) rfl (s_load1 (c' := (C.ref 1 0)) F.ag_25 rfl rfl (s_move (d := (D.one (C.p false (.sl a1.length (a1.flatMap e_u8))))) rfl ?_))))
 obtain ⟨r1, er1, h⟩ := bnd h
 rcases optH h with ⟨c2, h⟩ | ⟨y3, c2, h⟩
 ·refine cc [1, 3, 14] [(some (AObj.cells false [(C.opt p0.j.isSome 10 0), (C.opt p0.x.isSome 12 0), (C.ref 1 0), (C.ref 2 0)])), (o_vdisk_Disk_03 false (C.mp 3) (C.opt r1.2.2.fuse.isSome 16 0) r1.2.2), (o_dossierref03_Disk_0 false (C.own 15 0 p2.L.length 3) p2), (om_ e_vdisk_file r1.2.2.files), none, none, none, none, none, none, (o_journal_Journal_02 false (C.ref 1 0) (C.own 11 0 (((p0.j.getD default).l).length) 1) (p0.j.getD default)), (some (AObj.cells false (rowC (e_sl e_u8) ((p0.j.getD default).l)))), (o_dossierref04_Journal_02 false (C.ref 2 0) (C.own 13 0 (((p0.x.getD default).L).length) 1) (p0.x.getD default)), (some (AObj.cells false (rowC (e_sl e_u8) ((p0.x.getD default).L)))), none, (or_ e_dossierref03_File p2.L), (some (AObj.cells false [(ci (r1.2.2.fuse.getD default))]))] (D.tup [(sc (.pointer none)), (si r1.2.1)]) F.ca_10 rfl rfl (ac (.one (.ref rfl)) (ac (.one .imm) an)) (ac (.cells (ac (.mp rfl) (ac .sc (ac .sc (ac (.opt rfl) (ac .sc an)))))) (ac .map (ac (.cells (ac .sc an)) an))) (Meets.eqs (optE_none c2) (optE_none c2) (journal_Open.meets _ p1 a1 r1 er1)) (s_move (d := (D.tup [(sc (.pointer none)), (si r1.2.1)])) rfl (s_extract (d := (sc (.pointer none))) rfl rfl (s_extract (d := (si r1.2.1)) rfl rfl (s_assign (d := (sc (.pointer none))) rfl (s_assign (d := (si r1.2.1)) rfl (AWops.nil (AW.seq (AW.region ?_))))))))
  refine s_move (d := (rf 0 0)) rfl (s_nilCheck (d := (rf 0 0)) rfl (.inl ⟨_, _, rfl⟩) (s_fieldRef F.fo_36_3 (by decide) rfl (s_load1 (c' := (C.ref 2 0)) F.ag_29 rfl rfl (s_move (d := (D.one (C.p false (.sl a1.length (a1.flatMap e_u8))))) rfl ?_))))
  obtain ⟨r4, er4, h⟩ := bnd h
  rcases optH h with ⟨c5, h⟩ | ⟨y6, c5, h⟩
  ·refine cc [2, 15] [(some (AObj.cells false [(C.opt p0.j.isSome 10 0), (C.opt p0.x.isSome 12 0), (C.ref 1 0), (C.ref 2 0)])), (o_vdisk_Disk_03 false (C.mp 3) (C.opt r1.2.2.fuse.isSome 16 0) r1.2.2), (o_dossierref03_Disk_0 false (C.own 17 0 r4.2.2.L.length 3) r4.2.2), (om_ e_vdisk_file r1.2.2.files), none, none, none, none, none, none, (o_journal_Journal_02 false (C.ref 1 0) (C.own 11 0 (((p0.j.getD default).l).length) 1) (p0.j.getD default)), (some (AObj.cells false (rowC (e_sl e_u8) ((p0.j.getD default).l)))), (o_dossierref04_Journal_02 false (C.ref 2 0) (C.own 13 0 (((p0.x.getD default).L).length) 1) (p0.x.getD default)), (some (AObj.cells false (rowC (e_sl e_u8) ((p0.x.getD default).L)))), none, none, (some (AObj.cells false [(ci (r1.2.2.fuse.getD default))])), (or_ e_dossierref03_File r4.2.2.L)] (D.tup [(sc (.pointer none)), (si r4.2.1)]) F.ca_11 rfl rfl (ac (.one (.ref rfl)) (ac (.one .imm) an)) (ac (.cells (ac (.own rfl) (ac .sc (ac .sc (ac .sc an))))) (ac (.cells (lend_row _)) an)) (Meets.eqs (optE_none c5) (optE_none c5) (dossierref04_Open_11.meets _ p2 a1 r4 er4)) (s_move (d := (D.tup [(sc (.pointer none)), (si r4.2.1)])) rfl (s_extract (d := (sc (.pointer none))) rfl rfl (s_extract (d := (si r4.2.1)) rfl rfl (s_assign (d := (sc (.pointer none))) rfl (s_assign (d := (si r4.2.1)) rfl (AWops.nil (AW.seq (AW.region ?_))))))))
   refine s_move (d := (rf 0 0)) rfl (s_move (d := (rf 0 0)) rfl (s_move (d := (sc (.pointer none))) rfl (s_move (d := (sc (.pointer none))) rfl (s_nilCheck (d := (rf 0 0)) rfl (.inl ⟨_, _, rfl⟩) (s_fieldRef F.fo_36_0 (by decide) rfl ?_)))))
   refine s_store (cs' := [(C.p true (.v (.pointer none))), (C.opt p0.x.isSome 12 0), (C.ref 1 0), (C.ref 2 0)]) rfl rfl rfl (List.cons_ne_nil _ _) rfl F.sz_33 (nl rfl) rfl (s_nilCheck (d := (rf 0 0)) rfl (.inl ⟨_, _, rfl⟩) (s_fieldRef F.fo_36_1 (by decide) rfl (s_store (cs' := [(C.p true (.v (.pointer none))), (C.p true (.v (.pointer none))), (C.ref 1 0), (C.ref 2 0)]) rfl rfl rfl (List.cons_ne_nil _ _) rfl F.sz_34 (nl rfl) rfl (AWops.nil (AW.seq (AW.region (s_move (d := (si r1.2.1)) rfl (s_move (d := (si r4.2.1)) rfl ?_))))))))
   refine s_binI (v := (.bool (r1.2.1 == r4.2.1))) rfl rfl rfl (s_assign (d := (sb (r1.2.1 == r4.2.1))) rfl (AWops.nil (AW.ret ?_)))
   obtain rfl := Option.some.inj h
   exact ⟨_, rfl, (Weak.trans (Weak.virt true [(C.ref 1 0), (C.p false (.sl ((default : journal_Journal).snap).length (((default : journal_Journal).snap).flatMap e_u8))), (C.own 19 0 (((default : journal_Journal).l).length) 1), (cb ((default : journal_Journal).stopped))]) (Weak.trans (Weak.virt true (rowC (e_sl e_u8) ((default : journal_Journal).l))) (Weak.trans (Weak.virt true [(C.ref 2 0), (C.p false (.sl ((default : dossierref04_Journal).Snap).length (((default : dossierref04_Journal).Snap).flatMap e_u8))), (C.own 21 0 (((default : dossierref04_Journal).L).length) 1), (cb ((default : dossierref04_Journal).Stop))]) (Weak.trans (Weak.virt true (rowC (e_sl e_u8) ((default : dossierref04_Journal).L))) (wG 10 [0, 1, 2, 3, 4, 5, 6, 7, 8, 9, 18, 19, 20, 21, 16, 17] [])))))⟩
  ·refine cc [2, 15] [(some (AObj.cells false [(C.opt p0.j.isSome 10 0), (C.opt p0.x.isSome 12 0), (C.ref 1 0), (C.ref 2 0)])), (o_vdisk_Disk_03 false (C.mp 3) (C.opt r1.2.2.fuse.isSome 16 0) r1.2.2), (o_dossierref03_Disk_0 false (C.own 17 0 r4.2.2.L.length 3) r4.2.2), (om_ e_vdisk_file r1.2.2.files), none, none, none, none, none, none, (o_journal_Journal_02 false (C.ref 1 0) (C.own 11 0 (((p0.j.getD default).l).length) 1) (p0.j.getD default)), (some (AObj.cells false (rowC (e_sl e_u8) ((p0.j.getD default).l)))), (o_dossierref04_Journal_02 false (C.ref 2 0) (C.own 13 0 (((p0.x.getD default).L).length) 1) (p0.x.getD default)), (some (AObj.cells false (rowC (e_sl e_u8) ((p0.x.getD default).L)))), none, none, (some (AObj.cells false [(ci (r1.2.2.fuse.getD default))])), (or_ e_dossierref03_File r4.2.2.L), (o_dossierref04_Journal_02 true (C.ref 2 0) (C.own 19 0 y6.L.length 1) y6), (some (AObj.cells false (rowC (e_sl e_u8) y6.L)))] (D.tup [(rf 18 0), (si r4.2.1)]) F.ca_11 rfl rfl (ac (.one (.ref rfl)) (ac (.one .imm) an)) (ac (.cells (ac (.own rfl) (ac .sc (ac .sc (ac .sc an))))) (ac (.cells (lend_row _)) an)) (Meets.eqs (optE_some c5) (optE_some c5) (dossierref04_Open_11.meets _ p2 a1 r4 er4)) (s_move (d := (D.tup [(rf 18 0), (si r4.2.1)])) rfl (s_extract (d := (rf 18 0)) rfl rfl (s_extract (d := (si r4.2.1)) rfl rfl (s_assign (d := (rf 18 0)) rfl (s_assign (d := (si r4.2.1)) rfl (AWops.nil (AW.seq (AW.region ?_))))))))
   refine s_move (d := (rf 0 0)) rfl (s_move (d := (rf 0 0)) rfl (s_move (d := (sc (.pointer none))) rfl (s_move (d := (rf 18 0)) rfl (s_nilCheck (d := (rf 0 0)) rfl (.inl ⟨_, _, rfl⟩) (s_fieldRef F.fo_36_0 (by decide) rfl ?_)))))
   refine s_store (cs' := [(C.p true (.v (.pointer none))), (C.opt p0.x.isSome 12 0), (C.ref 1 0), (C.ref 2 0)]) rfl rfl rfl (List.cons_ne_nil _ _) rfl F.sz_33 (nl rfl) rfl (s_nilCheck (d := (rf 0 0)) rfl (.inl ⟨_, _, rfl⟩) (s_fieldRef F.fo_36_1 (by decide) rfl (s_store (cs' := [(C.p true (.v (.pointer none))), (C.ref 18 0), (C.ref 1 0), (C.ref 2 0)]) rfl rfl rfl (List.cons_ne_nil _ _) rfl F.sz_34 (nl rfl) rfl (AWops.nil (AW.seq (AW.region (s_move (d := (si r1.2.1)) rfl (s_move (d := (si r4.2.1)) rfl ?_))))))))
   refine s_binI (v := (.bool (r1.2.1 == r4.2.1))) rfl rfl rfl (s_assign (d := (sb (r1.2.1 == r4.2.1))) rfl (AWops.nil (AW.ret ?_)))
   obtain rfl := Option.some.inj h
   exact ⟨_, rfl, (Weak.trans (Weak.virt true [(C.ref 1 0), (C.p false (.sl ((default : journal_Journal).snap).length (((default : journal_Journal).snap).flatMap e_u8))), (C.own 21 0 (((default : journal_Journal).l).length) 1), (cb ((default : journal_Journal).stopped))]) (Weak.trans (Weak.virt true (rowC (e_sl e_u8) ((default : journal_Journal).l))) (wG 10 [0, 1, 2, 3, 4, 5, 6, 7, 8, 9, 20, 21, 18, 19, 16, 17] [])))⟩
 ·refine cc [1, 3, 14] [(some (AObj.cells false [(C.opt p0.j.isSome 10 0), (C.opt p0.x.isSome 12 0), (C.ref 1 0), (C.ref 2 0)])), (o_vdisk_Disk_03 false (C.mp 3) (C.opt r1.2.2.fuse.isSome 16 0) r1.2.2), (o_dossierref03_Disk_0 false (C.own 15 0 p2.L.length 3) p2), (om_ e_vdisk_file r1.2.2.files), none, none, none, none, none, none, (o_journal_Journal_02 false (C.ref 1 0) (C.own 11 0 (((p0.j.getD default).l).length) 1) (p0.j.getD default)), (some (AObj.cells false (rowC (e_sl e_u8) ((p0.j.getD default).l)))), (o_dossierref04_Journal_02 false (C.ref 2 0) (C.own 13 0 (((p0.x.getD default).L).length) 1) (p0.x.getD default)), (some (AObj.cells false (rowC (e_sl e_u8) ((p0.x.getD default).L)))), none, (or_ e_dossierref03_File p2.L), (some (AObj.cells false [(ci (r1.2.2.fuse.getD default))])), (o_journal_Journal_02 true (C.ref 1 0) (C.own 18 0 y3.l.length 1) y3), (some (AObj.cells false (rowC (e_sl e_u8) y3.l)))] (D.tup [(rf 17 0), (si r1.2.1)]) F.ca_10 rfl rfl (ac (.one (.ref rfl)) (ac (.one .imm) an)) (ac (.cells (ac (.mp rfl) (ac .sc (ac .sc (ac (.opt rfl) (ac .sc an)))))) (ac .map (ac (.cells (ac .sc an)) an))) (Meets.eqs (optE_some c2) (optE_some c2) (journal_Open.meets _ p1 a1 r1 er1)) (s_move (d := (D.tup [(rf 17 0), (si r1.2.1)])) rfl (s_extract (d := (rf 17 0)) rfl rfl (s_extract (d := (si r1.2.1)) rfl rfl (s_assign (d := (rf 17 0)) rfl (s_assign (d := (si r1.2.1)) rfl (AWops.nil (AW.seq (AW.region ?_))))))))
  refine s_move (d := (rf 0 0)) rfl (s_nilCheck (d := (rf 0 0)) rfl (.inl ⟨_, _, rfl⟩) (s_fieldRef F.fo_36_3 (by decide) rfl (s_load1 (c' := (C.ref 2 0)) F.ag_29 rfl rfl (s_move (d := (D.one (C.p false (.sl a1.length (a1.flatMap e_u8))))) rfl ?_))))
  obtain ⟨r7, er7, h⟩ := bnd h
  rcases optH h with ⟨c8, h⟩ | ⟨y9, c8, h⟩
  ·refine cc [2, 15] [(some (AObj.cells false [(C.opt p0.j.isSome 10 0), (C.opt p0.x.isSome 12 0), (C.ref 1 0), (C.ref 2 0)])), (o_vdisk_Disk_03 false (C.mp 3) (C.opt r1.2.2.fuse.isSome 16 0) r1.2.2), (o_dossierref03_Disk_0 false (C.own 19 0 r7.2.2.L.length 3) r7.2.2), (om_ e_vdisk_file r1.2.2.files), none, none, none, none, none, none, (o_journal_Journal_02 false (C.ref 1 0) (C.own 11 0 (((p0.j.getD default).l).length) 1) (p0.j.getD default)), (some (AObj.cells false (rowC (e_sl e_u8) ((p0.j.getD default).l)))), (o_dossierref04_Journal_02 false (C.ref 2 0) (C.own 13 0 (((p0.x.getD default).L).length) 1) (p0.x.getD default)), (some (AObj.cells false (rowC (e_sl e_u8) ((p0.x.getD default).L)))), none, none, (some (AObj.cells false [(ci (r1.2.2.fuse.getD default))])), (o_journal_Journal_02 true (C.ref 1 0) (C.own 18 0 y3.l.length 1) y3), (some (AObj.cells false (rowC (e_sl e_u8) y3.l))), (or_ e_dossierref03_File r7.2.2.L)] (D.tup [(sc (.pointer none)), (si r7.2.1)]) F.ca_11 rfl rfl (ac (.one (.ref rfl)) (ac (.one .imm) an)) (ac (.cells (ac (.own rfl) (ac .sc (ac .sc (ac .sc an))))) (ac (.cells (lend_row _)) an)) (Meets.eqs (optE_none c8) (optE_none c8) (dossierref04_Open_11.meets _ p2 a1 r7 er7)) (s_move (d := (D.tup [(sc (.pointer none)), (si r7.2.1)])) rfl (s_extract (d := (sc (.pointer none))) rfl rfl (s_extract (d := (si r7.2.1)) rfl rfl (s_assign (d := (sc (.pointer none))) rfl (s_assign (d := (si r7.2.1)) rfl (AWops.nil (AW.seq (AW.region ?_))))))))
   refine s_move (d := (rf 0 0)) rfl (s_move (d := (rf 0 0)) rfl (s_move (d := (rf 17 0)) rfl (s_move (d := (sc (.pointer none))) rfl (s_nilCheck (d := (rf 0 0)) rfl (.inl ⟨_, _, rfl⟩) (s_fieldRef F.fo_36_0 (by decide) rfl ?_)))))
   refine s_store (cs' := [(C.ref 17 0), (C.opt p0.x.isSome 12 0), (C.ref 1 0), (C.ref 2 0)]) rfl rfl rfl (List.cons_ne_nil _ _) rfl F.sz_33 (nl rfl) rfl (s_nilCheck (d := (rf 0 0)) rfl (.inl ⟨_, _, rfl⟩) (s_fieldRef F.fo_36_1 (by decide) rfl (s_store (cs' := [(C.ref 17 0), (C.p true (.v (.pointer none))), (C.ref 1 0), (C.ref 2 0)]) rfl rfl rfl (List.cons_ne_nil _ _) rfl F.sz_34 (nl rfl) rfl (AWops.nil (AW.seq (AW.region (s_move (d := (si r1.2.1)) rfl (s_move (d := (si r7.2.1)) rfl ?_))))))))
   refine s_binI (v := (.bool (r1.2.1 == r7.2.1))) rfl rfl rfl (s_assign (d := (sb (r1.2.1 == r7.2.1))) rfl (AWops.nil (AW.ret ?_)))
   obtain rfl := Option.some.inj h
   exact ⟨_, rfl, (Weak.trans (Weak.virt true [(C.ref 2 0), (C.p false (.sl ((default : dossierref04_Journal).Snap).length (((default : dossierref04_Journal).Snap).flatMap e_u8))), (C.own 21 0 (((default : dossierref04_Journal).L).length) 1), (cb ((default : dossierref04_Journal).Stop))]) (Weak.trans (Weak.virt true (rowC (e_sl e_u8) ((default : dossierref04_Journal).L))) (wG 10 [0, 1, 2, 3, 4, 5, 6, 7, 8, 9, 17, 18, 20, 21, 16, 19] [])))⟩
  ·refine cc [2, 15] [(some (AObj.cells false [(C.opt p0.j.isSome 10 0), (C.opt p0.x.isSome 12 0), (C.ref 1 0), (C.ref 2 0)])), (o_vdisk_Disk_03 false (C.mp 3) (C.opt r1.2.2.fuse.isSome 16 0) r1.2.2), (o_dossierref03_Disk_0 false (C.own 19 0 r7.2.2.L.length 3) r7.2.2), (om_ e_vdisk_file r1.2.2.files), none, none, none, none, none, none, (o_journal_Journal_02 false (C.ref 1 0) (C.own 11 0 (((p0.j.getD default).l).length) 1) (p0.j.getD default)), (some (AObj.cells false (rowC (e_sl e_u8) ((p0.j.getD default).l)))), (o_dossierref04_Journal_02 false (C.ref 2 0) (C.own 13 0 (((p0.x.getD default).L).length) 1) (p0.x.getD default)), (some (AObj.cells false (rowC (e_sl e_u8) ((p0.x.getD default).L)))), none, none, (some (AObj.cells false [(ci (r1.2.2.fuse.getD default))])), (o_journal_Journal_02 true (C.ref 1 0) (C.own 18 0 y3.l.length 1) y3), (some (AObj.cells false (rowC (e_sl e_u8) y3.l))), (or_ e_dossierref03_File r7.2.2.L), (o_dossierref04_Journal_02 true (C.ref 2 0) (C.own 21 0 y9.L.length 1) y9), (some (AObj.cells false (rowC (e_sl e_u8) y9.L)))] (D.tup [(rf 20 0), (si r7.2.1)]) F.ca_11 rfl rfl (ac (.one (.ref rfl)) (ac (.one .imm) an)) (ac (.cells (ac (.own rfl) (ac .sc (ac .sc (ac .sc an))))) (ac (.cells (lend_row _)) an)) (Meets.eqs (optE_some c8) (optE_some c8) (dossierref04_Open_11.meets _ p2 a1 r7 er7)) (s_move (d := (D.tup [(rf 20 0), (si r7.2.1)])) rfl (s_extract (d := (rf 20 0)) rfl rfl (s_extract (d := (si r7.2.1)) rfl rfl (s_assign (d := (rf 20 0)) rfl (s_assign (d := (si r7.2.1)) rfl (AWops.nil (AW.seq (AW.region ?_))))))))
   refine s_move (d := (rf 0 0)) rfl (s_move (d := (rf 0 0)) rfl (s_move (d := (rf 17 0)) rfl (s_move (d := (rf 20 0)) rfl (s_nilCheck (d := (rf 0 0)) rfl (.inl ⟨_, _, rfl⟩) (s_fieldRef F.fo_36_0 (by decide) rfl ?_)))))
   refine s_store (cs' := [(C.ref 17 0), (C.opt p0.x.isSome 12 0), (C.ref 1 0), (C.ref 2 0)]) rfl rfl rfl (List.cons_ne_nil _ _) rfl F.sz_33 (nl rfl) rfl (s_nilCheck (d := (rf 0 0)) rfl (.inl ⟨_, _, rfl⟩) (s_fieldRef F.fo_36_1 (by decide) rfl (s_store (cs' := [(C.ref 17 0), (C.ref 20 0), (C.ref 1 0), (C.ref 2 0)]) rfl rfl rfl (List.cons_ne_nil _ _) rfl F.sz_34 (nl rfl) rfl (AWops.nil (AW.seq (AW.region (s_move (d := (si r1.2.1)) rfl (s_move (d := (si r7.2.1)) rfl ?_))))))))
   refine s_binI (v := (.bool (r1.2.1 == r7.2.1))) rfl rfl rfl (s_assign (d := (sb (r1.2.1 == r7.2.1))) rfl (AWops.nil (AW.ret ?_)))
   obtain rfl := Option.some.inj h
   exact ⟨_, rfl, (wG 10 [0, 1, 2, 3, 4, 5, 6, 7, 8, 9, 17, 18, 20, 21, 16, 19] [])⟩
def bytes_Clone.f (k : Nat) (a0 : List Int) : Option (List Int) := if (decide (([] : List Int).length + a0.length ≤ 140737488355328)) = true then (some a0) else none
theorem bytes_Clone.meets (k : Nat) (a0 : List Int) (r : (List Int)) (h : bytes_Clone.f k a0 = some r) : Meets Try.prog 33 [(D.one (C.p false (.sl a0.length (a0.flatMap e_u8))))] [] (D.one (C.own 0 0 r.length 1)) [(ow_ e_u8 r)] := by
 unfold bytes_Clone.f at h
 refine Meets.of_body (n := 8) Try.func33 rfl rfl (nl rfl) fun x hx => ?_
 replace hx : x.k = 0 := hx
 show AW _ x _ _ ⟨8, fr0 [(D.one (C.p false (.sl a0.length (a0.flatMap e_u8))))], []⟩
 refine AW.seq (AW.region ?_)
 refine s_assign (d := (sc (.slice none 0 0))) rfl (AWops.nil (AW.seq (AW.seq (AW.region ?_))))
 refine s_move (d := (D.one (C.p false (.sl a0.length (a0.flatMap e_u8))))) rfl (s_eqNil (n := _) F.u_22 rfl (fun _ _ h => by cases h) rfl (.inl rfl) (fun b w => ?_))
 cases b with
 | false =>
  refine AWops.nil ?_
  refine AW.cond_no rfl rfl (AW.skip (AW.seq (AW.region ?_)))
  refine s_buildSlice (n := 0) (ps := []) (cs := rowC e_u8 ([] : List Int)) F.u_22 F.sz_5 F.z_5 rfl rfl (by decide) (by decide) rfl rfl (s_move (d := (D.one (C.p false (.sl a0.length (a0.flatMap e_u8))))) rfl ?_)
  obtain ⟨c1, h⟩ := gdH h
  have dc1 := of_decide_eq_true c1
  refine t_append (xs := ([] : List Int)) (ys := a0) (zs := a0) (H' := [none, (ow_ e_u8 a0)]) F.u_22 F.in_5 rfl e_u8_len (.own rfl rfl) .imm F.u_22 (by omega) (by omega) rfl rfl (s_assign (d := (D.one (C.own 1 0 a0.length 1))) rfl (AWops.nil (AW.ret ?_)))
  obtain rfl := Option.some.inj h
  exact ⟨_, rfl, (wG 0 [1] [])⟩
 | true =>
  obtain rfl : a0 = [] := by cases a0 with | nil => rfl | cons _ _ => exact absurd (w (by simp)) (by decide)
  replace h : (some ([] : List Int)) = some r := by simpa [bytesI] using h
  skip
  refine AWops.nil ?_
  refine AW.cond_yes rfl rfl (AW.seq (AW.region ?_))
  refine s_assign (d := (sc (.slice none 0 0))) rfl (AWops.nil (AW.ret ?_))
  obtain rfl := Option.some.inj h
  exact ⟨_, rfl, (Weak.trans (Weak.nil (sz := 1) (i := 0) rfl) (wG 0 [0] []))⟩
mutual
def dossierplain_Spoil.l0 : Nat → (List Int) → Int → (List Int) → Option (List Int)
 | 0, _, _, _ => none
 | k + 1, x1, x2, p1 => if (decide (x2 < (p1.length : Int))) = true then ((rd x1 x2).bind fun v4 => (rd x1 x2).bind fun v6 => dossierplain_Spoil.l0 k (x1.set x2.toNat (Go.bits .xor .u8 v4 255)) (IntKind.i64.wrap (x2 + 1)) p1) else (some x1)
end
def dossierplain_Spoil.f (k : Nat) (p0 : Unit) (p1 : List Int) : Option (List Int) := dossierplain_Spoil.l0 k p1 0 p1
theorem dossierplain_Spoil.meets (k : Nat) (p0 : Unit) (p1 : List Int) (r : (List Int)) (h : dossierplain_Spoil.f k p0 p1 = some r) : Meets Try.prog 35 [(D.one (C.own 0 0 1 1))] [(some (AObj.cells false [(C.own 1 0 p1.length 1)])), (or_ e_u8 p1)] (D.tup []) [(some (AObj.cells false [(C.own 1 0 r.length 1)])), (or_ e_u8 r)] := by
 unfold dossierplain_Spoil.f at h
 refine Meets.of_body (n := 24) Try.func35 rfl rfl (nl rfl) fun x hx => ?_
 replace hx : x.k = 2 := hx
 show AW _ x _ _ ⟨24, fr0 [(D.one (C.own 0 0 1 1))], [(some (AObj.cells false [(C.own 1 0 p1.length 1)])), (or_ e_u8 p1)]⟩
 refine AW.seq (AW.region ?_)
 refine s_move (d := (D.one (C.own 0 0 1 1))) rfl (s_len (n := 1) F.u_61 rfl (.inr ⟨(fun _ _ h => by cases h), ⟨_, rfl⟩⟩) (s_move (d := (si 0)) rfl (AWops.nil (AW.block ?_))))
 refine AW.unroll 9 ?_
 refine U.step (AW.seq (AW.region ?_))
 refine s_binI (v := (.bool true)) rfl rfl rfl (AWops.nil (AW.seq ?_))
 refine AW.cond_yes rfl rfl (AW.skip (AW.seq (AW.block (AW.seq (AW.region ?_)))))
 refine s_indexOwn (d := (D.one (C.er 0 0))) F.u_61 F.sz_22 rfl rfl (by decide) (by decide) rfl (s_load1 (c' := (C.own 1 0 p1.length 1)) F.ag_22 rfl rfl (s_assign (d := (D.one (C.own 1 0 p1.length 1))) rfl (AWops.nil (AW.seq (AW.region (s_move (d := (D.one (C.own 1 0 p1.length 1))) rfl (s_len (n := p1.length) F.u_22 rfl (.inr ⟨(fun _ _ h => by cases h), ⟨_, rfl⟩⟩) (s_move (d := (si 0)) rfl (AWops.nil (AW.block ?_))))))))))
 refine AW.loopw (st0 := ⟨24, (upd 24 (upd 24 (upd 24 (upd 24 (upd 24 (upd 24 topF 3 (D.one (C.own 1 0 p1.length 1))) 5 (D.one (C.own 0 0 1 1))) 6 (si 1)) 7 (si 0)) 12 (si (p1.length : Int))) 13 (si 0)), [(some (AObj.cells false [(C.own 1 0 p1.length 1)])), (or_ e_u8 p1)]⟩) (fun kv st => kv ≤ k ∧ ∃ (x1 : List Int) (x2 : Int), dossierplain_Spoil.l0 kv x1 x2 p1 = some r ∧ st = ⟨24, (upd 24 (upd 24 (upd 24 (upd 24 (upd 24 (upd 24 topF 3 (D.one (C.own 1 0 x1.length 1))) 5 (D.one (C.own 0 0 1 1))) 6 (si 1)) 7 (si 0)) 12 (si (p1.length : Int))) 13 (si x2)), [(some (AObj.cells false [(C.own 1 0 x1.length 1)])), (or_ e_u8 x1)]⟩) (k := k) (wG 2 [0, 1] []) ⟨Nat.le_refl _, p1, 0, h, rfl⟩ ?_
 rintro ql0 st ⟨hkl0, x1, x2, h, rfl⟩
 cases ql0 with
 | zero => exact absurd h (by simp [dossierplain_Spoil.l0])
 | succ ql0 =>
  replace h := (dossierplain_Spoil.l0.eq_2 _ _ _ _).symm.trans h
  refine AW.seq (AW.region ?_)
  refine s_binI (v := (.bool (decide (x2 < (p1.length : Int))))) rfl rfl rfl (AWops.nil (AW.seq ?_))
  rcases itH h with ⟨c3, h⟩ | ⟨c3, h⟩
  ·refine AW.cond_yes rfl c3 (AW.skip (AW.seq (AW.block (AW.seq (AW.region ?_)))))
   refine s_move (d := (si x2)) rfl (s_assign (d := (si x2)) rfl (AWops.nil (AW.region (s_move (d := (D.one (C.own 1 0 x1.length 1))) rfl (s_move (d := (si x2)) rfl ?_)))))
   obtain ⟨v4, ev4, h⟩ := bnd h
   obtain ⟨pv4, qv4, gv4⟩ := rd_some ev4
   refine s_indexOwn (d := (D.one (C.er 1 (0 + x2.toNat * 1)))) F.u_22 F.sz_5 rfl rfl pv4 qv4 rfl ?_
   obtain ⟨R5, hR5⟩ := row_at (f := e_u8) (sz := 1) (o := 0) e_u8_len gv4 (e_u8_eq v4) (by decide)
   refine s_load1 (c' := (C.p true (.v (.int .u8 v4)))) F.ag_5 (congrArg some hR5) rfl (s_binI (v := (.int .u8 (Go.bits .xor .u8 v4 255))) rfl rfl rfl ?_)
   obtain ⟨v6, ev6, h⟩ := bnd h
   obtain ⟨pv6, qv6, gv6⟩ := rd_some ev6
   refine s_indexOwn (d := (D.one (C.er 1 (0 + x2.toNat * 1)))) F.u_22 F.sz_5 rfl rfl pv6 qv6 rfl ?_
   refine s_storeE (cs' := rowC e_u8 (x1.set x2.toNat (Go.bits .xor .u8 v4 255))) rfl rfl rfl (List.cons_ne_nil _ _) rfl F.sz_5 (by rw [row_len e_u8_len]; have := (List.getElem?_eq_some_iff.mp gv6).1; show _ + 1 ≤ _; omega) (row_set (f := e_u8) (sz := 1) (o := 0) (ds := [P.v (.int .u8 (Go.bits .xor .u8 v4 255))]) e_u8_len gv6 rfl (nl rfl) rfl) ?_
   refine AWops.nil (AW.region ?_)
   refine s_binI (v := (.int .i64 (IntKind.i64.wrap (x2 + 1)))) rfl rfl rfl (s_move (d := (si (IntKind.i64.wrap (x2 + 1)))) rfl (AWops.nil ?_))
   exact ⟨_, ⟨24, (upd 24 (upd 24 (upd 24 (upd 24 (upd 24 (upd 24 topF 3 (D.one (C.own 1 0 (x1.set x2.toNat (Go.bits .xor .u8 v4 255)).length 1))) 5 (D.one (C.own 0 0 1 1))) 6 (si 1)) 7 (si 0)) 12 (si (p1.length : Int))) 13 (si (IntKind.i64.wrap (x2 + 1)))), [(some (AObj.cells false [(C.own 1 0 (x1.set x2.toNat (Go.bits .xor .u8 v4 255)).length 1)])), (some (AObj.cells false (rowC e_u8 (x1.set x2.toNat (Go.bits .xor .u8 v4 255)))))]⟩, by omega, (wG 2 [0, 1] []), by omega, x1.set x2.toNat (Go.bits .xor .u8 v4 255), IntKind.i64.wrap (x2 + 1), h, rfl⟩
  ·refine AW.cond_no rfl c3 (AW.exit (AW.region ?_))
   refine s_binI (v := (.int .i64 1)) rfl rfl (by rfl) (s_move (d := (si 1)) rfl (AWops.nil ?_))
   refine U.step (AW.seq (AW.region ?_))
   refine s_binI (v := (.bool false)) rfl rfl rfl (AWops.nil (AW.seq ?_))
   refine AW.cond_no rfl rfl (AW.exit ?_)
   obtain rfl := Option.some.inj h
   exact ⟨_, rfl, (wG 2 [0, 1] [])⟩
end Go.Abs.GenZ
