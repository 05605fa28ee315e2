import Derived.Test.YtdpakmmkponfmaaGenZc
set_option linter.unusedVariables false
set_option linter.unusedSimpArgs false
set_option maxRecDepth 100000
set_option maxHeartbeats 4000000
namespace Go.Abs.GenZ
open Go.Abs Go.Proofs
def vdisk_Disk_Fuse.f (k : Nat) (p0 : vdisk_Disk) (a1 : Int) : Option (Int × vdisk_Disk) := (vdisk_Disk_none.f k p0).bind fun r1 => if (decide (a1 < 0)) = true then (some (1, p0)) else (some (0, (⟨p0.files, p0.room, p0.used, (some a1), p0.dead⟩ : vdisk_Disk)))
theorem vdisk_Disk_Fuse.meets (k : Nat) (p0 : vdisk_Disk) (a1 : Int) (r : Int × vdisk_Disk) (h : vdisk_Disk_Fuse.f k p0 a1 = some r) : Meets Try.prog 42 [(rf 0 0), (si a1)] [(o_vdisk_Disk_03 false (C.mp 1) (C.opt p0.fuse.isSome 2 0) p0), (om_ e_vdisk_file p0.files), (some (AObj.cells false [(ci (p0.fuse.getD default))]))] (si r.1) [(o_vdisk_Disk_03 false (C.mp 1) (C.opt r.2.fuse.isSome 3 0) r.2), (om_ e_vdisk_file r.2.files), none, (some (AObj.cells false [(ci (r.2.fuse.getD default))]))] := by
 unfold vdisk_Disk_Fuse.f at h
 refine Meets.of_body (n := 14) Try.func42 rfl rfl (nl rfl) fun x hx => ?_
 replace hx : x.k = 3 := hx
 show AW _ x _ _ ⟨14, fr0 [(rf 0 0), (si a1)], [(o_vdisk_Disk_03 false (C.mp 1) (C.opt p0.fuse.isSome 2 0) p0), (om_ e_vdisk_file p0.files), (some (AObj.cells false [(ci (p0.fuse.getD default))]))]⟩
 refine AW.weak (st' := ⟨14, (upd 14 (upd 14 topF 0 (rf 0 0)) 1 (si a1)), [(o_vdisk_Disk_03 false (C.mp 1) (C.opt p0.fuse.isSome 3 0) p0), (om_ e_vdisk_file p0.files), none, (some (AObj.cells false [(ci (p0.fuse.getD default))]))]⟩) (Weak.genL (kk := 3) [0, 1, 2, 2] [] hx rfl (by decide) rfl rfl rfl rfl (le_upd (le_upd (le_top _) (o1 (.ref rfl))) (o1 .sc)) (ac (.cells id (ac (.mp rfl) (ac .sc (ac .sc (ac (.opt rfl) (ac .sc an)))))) (ac .map (ac (.none _) (ac (.cells id (ac .sc an)) an))))) (AW.seq (AW.region ?_))
 refine s_box (cs := [(ci a1)]) rfl (List.cons_ne_nil _ _) rfl (s_assign (d := (si 0)) rfl (AWops.nil (AW.seq (AW.block (AW.seq (AW.region (s_move (d := (rf 0 0)) rfl ?_)))))))
 obtain ⟨r1, er1, h⟩ := bnd h
 have kr1 := vdisk_Disk_none.const er1
 subst kr1
 refine cc [0, 1, 3] [(o_vdisk_Disk_03 false (C.mp 1) (C.opt p0.fuse.isSome 5 0) p0), (om_ e_vdisk_file p0.files), none, none, (some (AObj.cells true [(ci a1)])), (some (AObj.cells false [(ci (p0.fuse.getD default))]))] (sb false) F.ca_61 rfl rfl (ac (.one (.ref rfl)) an) (ac (.cells (ac (.mp rfl) (ac .sc (ac .sc (ac (.opt rfl) (ac .sc an)))))) (ac .map (ac (.cells (ac .sc an)) an))) (vdisk_Disk_none.meets _ p0 false er1) (s_assign (d := (sb false)) rfl (AWops.nil ?_))
 refine AW.cond_no rfl rfl (AW.seq (AW.region ?_))
 refine s_load1 (c' := (ci a1)) F.ag_3 rfl rfl (s_binI (v := (.bool (decide (a1 < 0)))) rfl rfl rfl (s_assign (d := (sb (decide (a1 < 0)))) rfl (AWops.nil ?_)))
 rcases itH h with ⟨c2, h⟩ | ⟨c2, h⟩
 ·refine AW.cond_yes rfl c2 (AW.seq (AW.region ?_))
  refine s_assign (d := (si 1)) rfl (AWops.nil (AW.ret ?_))
  obtain rfl := Option.some.inj h
  exact ⟨_, rfl, (wG 3 [0, 1, 2, 5] [])⟩
 ·refine AW.cond_no rfl c2 (AW.skip (AW.seq (AW.region ?_)))
  refine s_move (d := (rf 0 0)) rfl (s_nilCheck (d := (rf 0 0)) rfl (.inl ⟨_, _, rfl⟩) (s_fieldRef F.fo_49_3 (by decide) rfl (s_store (cs' := [(C.mp 1), (ci p0.room), (ci p0.used), (C.ref 4 0), (cb p0.dead)]) rfl rfl rfl (List.cons_ne_nil _ _) rfl F.sz_47 (nl rfl) rfl (AWops.nil (AW.seq (AW.region (s_assign (d := (si 0)) rfl (AWops.nil (AW.ret ?_)))))))))
  obtain rfl := Option.some.inj h
  exact ⟨_, rfl, (wG 3 [0, 1, 2, 4] [])⟩
def dossierref03_Disk_Fuse.f (k : Nat) (p0 : dossierref03_Disk) (a1 : Int) : Option (Int × dossierref03_Disk) := if (decide (a1 < 0)) = true then (some (1, p0)) else (some (0, (⟨p0.L, p0.Most, a1, p0.Off⟩ : dossierref03_Disk)))
theorem dossierref03_Disk_Fuse.meets (k : Nat) (p0 : dossierref03_Disk) (a1 : Int) (r : Int × dossierref03_Disk) (h : dossierref03_Disk_Fuse.f k p0 a1 = some r) : Meets Try.prog 43 [(rf 0 0), (si a1)] [(o_dossierref03_Disk_0 false (C.own 1 0 p0.L.length 3) p0), (or_ e_dossierref03_File p0.L)] (si r.1) [(o_dossierref03_Disk_0 false (C.own 1 0 r.2.L.length 3) r.2), (or_ e_dossierref03_File r.2.L)] := by
 unfold dossierref03_Disk_Fuse.f at h
 refine Meets.of_body (n := 11) Try.func43 rfl rfl (nl rfl) fun x hx => ?_
 replace hx : x.k = 2 := hx
 show AW _ x _ _ ⟨11, fr0 [(rf 0 0), (si a1)], [(o_dossierref03_Disk_0 false (C.own 1 0 p0.L.length 3) p0), (or_ e_dossierref03_File p0.L)]⟩
 refine AW.seq (AW.region ?_)
 refine s_assign (d := (si 0)) rfl (AWops.nil (AW.seq (AW.seq (AW.region ?_))))
 refine s_move (d := (si a1)) rfl (s_binI (v := (.bool (decide (a1 < 0)))) rfl rfl rfl (AWops.nil ?_))
 rcases itH h with ⟨c1, h⟩ | ⟨c1, h⟩
 ·refine AW.cond_yes rfl c1 (AW.seq (AW.region ?_))
  refine s_assign (d := (si 1)) rfl (AWops.nil (AW.ret ?_))
  obtain rfl := Option.some.inj h
  exact ⟨_, rfl, (wG 2 [0, 1] [])⟩
 ·refine AW.cond_no rfl c1 (AW.skip (AW.seq (AW.region ?_)))
  refine s_move (d := (rf 0 0)) rfl (s_move (d := (si a1)) rfl (s_nilCheck (d := (rf 0 0)) rfl (.inl ⟨_, _, rfl⟩) (s_fieldRef F.fo_52_2 (by decide) rfl (s_store (cs' := [(C.own 1 0 p0.L.length 3), (ci p0.Most), (ci a1), (cb p0.Off)]) rfl rfl rfl (List.cons_ne_nil _ _) rfl F.sz_3 (nl rfl) rfl (AWops.nil (AW.seq (AW.region (s_assign (d := (si 0)) rfl (AWops.nil (AW.ret ?_))))))))))
  obtain rfl := Option.some.inj h
  exact ⟨_, rfl, (wG 2 [0, 1] [])⟩
mutual
def dossierref03_Disk_Crash_44.j1 : Nat → Int → dossierref03_Disk → (List Int) → (List dossierref03_File) → Int → dossierref03_File → Option dossierref03_Disk
 | 0, _, _, _, _, _, _ => none
 | k + 1, x8, p0, a1, x1, x2, v4 => if (decide (0 ≤ 0 ∧ 0 ≤ (IntKind.i64.wrap (v4.Sure + x8)) ∧ (IntKind.i64.wrap (v4.Sure + x8)) ≤ (v4.B.length : Int))) = true then (if (decide (([] : List Int).length + (sub v4.B 0 (IntKind.i64.wrap (v4.Sure + x8))).length ≤ 140737488355328)) = true then (if (decide (x1.length + ([(⟨v4.Name, sub v4.B 0 (IntKind.i64.wrap (v4.Sure + x8)), ((sub v4.B 0 (IntKind.i64.wrap (v4.Sure + x8))).length : Int)⟩ : dossierref03_File)] : List dossierref03_File).length ≤ 2932031007402)) = true then (dossierref03_Disk_Crash_44.l0 k (x1 ++ ([(⟨v4.Name, sub v4.B 0 (IntKind.i64.wrap (v4.Sure + x8)), ((sub v4.B 0 (IntKind.i64.wrap (v4.Sure + x8))).length : Int)⟩ : dossierref03_File)] : List dossierref03_File)) (IntKind.i64.wrap (x2 + 1)) p0 a1) else none) else none) else none
def dossierref03_Disk_Crash_44.l0 : Nat → (List dossierref03_File) → Int → dossierref03_Disk → (List Int) → Option dossierref03_Disk
 | 0, _, _, _, _ => none
 | k + 1, x1, x2, p0, a1 => if (decide (x2 < (p0.L.length : Int))) = true then ((rd p0.L x2).bind fun v4 => if (decide (x2 < (a1.length : Int))) = true then ((rd a1 x2).bind fun v7 => dossierref03_Disk_Crash_44.j1 k (if (if (IntKind.i64.wrap ((v4.B.length : Int) - v4.Sure)) < v7 then (IntKind.i64.wrap ((v4.B.length : Int) - v4.Sure)) else v7) > 0 then (if (IntKind.i64.wrap ((v4.B.length : Int) - v4.Sure)) < v7 then (IntKind.i64.wrap ((v4.B.length : Int) - v4.Sure)) else v7) else 0) p0 a1 x1 x2 v4) else (dossierref03_Disk_Crash_44.j1 k 0 p0 a1 x1 x2 v4)) else (some (⟨x1, p0.Most, (-1), false⟩ : dossierref03_Disk))
end
def dossierref03_Disk_Crash_44.f (k : Nat) (p0 : dossierref03_Disk) (a1 : List Int) : Option dossierref03_Disk := dossierref03_Disk_Crash_44.l0 k ([] : List dossierref03_File) 0 p0 a1
theorem dossierref03_Disk_Crash_44.meets (k : Nat) (p0 : dossierref03_Disk) (a1 : List Int) (r : dossierref03_Disk) (h : dossierref03_Disk_Crash_44.f k p0 a1 = some r) : Meets Try.prog 44 [(rf 0 0), (D.one (C.p false (.sl a1.length (a1.flatMap e_i64))))] [(o_dossierref03_Disk_0 false (C.own 1 0 p0.L.length 3) p0), (or_ e_dossierref03_File p0.L)] (D.tup []) [(o_dossierref03_Disk_0 false (C.own 2 0 r.L.length 3) r), none, (or_ e_dossierref03_File r.L)] := by
 unfold dossierref03_Disk_Crash_44.f at h
 refine Meets.of_body (n := 64) Try.func44 rfl rfl (nl rfl) fun x hx => ?_
 replace hx : x.k = 2 := hx
 show AW _ x _ _ ⟨64, fr0 [(rf 0 0), (D.one (C.p false (.sl a1.length (a1.flatMap e_i64))))], [(o_dossierref03_Disk_0 false (C.own 1 0 p0.L.length 3) p0), (or_ e_dossierref03_File p0.L)]⟩
 refine AW.weak (st' := ⟨64, (upd 64 (upd 64 topF 0 (rf 0 0)) 1 (D.one (C.p false (.sl a1.length (a1.flatMap e_i64))))), [(o_dossierref03_Disk_0 false (C.own 2 0 p0.L.length 3) p0), none, (or_ e_dossierref03_File p0.L)]⟩) (Weak.genL (kk := 2) [0, 1, 1] [] hx rfl (by decide) rfl rfl rfl rfl (le_upd (le_upd (le_top _) (o1 (.ref rfl))) (o1 .same)) (ac (.cells id (ac (.own rfl) (ac .sc (ac .sc (ac .sc an))))) (ac (.none _) (ac (.cells id (all2_row _)) an)))) (AW.seq (AW.region ?_))
 refine s_assign (d := (sc (.slice none 0 0))) rfl (AWops.nil (AW.seq (AW.seq (AW.region ?_))))
 refine s_move (d := (rf 0 0)) rfl (s_nilCheck (d := (rf 0 0)) rfl (.inl ⟨_, _, rfl⟩) (s_fieldRef F.fo_52_0 (by decide) rfl (s_load1 (c' := (C.own 2 0 p0.L.length 3)) F.ag_50 rfl rfl (s_len (n := p0.L.length) F.u_50 rfl (.inr ⟨(fun _ _ h => by cases h), ⟨_, rfl⟩⟩) (s_move (d := (si 0)) rfl (AWops.nil (AW.block ?_)))))))
 refine AW.loopw (st0 := ⟨64, (upd 64 (upd 64 (upd 64 (upd 64 (upd 64 (upd 64 topF 0 (rf 0 0)) 1 (D.one (C.p false (.sl a1.length (a1.flatMap e_i64))))) 4 (D.one (C.own 2 0 ([] : List dossierref03_File).length 3))) 12 (D.one (C.own 3 0 p0.L.length 3))) 13 (si (p0.L.length : Int))) 14 (si 0)), [(o_dossierref03_Disk_0 false (C.own 3 0 p0.L.length 3) p0), none, (some (AObj.cells true (rowC e_dossierref03_File ([] : List dossierref03_File)))), (or_ e_dossierref03_File p0.L)]⟩) (fun kv st => kv ≤ k ∧ ∃ (x1 : List dossierref03_File) (x2 : Int), dossierref03_Disk_Crash_44.l0 kv x1 x2 p0 a1 = some r ∧ st = ⟨64, (upd 64 (upd 64 (upd 64 (upd 64 (upd 64 (upd 64 topF 0 (rf 0 0)) 1 (D.one (C.p false (.sl a1.length (a1.flatMap e_i64))))) 4 (D.one (C.own 2 0 x1.length 3))) 12 (D.one (C.own 3 0 p0.L.length 3))) 13 (si (p0.L.length : Int))) 14 (si x2)), [(o_dossierref03_Disk_0 false (C.own 3 0 p0.L.length 3) p0), none, (ow_ e_dossierref03_File x1), (or_ e_dossierref03_File p0.L)]⟩) (k := k) (Weak.trans (Weak.nil (sz := 3) (i := 4) rfl) (wG 2 [0, 1, 3, 2] [])) ⟨Nat.le_refl _, ([] : List dossierref03_File), 0, h, rfl⟩ ?_
 rintro ql0 st ⟨hkl0, x1, x2, h, rfl⟩
 cases ql0 with
 | zero => exact absurd h (by simp [dossierref03_Disk_Crash_44.l0])
 | succ ql0 =>
  replace h := (dossierref03_Disk_Crash_44.l0.eq_2 _ _ _ _ _).symm.trans h
  refine AW.seq (AW.region ?_)
  refine s_binI (v := (.bool (decide (x2 < (p0.L.length : Int))))) rfl rfl rfl (AWops.nil (AW.seq ?_))
  rcases itH h with ⟨c3, h⟩ | ⟨c3, h⟩
  ·refine AW.cond_yes rfl c3 (AW.skip (AW.seq (AW.block (AW.seq (AW.region ?_)))))
   refine s_move (d := (si x2)) rfl ?_
   obtain ⟨v4, ev4, h⟩ := bnd h
   obtain ⟨pv4, qv4, gv4⟩ := rd_some ev4
   refine s_indexOwn (d := (D.one (C.er 3 (0 + x2.toNat * 3)))) F.u_50 F.sz_90 rfl rfl pv4 qv4 rfl ?_
   obtain ⟨R5, hR5⟩ := row_at (f := e_dossierref03_File) (sz := 3) (o := 0) e_dossierref03_File_len gv4 (e_dossierref03_File_eq v4) (by decide)
   refine s_loadN (ds := (c_dossierref03_File v4)) F.ag_90 F.sz_90 (congrArg some hR5) rfl rfl (s_alloc (cs := [(ct (⟨#[]⟩ : ByteArray)), (C.p true (.v (.slice none 0 0))), (ci 0)]) F.z_90 rfl rfl (s_assign (d := (si x2)) rfl (s_store (cs' := (c_dossierref03_File v4)) rfl rfl rfl (List.cons_ne_nil _ _) rfl F.sz_90 (nl rfl) rfl (AWops.nil (AW.seq (AW.region (s_assign (d := (si 0)) rfl (AWops.nil ?_))))))))
   refine AW.seqJ (fun st => ∃ (x8 : Int), dossierref03_Disk_Crash_44.j1 ql0 x8 p0 a1 x1 x2 v4 = some r ∧ st = ⟨64, (upd 64 (upd 64 (upd 64 (upd 64 (upd 64 (upd 64 (upd 64 (upd 64 topF 0 (rf 0 0)) 1 (D.one (C.p false (.sl a1.length (a1.flatMap e_i64))))) 4 (D.one (C.own 2 0 x1.length 3))) 6 (rf 3 0)) 7 (si x8)) 12 (D.one (C.own 4 0 p0.L.length 3))) 13 (si (p0.L.length : Int))) 14 (si x2)), [(o_dossierref03_Disk_0 false (C.own 4 0 p0.L.length 3) p0), none, (ow_ e_dossierref03_File x1), (some (AObj.cells true (c_dossierref03_File v4))), (or_ e_dossierref03_File p0.L)]⟩) ?_ ?_
   ·refine AW.seq (AW.region ?_)
    refine s_move (d := (si x2)) rfl (s_move (d := (D.one (C.p false (.sl a1.length (a1.flatMap e_i64))))) rfl (s_len (n := a1.length) F.u_38 rfl (.inr ⟨(fun _ _ h => by cases h), ⟨_, rfl⟩⟩) (s_binI (v := (.bool (decide (x2 < (a1.length : Int))))) rfl rfl rfl (AWops.nil ?_))))
    rcases itH h with ⟨c6, h⟩ | ⟨c6, h⟩
    ·refine AW.cond_yes rfl c6 ?_
     refine AW.weak (st' := ⟨64, (upd 64 (upd 64 (upd 64 (upd 64 (upd 64 (upd 64 (upd 64 (upd 64 (upd 64 topF 0 (rf 0 0)) 1 (D.one (C.p false (.sl a1.length (a1.flatMap e_i64))))) 4 (D.one (C.own 2 0 x1.length 3))) 5 (si x2)) 6 (rf 3 0)) 7 (si 0)) 12 (D.one (C.own 4 0 p0.L.length 3))) 13 (si (p0.L.length : Int))) 14 (si x2)), [(o_dossierref03_Disk_0 false (C.own 4 0 p0.L.length 3) p0), none, (ow_ e_dossierref03_File x1), (some (AObj.cells true (c_dossierref03_File v4))), (or_ e_dossierref03_File p0.L)]⟩) (wG 2 [0, 1, 2, 4, 3] []) ?_
     obtain ⟨v7, ev7, h⟩ := bnd h
     obtain ⟨pv7, qv7, gv7⟩ := rd_some ev7
     refine AW.draw2 5 [kf 23 (D.one (C.p false (.sl a1.length (a1.flatMap e_i64)))) [1], kf 24 (si x2) [5], kf 25 (D.one (C.peek false [P.v (.int .i64 v7)])) [23, 24], kf 26 (si v7) [25], kf 27 (rf 3 1) [6], ⟨some 28, (D.one (C.p false (.sl v4.B.length (v4.B.flatMap e_u8)))), [27], [3], [], none⟩, kf 29 (si (v4.B.length : Int)) [28], kf 30 (rf 3 2) [6], ⟨some 31, (si v4.Sure), [30], [3], [], none⟩, kf 32 (si (IntKind.i64.wrap ((v4.B.length : Int) - v4.Sure))) [29, 31], kf 33 (si (if (IntKind.i64.wrap ((v4.B.length : Int) - v4.Sure)) < v7 then (IntKind.i64.wrap ((v4.B.length : Int) - v4.Sure)) else v7)) [26, 32], kf 34 (si (if (if (IntKind.i64.wrap ((v4.B.length : Int) - v4.Sure)) < v7 then (IntKind.i64.wrap ((v4.B.length : Int) - v4.Sure)) else v7) > 0 then (if (IntKind.i64.wrap ((v4.B.length : Int) - v4.Sure)) < v7 then (IntKind.i64.wrap ((v4.B.length : Int) - v4.Sure)) else v7) else 0)) [33], kf 7 (si (if (if (IntKind.i64.wrap ((v4.B.length : Int) - v4.Sure)) < v7 then (IntKind.i64.wrap ((v4.B.length : Int) - v4.Sure)) else v7) > 0 then (if (IntKind.i64.wrap ((v4.B.length : Int) - v4.Sure)) < v7 then (IntKind.i64.wrap ((v4.B.length : Int) - v4.Sure)) else v7) else 0)) [34]] ⟨?_, ?_⟩
     ·refine (pA (pA (pC ?_ (pE F.ag_3 (pE F.fo_90_1 (pE F.ag_22 (pC ?_ (pE F.fo_90_2 (pE F.ag_3 (pA (pC ?_ (pC ?_ (pA AllStep.nil')))))))))))))
      ·intro K rest fr hv htk k
       refine s_indexImm (ps := [P.v (.int .i64 v7)]) F.u_38 F.sz_3 rfl rfl pv7 qv7 (flat_at e_i64_len gv7 (e_i64_eq v7)) k
      ·intro K rest fr hv htk k
       refine s_len (n := v4.B.length) F.u_22 rfl (.inr ⟨(fun _ _ h => by cases h), ⟨_, rfl⟩⟩) k
      ·intro K rest fr hv htk k
       refine s_min2 (r := (if (IntKind.i64.wrap ((v4.B.length : Int) - v4.Sure)) < v7 then (IntKind.i64.wrap ((v4.B.length : Int) - v4.Sure)) else v7)) rfl rfl rfl k
      ·intro K rest fr hv htk k
       refine s_max2 (r := (if (if (IntKind.i64.wrap ((v4.B.length : Int) - v4.Sure)) < v7 then (IntKind.i64.wrap ((v4.B.length : Int) - v4.Sure)) else v7) > 0 then (if (IntKind.i64.wrap ((v4.B.length : Int) - v4.Sure)) < v7 then (IntKind.i64.wrap ((v4.B.length : Int) - v4.Sure)) else v7) else 0)) rfl rfl rfl k
     ·refine AWops.weak (st' := ⟨64, (upd 64 (upd 64 (upd 64 (upd 64 (upd 64 (upd 64 (upd 64 (upd 64 topF 0 (rf 0 0)) 1 (D.one (C.p false (.sl a1.length (a1.flatMap e_i64))))) 4 (D.one (C.own 2 0 x1.length 3))) 6 (rf 3 0)) 7 (si (if (if (IntKind.i64.wrap ((v4.B.length : Int) - v4.Sure)) < v7 then (IntKind.i64.wrap ((v4.B.length : Int) - v4.Sure)) else v7) > 0 then (if (IntKind.i64.wrap ((v4.B.length : Int) - v4.Sure)) < v7 then (IntKind.i64.wrap ((v4.B.length : Int) - v4.Sure)) else v7) else 0))) 12 (D.one (C.own 4 0 p0.L.length 3))) 13 (si (p0.L.length : Int))) 14 (si x2)), [(o_dossierref03_Disk_0 false (C.own 4 0 p0.L.length 3) p0), none, (ow_ e_dossierref03_File x1), (some (AObj.cells true (c_dossierref03_File v4))), (or_ e_dossierref03_File p0.L)]⟩) (wG 2 [0, 1, 2, 3, 4] []) (AWops.nil ?_)
      exact ⟨⟨64, (upd 64 (upd 64 (upd 64 (upd 64 (upd 64 (upd 64 (upd 64 (upd 64 topF 0 (rf 0 0)) 1 (D.one (C.p false (.sl a1.length (a1.flatMap e_i64))))) 4 (D.one (C.own 2 0 x1.length 3))) 6 (rf 3 0)) 7 (si (if (if (IntKind.i64.wrap ((v4.B.length : Int) - v4.Sure)) < v7 then (IntKind.i64.wrap ((v4.B.length : Int) - v4.Sure)) else v7) > 0 then (if (IntKind.i64.wrap ((v4.B.length : Int) - v4.Sure)) < v7 then (IntKind.i64.wrap ((v4.B.length : Int) - v4.Sure)) else v7) else 0))) 12 (D.one (C.own 4 0 p0.L.length 3))) 13 (si (p0.L.length : Int))) 14 (si x2)), [(o_dossierref03_Disk_0 false (C.own 4 0 p0.L.length 3) p0), none, (ow_ e_dossierref03_File x1), (some (AObj.cells true (c_dossierref03_File v4))), (or_ e_dossierref03_File p0.L)]⟩, (wG 2 [0, 1, 2, 3, 4] []), (if (if (IntKind.i64.wrap ((v4.B.length : Int) - v4.Sure)) < v7 then (IntKind.i64.wrap ((v4.B.length : Int) - v4.Sure)) else v7) > 0 then (if (IntKind.i64.wrap ((v4.B.length : Int) - v4.Sure)) < v7 then (IntKind.i64.wrap ((v4.B.length : Int) - v4.Sure)) else v7) else 0), h, rfl⟩
    ·refine AW.cond_no rfl c6 (AW.skip ?_)
     exact ⟨⟨64, (upd 64 (upd 64 (upd 64 (upd 64 (upd 64 (upd 64 (upd 64 (upd 64 topF 0 (rf 0 0)) 1 (D.one (C.p false (.sl a1.length (a1.flatMap e_i64))))) 4 (D.one (C.own 2 0 x1.length 3))) 6 (rf 3 0)) 7 (si 0)) 12 (D.one (C.own 4 0 p0.L.length 3))) 13 (si (p0.L.length : Int))) 14 (si x2)), [(o_dossierref03_Disk_0 false (C.own 4 0 p0.L.length 3) p0), none, (ow_ e_dossierref03_File x1), (some (AObj.cells true (c_dossierref03_File v4))), (or_ e_dossierref03_File p0.L)]⟩, (wG 2 [0, 1, 2, 4, 3] []), 0, h, rfl⟩
   ·rintro st ⟨x8, h, rfl⟩
    cases ql0 with
    | zero => exact absurd h (by simp [dossierref03_Disk_Crash_44.j1])
    | succ qj1 =>
     replace h := (dossierref03_Disk_Crash_44.j1.eq_2 _ _ _ _ _ _ _).symm.trans h
     refine AW.seq (AW.region ?_)
     refine s_buildSlice (n := 0) (ps := []) (cs := rowC e_u8 ([] : List Int)) F.u_22 F.sz_5 F.z_5 rfl rfl (by decide) (by decide) rfl rfl (s_fieldRef F.fo_90_1 (by decide) rfl (s_load1 (c' := (C.p false (.sl v4.B.length (v4.B.flatMap e_u8)))) F.ag_22 rfl rfl (s_fieldRef F.fo_90_2 (by decide) rfl (s_load1 (c' := (ci v4.Sure)) F.ag_3 rfl rfl (s_move (d := (si x8)) rfl ?_)))))
     refine s_binI (v := (.int .i64 (IntKind.i64.wrap (v4.Sure + x8)))) rfl rfl rfl ?_
     obtain ⟨c9, h⟩ := gdH h
     have dc9 := of_decide_eq_true c9
     refine t_sliceImm (a := 0) (b := IntKind.i64.wrap (v4.Sure + x8)) F.u_22 F.sz_5 e_u8_len rfl (by omega) (by omega) (by omega) .no (.yes rfl (by omega) rfl) ?_
     obtain ⟨c10, h⟩ := gdH h
     have dc10 := of_decide_eq_true c10
     refine t_append (xs := ([] : List Int)) (ys := sub v4.B 0 (IntKind.i64.wrap (v4.Sure + x8))) (zs := sub v4.B 0 (IntKind.i64.wrap (v4.Sure + x8))) (H' := [(o_dossierref03_Disk_0 false (C.own 4 0 p0.L.length 3) p0), none, (ow_ e_dossierref03_File x1), (some (AObj.cells true (c_dossierref03_File v4))), (or_ e_dossierref03_File p0.L), none, (some (AObj.cells true (rowC e_u8 (sub v4.B 0 (IntKind.i64.wrap (v4.Sure + x8))))))]) F.u_22 F.in_5 rfl e_u8_len (.own rfl rfl) .imm F.u_22 (by omega) (by omega) rfl rfl (s_assign (d := (D.one (C.own 6 0 ((sub v4.B 0 (IntKind.i64.wrap (v4.Sure + x8))).length) 1))) rfl (AWops.nil (AW.region (s_move (d := (D.one (C.own 2 0 x1.length 3))) rfl (s_fieldRef F.fo_90_0 (by decide) rfl (s_load1 (c' := (ct v4.Name)) F.ag_9 rfl rfl (s_move (d := (D.one (C.own 6 0 ((sub v4.B 0 (IntKind.i64.wrap (v4.Sure + x8))).length) 1))) rfl ?_)))))))
     refine s_move (d := (D.one (C.own 6 0 ((sub v4.B 0 (IntKind.i64.wrap (v4.Sure + x8))).length) 1))) rfl (s_len (n := (sub v4.B 0 (IntKind.i64.wrap (v4.Sure + x8))).length) F.u_22 rfl (.inr ⟨(fun _ _ h => by cases h), ⟨_, rfl⟩⟩) (s_build (ps := [(0, (st_ v4.Name)), (1, (D.one (C.own 6 0 ((sub v4.B 0 (IntKind.i64.wrap (v4.Sure + x8))).length) 1))), (2, (si ((sub v4.B 0 (IntKind.i64.wrap (v4.Sure + x8))).length : Int)))]) (cs := [(ct v4.Name), (C.own 6 0 ((sub v4.B 0 (IntKind.i64.wrap (v4.Sure + x8))).length) 1), (ci ((sub v4.B 0 (IntKind.i64.wrap (v4.Sure + x8))).length : Int))]) F.z_90 rfl F.so_90 rfl rfl ?_))
     refine AWops.weak (st' := ⟨64, (upd 64 (upd 64 (upd 64 (upd 64 (upd 64 (upd 64 (upd 64 (upd 64 (upd 64 (upd 64 (upd 64 (upd 64 (upd 64 (upd 64 (upd 64 (upd 64 (upd 64 (upd 64 (upd 64 (upd 64 (upd 64 (upd 64 (upd 64 (upd 64 topF 0 (rf 0 0)) 1 (D.one (C.p false (.sl a1.length (a1.flatMap e_i64))))) 4 (D.one (C.own 2 0 x1.length 3))) 6 (rf 3 0)) 7 (si x8)) 8 (D.one (C.p false (.sl (sub v4.B 0 (IntKind.i64.wrap (v4.Sure + x8))).length ((sub v4.B 0 (IntKind.i64.wrap (v4.Sure + x8))).flatMap e_u8))))) 12 (D.one (C.own 4 0 p0.L.length 3))) 13 (si (p0.L.length : Int))) 14 (si x2)) 36 (rf 3 1)) 37 (D.one (C.p false (.sl v4.B.length (v4.B.flatMap e_u8))))) 38 (rf 3 2)) 39 (si v4.Sure)) 40 (si x8)) 41 (si (IntKind.i64.wrap (v4.Sure + x8)))) 42 (D.one (C.p false (.sl (sub v4.B 0 (IntKind.i64.wrap (v4.Sure + x8))).length ((sub v4.B 0 (IntKind.i64.wrap (v4.Sure + x8))).flatMap e_u8))))) 43 (D.one (C.p false (.sl (sub v4.B 0 (IntKind.i64.wrap (v4.Sure + x8))).length ((sub v4.B 0 (IntKind.i64.wrap (v4.Sure + x8))).flatMap e_u8))))) 44 (D.one (C.own 2 0 x1.length 3))) 45 (rf 3 0)) 46 (st_ v4.Name)) 47 (D.one (C.p false (.sl (sub v4.B 0 (IntKind.i64.wrap (v4.Sure + x8))).length ((sub v4.B 0 (IntKind.i64.wrap (v4.Sure + x8))).flatMap e_u8))))) 48 (D.one (C.p false (.sl (sub v4.B 0 (IntKind.i64.wrap (v4.Sure + x8))).length ((sub v4.B 0 (IntKind.i64.wrap (v4.Sure + x8))).flatMap e_u8))))) 49 (si ((sub v4.B 0 (IntKind.i64.wrap (v4.Sure + x8))).length : Int))) 50 (D.agg [(ct v4.Name), (C.p false (.sl (sub v4.B 0 (IntKind.i64.wrap (v4.Sure + x8))).length ((sub v4.B 0 (IntKind.i64.wrap (v4.Sure + x8))).flatMap e_u8))), (ci ((sub v4.B 0 (IntKind.i64.wrap (v4.Sure + x8))).length : Int))])), [(o_dossierref03_Disk_0 false (C.own 4 0 p0.L.length 3) p0), none, (ow_ e_dossierref03_File x1), (some (AObj.cells true (c_dossierref03_File v4))), (or_ e_dossierref03_File p0.L)]⟩) (wG 2 [0, 1, 2, 3, 4] [6]) ?_
     refine s_buildSlice (n := 1) (ps := [(0, (D.agg [(ct v4.Name), (C.p false (.sl (sub v4.B 0 (IntKind.i64.wrap (v4.Sure + x8))).length ((sub v4.B 0 (IntKind.i64.wrap (v4.Sure + x8))).flatMap e_u8))), (ci ((sub v4.B 0 (IntKind.i64.wrap (v4.Sure + x8))).length : Int))]))]) (cs := rowC e_dossierref03_File ([(⟨v4.Name, sub v4.B 0 (IntKind.i64.wrap (v4.Sure + x8)), ((sub v4.B 0 (IntKind.i64.wrap (v4.Sure + x8))).length : Int)⟩ : dossierref03_File)] : List dossierref03_File)) F.u_50 F.sz_90 F.z_90 rfl rfl (by decide) (by decide) rfl rfl ?_
     obtain ⟨c11, h⟩ := gdH h
     have dc11 := of_decide_eq_true c11
     refine t_append (xs := x1) (ys := ([(⟨v4.Name, sub v4.B 0 (IntKind.i64.wrap (v4.Sure + x8)), ((sub v4.B 0 (IntKind.i64.wrap (v4.Sure + x8))).length : Int)⟩ : dossierref03_File)] : List dossierref03_File)) (zs := x1 ++ ([(⟨v4.Name, sub v4.B 0 (IntKind.i64.wrap (v4.Sure + x8)), ((sub v4.B 0 (IntKind.i64.wrap (v4.Sure + x8))).length : Int)⟩ : dossierref03_File)] : List dossierref03_File)) (H' := [(o_dossierref03_Disk_0 false (C.own 4 0 p0.L.length 3) p0), none, none, (some (AObj.cells true (c_dossierref03_File v4))), (or_ e_dossierref03_File p0.L), (some (AObj.cells true (rowC e_dossierref03_File ([(⟨v4.Name, sub v4.B 0 (IntKind.i64.wrap (v4.Sure + x8)), ((sub v4.B 0 (IntKind.i64.wrap (v4.Sure + x8))).length : Int)⟩ : dossierref03_File)] : List dossierref03_File)))), (some (AObj.cells true (rowC e_dossierref03_File (x1 ++ ([(⟨v4.Name, sub v4.B 0 (IntKind.i64.wrap (v4.Sure + x8)), ((sub v4.B 0 (IntKind.i64.wrap (v4.Sure + x8))).length : Int)⟩ : dossierref03_File)] : List dossierref03_File)))))]) F.u_50 F.in_90 rfl e_dossierref03_File_len (.own rfl rfl) (.own rfl rfl) F.u_50 (by omega) (by omega) rfl rfl (s_assign (d := (D.one (C.own 6 0 ((x1 ++ ([(⟨v4.Name, sub v4.B 0 (IntKind.i64.wrap (v4.Sure + x8)), ((sub v4.B 0 (IntKind.i64.wrap (v4.Sure + x8))).length : Int)⟩ : dossierref03_File)] : List dossierref03_File)).length) 3))) rfl (AWops.nil (AW.region (s_binI (v := (.int .i64 (IntKind.i64.wrap (x2 + 1)))) rfl rfl rfl (s_move (d := (si (IntKind.i64.wrap (x2 + 1)))) rfl (AWops.nil ?_))))))
     exact ⟨_, ⟨64, (upd 64 (upd 64 (upd 64 (upd 64 (upd 64 (upd 64 topF 0 (rf 0 0)) 1 (D.one (C.p false (.sl a1.length (a1.flatMap e_i64))))) 4 (D.one (C.own 2 0 (x1 ++ ([(⟨v4.Name, sub v4.B 0 (IntKind.i64.wrap (v4.Sure + x8)), ((sub v4.B 0 (IntKind.i64.wrap (v4.Sure + x8))).length : Int)⟩ : dossierref03_File)] : List dossierref03_File)).length 3))) 12 (D.one (C.own 3 0 p0.L.length 3))) 13 (si (p0.L.length : Int))) 14 (si (IntKind.i64.wrap (x2 + 1)))), [(o_dossierref03_Disk_0 false (C.own 3 0 p0.L.length 3) p0), none, (some (AObj.cells true (rowC e_dossierref03_File (x1 ++ ([(⟨v4.Name, sub v4.B 0 (IntKind.i64.wrap (v4.Sure + x8)), ((sub v4.B 0 (IntKind.i64.wrap (v4.Sure + x8))).length : Int)⟩ : dossierref03_File)] : List dossierref03_File))))), (or_ e_dossierref03_File p0.L)]⟩, by omega, (wG 2 [0, 1, 6, 4] []), by omega, x1 ++ ([(⟨v4.Name, sub v4.B 0 (IntKind.i64.wrap (v4.Sure + x8)), ((sub v4.B 0 (IntKind.i64.wrap (v4.Sure + x8))).length : Int)⟩ : dossierref03_File)] : List dossierref03_File), IntKind.i64.wrap (x2 + 1), h, rfl⟩
  ·refine AW.cond_no rfl c3 (AW.exit (AW.region ?_))
   refine s_move (d := (rf 0 0)) rfl (s_move (d := (rf 0 0)) rfl (s_move (d := (rf 0 0)) rfl (s_move (d := (D.one (C.own 2 0 x1.length 3))) rfl (s_nilCheck (d := (rf 0 0)) rfl (.inl ⟨_, _, rfl⟩) (s_fieldRef F.fo_52_0 (by decide) rfl ?_)))))
   refine s_store (cs' := [(C.own 2 0 x1.length 3), (ci p0.Most), (ci p0.Burns), (cb p0.Off)]) rfl rfl rfl (List.cons_ne_nil _ _) rfl F.sz_50 (nl rfl) rfl (s_nilCheck (d := (rf 0 0)) rfl (.inl ⟨_, _, rfl⟩) (s_fieldRef F.fo_52_3 (by decide) rfl (s_store (cs' := [(C.own 2 0 x1.length 3), (ci p0.Most), (ci p0.Burns), (cb false)]) rfl rfl rfl (List.cons_ne_nil _ _) rfl F.sz_4 (nl rfl) rfl (s_nilCheck (d := (rf 0 0)) rfl (.inl ⟨_, _, rfl⟩) (s_fieldRef F.fo_52_2 (by decide) rfl ?_)))))
   refine s_store (cs' := [(C.own 2 0 x1.length 3), (ci p0.Most), (ci (-1)), (cb false)]) rfl rfl rfl (List.cons_ne_nil _ _) rfl F.sz_3 (nl rfl) rfl (AWops.nil ?_)
   obtain rfl := Option.some.inj h
   exact ⟨_, rfl, (wG 2 [0, 1, 2] [])⟩
def vdisk_Disk_Names.f (k : Nat) (p0 : vdisk_Disk) : Option (List ByteArray) := (vdisk_Disk_none.f k p0).bind fun r1 => if (okK p0.files) = true then (some (sortK p0.files)) else none
theorem vdisk_Disk_Names.meets (k : Nat) (p0 : vdisk_Disk) (r : (List ByteArray)) (h : vdisk_Disk_Names.f k p0 = some r) : Meets Try.prog 52 [(rf 0 0)] [(o_vdisk_Disk_03 false (C.mp 1) (C.opt p0.fuse.isSome 2 0) p0), (om_ e_vdisk_file p0.files), (some (AObj.cells false [(ci (p0.fuse.getD default))]))] (D.one (C.own 4 0 r.length 1)) [(o_vdisk_Disk_03 false (C.mp 1) (C.opt p0.fuse.isSome 3 0) p0), (om_ e_vdisk_file p0.files), none, (some (AObj.cells false [(ci (p0.fuse.getD default))])), (ow_ e_str r)] := by
 unfold vdisk_Disk_Names.f at h
 refine Meets.of_body (n := 11) Try.func52 rfl rfl (nl rfl) fun x hx => ?_
 replace hx : x.k = 3 := hx
 show AW _ x _ _ ⟨11, fr0 [(rf 0 0)], [(o_vdisk_Disk_03 false (C.mp 1) (C.opt p0.fuse.isSome 2 0) p0), (om_ e_vdisk_file p0.files), (some (AObj.cells false [(ci (p0.fuse.getD default))]))]⟩
 refine AW.weak (st' := ⟨11, (upd 11 topF 0 (rf 0 0)), [(o_vdisk_Disk_03 false (C.mp 1) (C.opt p0.fuse.isSome 3 0) p0), (om_ e_vdisk_file p0.files), none, (some (AObj.cells false [(ci (p0.fuse.getD default))]))]⟩) (Weak.genL (kk := 3) [0, 1, 2, 2] [] hx rfl (by decide) rfl rfl rfl rfl (le_upd (le_top _) (o1 (.ref rfl))) (ac (.cells id (ac (.mp rfl) (ac .sc (ac .sc (ac (.opt rfl) (ac .sc an)))))) (ac .map (ac (.none _) (ac (.cells id (ac .sc an)) an))))) (AW.seq (AW.region ?_))
 refine s_assign (d := (sc (.slice none 0 0))) rfl (AWops.nil (AW.seq (AW.seq (AW.region ?_))))
 refine s_move (d := (rf 0 0)) rfl ?_
 obtain ⟨r1, er1, h⟩ := bnd h
 have kr1 := vdisk_Disk_none.const er1
 subst kr1
 refine cc [0, 1, 3] [(o_vdisk_Disk_03 false (C.mp 1) (C.opt p0.fuse.isSome 4 0) p0), (om_ e_vdisk_file p0.files), none, none, (some (AObj.cells false [(ci (p0.fuse.getD default))]))] (sb false) F.ca_61 rfl rfl (ac (.one (.ref rfl)) an) (ac (.cells (ac (.mp rfl) (ac .sc (ac .sc (ac (.opt rfl) (ac .sc an)))))) (ac .map (ac (.cells (ac .sc an)) an))) (vdisk_Disk_none.meets _ p0 false er1) (AWops.nil ?_)
 refine AW.cond_no rfl rfl (AW.skip (AW.seq (AW.region ?_)))
 refine s_move (d := (rf 0 0)) rfl (s_nilCheck (d := (rf 0 0)) rfl (.inl ⟨_, _, rfl⟩) (s_fieldRef F.fo_49_0 (by decide) rfl (s_load1 (c' := (C.mp 1)) F.ag_46 rfl rfl (cc [1] [(o_vdisk_Disk_03 false (C.mp 1) (C.opt p0.fuse.isSome 4 0) p0), (om_ e_vdisk_file p0.files), none, none, (some (AObj.cells false [(ci (p0.fuse.getD default))])), (some (AObj.cells true [(C.mp 1)]))] (D.one (C.clo 81 [(C.ref 5 0)])) F.ca_76 rfl rfl (ac (.one (.mp rfl)) an) (ac .map an) (SK.keys _) ?_))))
 obtain ⟨c2, h⟩ := gdH h
 refine cc [5, 1] [(o_vdisk_Disk_03 false (C.mp 1) (C.opt p0.fuse.isSome 4 0) p0), (om_ e_vdisk_file p0.files), none, none, (some (AObj.cells false [(ci (p0.fuse.getD default))])), (some (AObj.cells true [(C.mp 1)])), (some (AObj.cells true (rowC e_str (sortK p0.files))))] (D.one (C.own 6 0 ((sortK p0.files).length) 1)) F.ca_75 rfl rfl (ac (.one (LendC.cloL (ac (.ref rfl) an))) an) (ac (.cells (ac (.mp rfl) an)) (ac .map an)) (SK.sorted (b := true) (f := e_vdisk_file) c2) (s_assign (d := (D.one (C.own 6 0 ((sortK p0.files).length) 1))) rfl (AWops.nil (AW.ret ?_)))
 obtain rfl := Option.some.inj h
 exact ⟨_, rfl, (wG 3 [0, 1, 2, 4, 6] [])⟩
mutual
def vdisk_Disk_Crash.l0 : Nat → (Option Int) → Int → Int → Bool → (List (ByteArray × vdisk_file)) → Int → (List Int) → (List ByteArray) → Option (Int × vdisk_Disk)
 | 0, _, _, _, _, _, _, _, _ => none
 | k + 1, x3, x4, x5, x6, x7, x8, a1, r2 => if (decide (x8 < (r2.length : Int))) = true then ((rd r2 x8).bind fun v10 => if (decide (x8 < (a1.length : Int))) = true then ((rd a1 x8).bind fun v13 => if (decide (v13 > 0)) = true then ((rd a1 x8).bind fun v15 => if (decide (0 ≤ (IntKind.i64.wrap (((lk_vdisk_file v10 x7).sure) + (if (IntKind.i64.wrap ((((lk_vdisk_file v10 x7).b).length : Int) - ((lk_vdisk_file v10 x7).sure))) < v15 then (IntKind.i64.wrap ((((lk_vdisk_file v10 x7).b).length : Int) - ((lk_vdisk_file v10 x7).sure))) else v15))) ∧ (IntKind.i64.wrap (((lk_vdisk_file v10 x7).sure) + (if (IntKind.i64.wrap ((((lk_vdisk_file v10 x7).b).length : Int) - ((lk_vdisk_file v10 x7).sure))) < v15 then (IntKind.i64.wrap ((((lk_vdisk_file v10 x7).b).length : Int) - ((lk_vdisk_file v10 x7).sure))) else v15))) ≤ (((lk_vdisk_file v10 x7).b).length : Int))) = true then ((vdisk_Disk_set.f k (⟨x7, x4, x5, x3, x6⟩ : vdisk_Disk) v10 (⟨sub ((lk_vdisk_file v10 x7).b) 0 (IntKind.i64.wrap (((lk_vdisk_file v10 x7).sure) + (if (IntKind.i64.wrap ((((lk_vdisk_file v10 x7).b).length : Int) - ((lk_vdisk_file v10 x7).sure))) < v15 then (IntKind.i64.wrap ((((lk_vdisk_file v10 x7).b).length : Int) - ((lk_vdisk_file v10 x7).sure))) else v15))), IntKind.i64.wrap (((lk_vdisk_file v10 x7).sure) + (if (IntKind.i64.wrap ((((lk_vdisk_file v10 x7).b).length : Int) - ((lk_vdisk_file v10 x7).sure))) < v15 then (IntKind.i64.wrap ((((lk_vdisk_file v10 x7).b).length : Int) - ((lk_vdisk_file v10 x7).sure))) else v15))⟩ : vdisk_file)).bind fun r17 => vdisk_Disk_Crash.l0 k r17.fuse r17.room r17.used r17.dead r17.files (IntKind.i64.wrap (x8 + 1)) a1 r2) else none) else (if (decide (0 ≤ ((lk_vdisk_file v10 x7).sure) ∧ ((lk_vdisk_file v10 x7).sure) ≤ (((lk_vdisk_file v10 x7).b).length : Int))) = true then ((vdisk_Disk_set.f k (⟨x7, x4, x5, x3, x6⟩ : vdisk_Disk) v10 (⟨sub ((lk_vdisk_file v10 x7).b) 0 ((lk_vdisk_file v10 x7).sure), (lk_vdisk_file v10 x7).sure⟩ : vdisk_file)).bind fun r19 => vdisk_Disk_Crash.l0 k r19.fuse r19.room r19.used r19.dead r19.files (IntKind.i64.wrap (x8 + 1)) a1 r2) else none)) else (if (decide (0 ≤ ((lk_vdisk_file v10 x7).sure) ∧ ((lk_vdisk_file v10 x7).sure) ≤ (((lk_vdisk_file v10 x7).b).length : Int))) = true then ((vdisk_Disk_set.f k (⟨x7, x4, x5, x3, x6⟩ : vdisk_Disk) v10 (⟨sub ((lk_vdisk_file v10 x7).b) 0 ((lk_vdisk_file v10 x7).sure), (lk_vdisk_file v10 x7).sure⟩ : vdisk_file)).bind fun r21 => vdisk_Disk_Crash.l0 k r21.fuse r21.room r21.used r21.dead r21.files (IntKind.i64.wrap (x8 + 1)) a1 r2) else none)) else (some (0, (⟨x7, x4, x5, (none : Option Int), false⟩ : vdisk_Disk)))
end
def vdisk_Disk_Crash.f (k : Nat) (p0 : vdisk_Disk) (a1 : List Int) : Option (Int × vdisk_Disk) := (vdisk_Disk_none.f k p0).bind fun r1 => (vdisk_Disk_Names.f k p0).bind fun r2 => vdisk_Disk_Crash.l0 k p0.fuse p0.room p0.used p0.dead p0.files 0 a1 r2
theorem vdisk_Disk_Crash.meets (k : Nat) (p0 : vdisk_Disk) (a1 : List Int) (r : Int × vdisk_Disk) (h : vdisk_Disk_Crash.f k p0 a1 = some r) : Meets Try.prog 45 [(rf 0 0), (D.one (C.p false (.sl a1.length (a1.flatMap e_i64))))] [(o_vdisk_Disk_03 false (C.mp 1) (C.opt p0.fuse.isSome 2 0) p0), (om_ e_vdisk_file p0.files), (some (AObj.cells false [(ci (p0.fuse.getD default))]))] (si r.1) [(o_vdisk_Disk_03 false (C.mp 1) (C.opt r.2.fuse.isSome 3 0) r.2), (om_ e_vdisk_file r.2.files), none, (some (AObj.cells false [(ci (r.2.fuse.getD default))]))] := by
 unfold vdisk_Disk_Crash.f at h
 refine Meets.of_body (n := 69) Try.func45 rfl rfl (nl rfl) fun x hx => ?_
 replace hx : x.k = 3 := hx
 show AW _ x _ _ ⟨69, fr0 [(rf 0 0), (D.one (C.p false (.sl a1.length (a1.flatMap e_i64))))], [(o_vdisk_Disk_03 false (C.mp 1) (C.opt p0.fuse.isSome 2 0) p0), (om_ e_vdisk_file p0.files), (some (AObj.cells false [(ci (p0.fuse.getD default))]))]⟩
 refine AW.weak (st' := ⟨69, (upd 69 (upd 69 topF 0 (rf 0 0)) 1 (D.one (C.p false (.sl a1.length (a1.flatMap e_i64))))), [(o_vdisk_Disk_03 false (C.mp 1) (C.opt p0.fuse.isSome 3 0) p0), (om_ e_vdisk_file p0.files), none, (some (AObj.cells false [(ci (p0.fuse.getD default))]))]⟩) (Weak.genL (kk := 3) [0, 1, 2, 2] [] hx rfl (by decide) rfl rfl rfl rfl (le_upd (le_upd (le_top _) (o1 (.ref rfl))) (o1 .same)) (ac (.cells id (ac (.mp rfl) (ac .sc (ac .sc (ac (.opt rfl) (ac .sc an)))))) (ac .map (ac (.none _) (ac (.cells id (ac .sc an)) an))))) (AW.seq (AW.region ?_))
 refine s_assign (d := (si 0)) rfl (AWops.nil (AW.seq (AW.seq (AW.region ?_))))
 refine s_move (d := (rf 0 0)) rfl ?_
 obtain ⟨r1, er1, h⟩ := bnd h
 have kr1 := vdisk_Disk_none.const er1
 subst kr1
 refine cc [0, 1, 3] [(o_vdisk_Disk_03 false (C.mp 1) (C.opt p0.fuse.isSome 4 0) p0), (om_ e_vdisk_file p0.files), none, none, (some (AObj.cells false [(ci (p0.fuse.getD default))]))] (sb false) F.ca_61 rfl rfl (ac (.one (.ref rfl)) an) (ac (.cells (ac (.mp rfl) (ac .sc (ac .sc (ac (.opt rfl) (ac .sc an)))))) (ac .map (ac (.cells (ac .sc an)) an))) (vdisk_Disk_none.meets _ p0 false er1) (AWops.nil ?_)
 refine AW.cond_no rfl rfl (AW.skip (AW.seq (AW.seq (AW.region ?_))))
 refine s_move (d := (rf 0 0)) rfl ?_
 obtain ⟨r2, er2, h⟩ := bnd h
 refine cc [0, 1, 4] [(o_vdisk_Disk_03 false (C.mp 1) (C.opt p0.fuse.isSome 5 0) p0), (om_ e_vdisk_file p0.files), none, none, none, (some (AObj.cells false [(ci (p0.fuse.getD default))])), (ow_ e_str r2)] (D.one (C.own 6 0 r2.length 1)) F.ca_52 rfl rfl (ac (.one (.ref rfl)) an) (ac (.cells (ac (.mp rfl) (ac .sc (ac .sc (ac (.opt rfl) (ac .sc an)))))) (ac .map (ac (.cells (ac .sc an)) an))) (vdisk_Disk_Names.meets _ p0 r2 er2) (s_len (n := r2.length) F.u_86 rfl (.inr ⟨(fun _ _ h => by cases h), ⟨_, rfl⟩⟩) (s_move (d := (si 0)) rfl (AWops.nil (AW.block ?_))))
 refine AW.loopw (st0 := ⟨69, (upd 69 (upd 69 (upd 69 (upd 69 (upd 69 topF 0 (rf 0 0)) 1 (D.one (C.p false (.sl a1.length (a1.flatMap e_i64))))) 12 (D.one (C.own 3 0 r2.length 1))) 13 (si (r2.length : Int))) 14 (si 0)), [(some (AObj.cells false [(C.mp 1), (ci p0.room), (ci p0.used), (C.opt p0.fuse.isSome 4 0), (cb p0.dead)])), (om_ e_vdisk_file p0.files), none, (ow_ e_str r2), (some (AObj.cells false [(ci (p0.fuse.getD default))]))]⟩) (fun kv st => kv ≤ k ∧ ∃ (x3 : Option Int) (x4 : Int) (x5 : Int) (x6 : Bool) (x7 : List (ByteArray × vdisk_file)) (x8 : Int), vdisk_Disk_Crash.l0 kv x3 x4 x5 x6 x7 x8 a1 r2 = some r ∧ st = ⟨69, (upd 69 (upd 69 (upd 69 (upd 69 (upd 69 topF 0 (rf 0 0)) 1 (D.one (C.p false (.sl a1.length (a1.flatMap e_i64))))) 12 (D.one (C.own 3 0 r2.length 1))) 13 (si (r2.length : Int))) 14 (si x8)), [(some (AObj.cells false [(C.mp 1), (ci x4), (ci x5), (C.opt x3.isSome 4 0), (cb x6)])), (om_ e_vdisk_file x7), none, (ow_ e_str r2), (some (AObj.cells false [(ci (x3.getD default))]))]⟩) (k := k) (wG 3 [0, 1, 2, 6, 5] []) ⟨Nat.le_refl _, p0.fuse, p0.room, p0.used, p0.dead, p0.files, 0, h, rfl⟩ ?_
 rintro ql0 st ⟨hkl0, x3, x4, x5, x6, x7, x8, h, rfl⟩
 cases ql0 with
 | zero => exact absurd h (by simp [vdisk_Disk_Crash.l0])
 | succ ql0 =>
  replace h := (vdisk_Disk_Crash.l0.eq_2 _ _ _ _ _ _ _ _ _).symm.trans h
  refine AW.seq (AW.region ?_)
  refine s_binI (v := (.bool (decide (x8 < (r2.length : Int))))) rfl rfl rfl (AWops.nil (AW.seq ?_))
  rcases itH h with ⟨c9, h⟩ | ⟨c9, h⟩
  ·refine AW.cond_yes rfl c9 (AW.skip (AW.seq (AW.block (AW.seq (AW.region ?_)))))
   refine s_move (d := (si x8)) rfl ?_
   obtain ⟨v10, ev10, h⟩ := bnd h
   obtain ⟨pv10, qv10, gv10⟩ := rd_some ev10
   refine s_indexOwn (d := (D.one (C.er 3 (0 + x8.toNat * 1)))) F.u_86 F.sz_9 rfl rfl pv10 qv10 rfl ?_
   obtain ⟨R11, hR11⟩ := row_at (f := e_str) (sz := 1) (o := 0) e_str_len gv10 (e_str_eq v10) (by decide)
   refine s_load1 (c' := (ct v10)) F.ag_9 (congrArg some hR11) rfl (s_assign (d := (si x8)) rfl (s_assign (d := (st_ v10)) rfl (AWops.nil (AW.seq (AW.region (s_move (d := (rf 0 0)) rfl (s_nilCheck (d := (rf 0 0)) rfl (.inl ⟨_, _, rfl⟩) (s_fieldRef F.fo_49_0 (by decide) rfl ?_))))))))
   refine s_load1 (c' := (C.mp 1)) F.ag_46 rfl rfl (s_move (d := (st_ v10)) rfl (t_lookup (b := true) F.u_46 F.u_9 F.z_95 (z := ((⟨([] : List Int), 0⟩ : vdisk_file) : vdisk_file)) (zs := [(.slice none 0 0), (.int .i64 0)]) rfl (fun h => by cases h) (ac ZRel.n (ac (ZRel.v _ rfl) an)) rfl rfl rfl rfl (s_alloc (cs := [(C.p true (.v (.slice none 0 0))), (ci 0)]) F.z_95 rfl rfl (s_store (cs' := (c_vdisk_file (lk_vdisk_file v10 x7))) rfl rfl rfl (List.cons_ne_nil _ _) rfl F.sz_95 (nl rfl) rfl (AWops.nil (AW.seq (AW.region (s_fieldRef F.fo_95_1 (by decide) rfl ?_))))))))
   refine s_load1 (c' := (ci ((lk_vdisk_file v10 x7).sure))) F.ag_3 rfl rfl (s_assign (d := (si ((lk_vdisk_file v10 x7).sure))) rfl (AWops.nil (AW.seq (AW.seq (AW.region (s_move (d := (si x8)) rfl (s_move (d := (D.one (C.p false (.sl a1.length (a1.flatMap e_i64))))) rfl (s_len (n := a1.length) F.u_38 rfl (.inr ⟨(fun _ _ h => by cases h), ⟨_, rfl⟩⟩) (s_binI (v := (.bool (decide (x8 < (a1.length : Int))))) rfl rfl rfl ?_)))))))))
   refine s_move (d := (sb (decide (x8 < (a1.length : Int))))) rfl ?_
   rcases itH h with ⟨c12, h⟩ | ⟨c12, h⟩
   ·refine AWops.guard_yes rfl (nl rfl) rfl c12 ?_
    refine s_move (d := (D.one (C.p false (.sl a1.length (a1.flatMap e_i64))))) rfl ?_
    refine AWops.guard_yes rfl (nl rfl) rfl c12 ?_
    refine s_move (d := (si x8)) rfl ?_
    refine AWops.guard_yes rfl (nl rfl) rfl c12 ?_
    obtain ⟨v13, ev13, h⟩ := bnd h
    obtain ⟨pv13, qv13, gv13⟩ := rd_some ev13
    refine s_indexImm (ps := [P.v (.int .i64 v13)]) F.u_38 F.sz_3 rfl rfl pv13 qv13 (flat_at e_i64_len gv13 (e_i64_eq v13)) ?_
    refine AWops.guard_yes rfl (nl rfl) rfl c12 ?_
    refine s_load1 (c' := (ci v13)) F.ag_3 rfl rfl ?_
    refine AWops.guard_yes rfl (nl rfl) rfl c12 ?_
    refine s_binI (v := (.bool (decide (v13 > 0)))) rfl rfl rfl (s_pick_yes (d := (sb (decide (v13 > 0)))) rfl c12 rfl (AWops.nil ?_))
    rcases itH h with ⟨c14, h⟩ | ⟨c14, h⟩
    ·refine AW.cond_yes rfl c14 ?_
     refine AW.weak (st' := ⟨69, (upd 69 (upd 69 (upd 69 (upd 69 (upd 69 (upd 69 (upd 69 (upd 69 (upd 69 (upd 69 (upd 69 (upd 69 (upd 69 (upd 69 topF 0 (rf 0 0)) 1 (D.one (C.p false (.sl a1.length (a1.flatMap e_i64))))) 5 (si x8)) 6 (st_ v10)) 7 (rf 3 0)) 8 (si ((lk_vdisk_file v10 x7).sure))) 12 (D.one (C.own 4 0 r2.length 1))) 13 (si (r2.length : Int))) 14 (si x8)) 32 (D.one (C.p false (.sl a1.length (a1.flatMap e_i64))))) 33 (si x8)) 34 (D.one (C.peek false [P.v (.int .i64 v13)]))) 35 (si v13)) 36 (sb (decide (v13 > 0)))), [(some (AObj.cells false [(C.mp 1), (ci x4), (ci x5), (C.opt x3.isSome 5 0), (cb x6)])), (om_ e_vdisk_file x7), none, (some (AObj.cells true (c_vdisk_file (lk_vdisk_file v10 x7)))), (ow_ e_str r2), (some (AObj.cells false [(ci (x3.getD default))]))]⟩) (wG 3 [0, 1, 2, 5, 3, 4] []) ?_
     obtain ⟨v15, ev15, h⟩ := bnd h
     obtain ⟨pv15, qv15, gv15⟩ := rd_some ev15
     refine AW.draw2 6 [kf 38 (rf 3 1) [7], ⟨some 39, (si ((lk_vdisk_file v10 x7).sure)), [38], [3], [], none⟩, kf 40 (D.one (C.p false (.sl a1.length (a1.flatMap e_i64)))) [1], kf 41 (si x8) [5], kf 42 (D.one (C.peek false [P.v (.int .i64 v15)])) [40, 41], kf 43 (si v15) [42], kf 44 (rf 3 0) [7], ⟨some 45, (D.one (C.p false (.sl ((lk_vdisk_file v10 x7).b).length (((lk_vdisk_file v10 x7).b).flatMap e_u8)))), [44], [3], [], none⟩, kf 46 (si (((lk_vdisk_file v10 x7).b).length : Int)) [45], kf 47 (rf 3 1) [7], ⟨some 48, (si ((lk_vdisk_file v10 x7).sure)), [47], [3], [], none⟩, kf 49 (si (IntKind.i64.wrap ((((lk_vdisk_file v10 x7).b).length : Int) - ((lk_vdisk_file v10 x7).sure)))) [46, 48], kf 50 (si (if (IntKind.i64.wrap ((((lk_vdisk_file v10 x7).b).length : Int) - ((lk_vdisk_file v10 x7).sure))) < v15 then (IntKind.i64.wrap ((((lk_vdisk_file v10 x7).b).length : Int) - ((lk_vdisk_file v10 x7).sure))) else v15)) [43, 49], kf 51 (si (IntKind.i64.wrap (((lk_vdisk_file v10 x7).sure) + (if (IntKind.i64.wrap ((((lk_vdisk_file v10 x7).b).length : Int) - ((lk_vdisk_file v10 x7).sure))) < v15 then (IntKind.i64.wrap ((((lk_vdisk_file v10 x7).b).length : Int) - ((lk_vdisk_file v10 x7).sure))) else v15)))) [39, 50], kf 8 (si (IntKind.i64.wrap (((lk_vdisk_file v10 x7).sure) + (if (IntKind.i64.wrap ((((lk_vdisk_file v10 x7).b).length : Int) - ((lk_vdisk_file v10 x7).sure))) < v15 then (IntKind.i64.wrap ((((lk_vdisk_file v10 x7).b).length : Int) - ((lk_vdisk_file v10 x7).sure))) else v15)))) [51]] ⟨?_, ?_⟩
     ·refine (pE F.fo_95_1 (pE F.ag_3 (pA (pA (pC ?_ (pE F.ag_3 (pE F.fo_95_0 (pE F.ag_22 (pC ?_ (pE F.fo_95_1 (pE F.ag_3 (pA (pC ?_ (pA (pA AllStep.nil')))))))))))))))
      ·intro K rest fr hv htk k
       refine s_indexImm (ps := [P.v (.int .i64 v15)]) F.u_38 F.sz_3 rfl rfl pv15 qv15 (flat_at e_i64_len gv15 (e_i64_eq v15)) k
      ·intro K rest fr hv htk k
       refine s_len (n := ((lk_vdisk_file v10 x7).b).length) F.u_22 rfl (.inr ⟨(fun _ _ h => by cases h), ⟨_, rfl⟩⟩) k
      ·intro K rest fr hv htk k
       refine s_min2 (r := (if (IntKind.i64.wrap ((((lk_vdisk_file v10 x7).b).length : Int) - ((lk_vdisk_file v10 x7).sure))) < v15 then (IntKind.i64.wrap ((((lk_vdisk_file v10 x7).b).length : Int) - ((lk_vdisk_file v10 x7).sure))) else v15)) rfl rfl rfl k
     ·refine AWops.weak (st' := ⟨69, (upd 69 (upd 69 (upd 69 (upd 69 (upd 69 (upd 69 (upd 69 (upd 69 (upd 69 (upd 69 (upd 69 (upd 69 (upd 69 topF 0 (rf 0 0)) 1 (D.one (C.p false (.sl a1.length (a1.flatMap e_i64))))) 6 (st_ v10)) 7 (rf 3 0)) 8 (si (IntKind.i64.wrap (((lk_vdisk_file v10 x7).sure) + (if (IntKind.i64.wrap ((((lk_vdisk_file v10 x7).b).length : Int) - ((lk_vdisk_file v10 x7).sure))) < v15 then (IntKind.i64.wrap ((((lk_vdisk_file v10 x7).b).length : Int) - ((lk_vdisk_file v10 x7).sure))) else v15))))) 12 (D.one (C.own 4 0 r2.length 1))) 13 (si (r2.length : Int))) 14 (si x8)) 32 (D.one (C.p false (.sl a1.length (a1.flatMap e_i64))))) 33 (si x8)) 34 (D.one (C.peek false [P.v (.int .i64 v13)]))) 35 (si v13)) 36 (sb (decide (v13 > 0)))), [(some (AObj.cells false [(C.mp 1), (ci x4), (ci x5), (C.opt x3.isSome 5 0), (cb x6)])), (om_ e_vdisk_file x7), none, (some (AObj.cells true (c_vdisk_file (lk_vdisk_file v10 x7)))), (ow_ e_str r2), (some (AObj.cells false [(ci (x3.getD default))]))]⟩) (wG 3 [0, 1, 2, 3, 4, 5] []) (AWops.nil (AW.region ?_))
      refine s_move (d := (rf 0 0)) rfl (s_move (d := (st_ v10)) rfl (s_fieldRef F.fo_95_0 (by decide) rfl (s_load1 (c' := (C.p false (.sl ((lk_vdisk_file v10 x7).b).length (((lk_vdisk_file v10 x7).b).flatMap e_u8)))) F.ag_22 rfl rfl (s_move (d := (si (IntKind.i64.wrap (((lk_vdisk_file v10 x7).sure) + (if (IntKind.i64.wrap ((((lk_vdisk_file v10 x7).b).length : Int) - ((lk_vdisk_file v10 x7).sure))) < v15 then (IntKind.i64.wrap ((((lk_vdisk_file v10 x7).b).length : Int) - ((lk_vdisk_file v10 x7).sure))) else v15))))) rfl (s_move (d := (si (IntKind.i64.wrap (((lk_vdisk_file v10 x7).sure) + (if (IntKind.i64.wrap ((((lk_vdisk_file v10 x7).b).length : Int) - ((lk_vdisk_file v10 x7).sure))) < v15 then (IntKind.i64.wrap ((((lk_vdisk_file v10 x7).b).length : Int) - ((lk_vdisk_file v10 x7).sure))) else v15))))) rfl ?_)))))
      obtain ⟨c16, h⟩ := gdH h
      have dc16 := of_decide_eq_true c16
      refine t_slice3Imm F.u_22 F.sz_5 e_u8_len rfl rfl rfl (by omega) (by omega) (s_move (d := (si (IntKind.i64.wrap (((lk_vdisk_file v10 x7).sure) + (if (IntKind.i64.wrap ((((lk_vdisk_file v10 x7).b).length : Int) - ((lk_vdisk_file v10 x7).sure))) < v15 then (IntKind.i64.wrap ((((lk_vdisk_file v10 x7).b).length : Int) - ((lk_vdisk_file v10 x7).sure))) else v15))))) rfl (s_build (ps := [(0, (D.one (C.p false (.sl (sub ((lk_vdisk_file v10 x7).b) 0 (IntKind.i64.wrap (((lk_vdisk_file v10 x7).sure) + (if (IntKind.i64.wrap ((((lk_vdisk_file v10 x7).b).length : Int) - ((lk_vdisk_file v10 x7).sure))) < v15 then (IntKind.i64.wrap ((((lk_vdisk_file v10 x7).b).length : Int) - ((lk_vdisk_file v10 x7).sure))) else v15)))).length ((sub ((lk_vdisk_file v10 x7).b) 0 (IntKind.i64.wrap (((lk_vdisk_file v10 x7).sure) + (if (IntKind.i64.wrap ((((lk_vdisk_file v10 x7).b).length : Int) - ((lk_vdisk_file v10 x7).sure))) < v15 then (IntKind.i64.wrap ((((lk_vdisk_file v10 x7).b).length : Int) - ((lk_vdisk_file v10 x7).sure))) else v15)))).flatMap e_u8))))), (1, (si (IntKind.i64.wrap (((lk_vdisk_file v10 x7).sure) + (if (IntKind.i64.wrap ((((lk_vdisk_file v10 x7).b).length : Int) - ((lk_vdisk_file v10 x7).sure))) < v15 then (IntKind.i64.wrap ((((lk_vdisk_file v10 x7).b).length : Int) - ((lk_vdisk_file v10 x7).sure))) else v15)))))]) (cs := [(C.p false (.sl (sub ((lk_vdisk_file v10 x7).b) 0 (IntKind.i64.wrap (((lk_vdisk_file v10 x7).sure) + (if (IntKind.i64.wrap ((((lk_vdisk_file v10 x7).b).length : Int) - ((lk_vdisk_file v10 x7).sure))) < v15 then (IntKind.i64.wrap ((((lk_vdisk_file v10 x7).b).length : Int) - ((lk_vdisk_file v10 x7).sure))) else v15)))).length ((sub ((lk_vdisk_file v10 x7).b) 0 (IntKind.i64.wrap (((lk_vdisk_file v10 x7).sure) + (if (IntKind.i64.wrap ((((lk_vdisk_file v10 x7).b).length : Int) - ((lk_vdisk_file v10 x7).sure))) < v15 then (IntKind.i64.wrap ((((lk_vdisk_file v10 x7).b).length : Int) - ((lk_vdisk_file v10 x7).sure))) else v15)))).flatMap e_u8))), (ci (IntKind.i64.wrap (((lk_vdisk_file v10 x7).sure) + (if (IntKind.i64.wrap ((((lk_vdisk_file v10 x7).b).length : Int) - ((lk_vdisk_file v10 x7).sure))) < v15 then (IntKind.i64.wrap ((((lk_vdisk_file v10 x7).b).length : Int) - ((lk_vdisk_file v10 x7).sure))) else v15))))]) F.z_95 rfl F.so_95 rfl rfl ?_))
      obtain ⟨r17, er17, h⟩ := bnd h
      refine cc [0, 1, 5] [(o_vdisk_Disk_03 false (C.mp 1) (C.opt r17.fuse.isSome 6 0) r17), (om_ e_vdisk_file r17.files), none, (some (AObj.cells true (c_vdisk_file (lk_vdisk_file v10 x7)))), (ow_ e_str r2), none, (some (AObj.cells false [(ci (r17.fuse.getD default))]))] (D.tup []) F.ca_68 rfl rfl (ac (.one (.ref rfl)) (ac (.one .sc) (ac (LendT.aggL (ac .imm (ac .sc an))) an))) (ac (.cells (ac (.mp rfl) (ac .sc (ac .sc (ac (.opt rfl) (ac .sc an)))))) (ac .map (ac (.cells (ac .sc an)) an))) (vdisk_Disk_set.meets _ (⟨x7, x4, x5, x3, x6⟩ : vdisk_Disk) v10 (⟨sub ((lk_vdisk_file v10 x7).b) 0 (IntKind.i64.wrap (((lk_vdisk_file v10 x7).sure) + (if (IntKind.i64.wrap ((((lk_vdisk_file v10 x7).b).length : Int) - ((lk_vdisk_file v10 x7).sure))) < v15 then (IntKind.i64.wrap ((((lk_vdisk_file v10 x7).b).length : Int) - ((lk_vdisk_file v10 x7).sure))) else v15))), IntKind.i64.wrap (((lk_vdisk_file v10 x7).sure) + (if (IntKind.i64.wrap ((((lk_vdisk_file v10 x7).b).length : Int) - ((lk_vdisk_file v10 x7).sure))) < v15 then (IntKind.i64.wrap ((((lk_vdisk_file v10 x7).b).length : Int) - ((lk_vdisk_file v10 x7).sure))) else v15))⟩ : vdisk_file) r17 er17) (AWops.nil (AW.region ?_))
      refine s_binI (v := (.int .i64 (IntKind.i64.wrap (x8 + 1)))) rfl rfl rfl (s_move (d := (si (IntKind.i64.wrap (x8 + 1)))) rfl (AWops.nil ?_))
      exact ⟨_, ⟨69, (upd 69 (upd 69 (upd 69 (upd 69 (upd 69 topF 0 (rf 0 0)) 1 (D.one (C.p false (.sl a1.length (a1.flatMap e_i64))))) 12 (D.one (C.own 3 0 r2.length 1))) 13 (si (r2.length : Int))) 14 (si (IntKind.i64.wrap (x8 + 1)))), [(some (AObj.cells false [(C.mp 1), (ci r17.room), (ci r17.used), (C.opt r17.fuse.isSome 4 0), (cb r17.dead)])), (om_ e_vdisk_file r17.files), none, (ow_ e_str r2), (some (AObj.cells false [(ci (r17.fuse.getD default))]))]⟩, by omega, (wG 3 [0, 1, 2, 4, 6] []), by omega, r17.fuse, r17.room, r17.used, r17.dead, r17.files, IntKind.i64.wrap (x8 + 1), h, rfl⟩
    ·refine AW.cond_no rfl c14 (AW.skip (AW.region ?_))
     refine s_move (d := (rf 0 0)) rfl (s_move (d := (st_ v10)) rfl (s_fieldRef F.fo_95_0 (by decide) rfl (s_load1 (c' := (C.p false (.sl ((lk_vdisk_file v10 x7).b).length (((lk_vdisk_file v10 x7).b).flatMap e_u8)))) F.ag_22 rfl rfl (s_move (d := (si ((lk_vdisk_file v10 x7).sure))) rfl (s_move (d := (si ((lk_vdisk_file v10 x7).sure))) rfl ?_)))))
     obtain ⟨c18, h⟩ := gdH h
     have dc18 := of_decide_eq_true c18
     refine t_slice3Imm F.u_22 F.sz_5 e_u8_len rfl rfl rfl (by omega) (by omega) (s_move (d := (si ((lk_vdisk_file v10 x7).sure))) rfl (s_build (ps := [(0, (D.one (C.p false (.sl (sub ((lk_vdisk_file v10 x7).b) 0 ((lk_vdisk_file v10 x7).sure)).length ((sub ((lk_vdisk_file v10 x7).b) 0 ((lk_vdisk_file v10 x7).sure)).flatMap e_u8))))), (1, (si ((lk_vdisk_file v10 x7).sure)))]) (cs := [(C.p false (.sl (sub ((lk_vdisk_file v10 x7).b) 0 ((lk_vdisk_file v10 x7).sure)).length ((sub ((lk_vdisk_file v10 x7).b) 0 ((lk_vdisk_file v10 x7).sure)).flatMap e_u8))), (ci ((lk_vdisk_file v10 x7).sure))]) F.z_95 rfl F.so_95 rfl rfl ?_))
     obtain ⟨r19, er19, h⟩ := bnd h
     refine cc [0, 1, 4] [(o_vdisk_Disk_03 false (C.mp 1) (C.opt r19.fuse.isSome 6 0) r19), (om_ e_vdisk_file r19.files), none, (ow_ e_str r2), none, (some (AObj.cells true (c_vdisk_file (lk_vdisk_file v10 x7)))), (some (AObj.cells false [(ci (r19.fuse.getD default))]))] (D.tup []) F.ca_68 rfl rfl (ac (.one (.ref rfl)) (ac (.one .sc) (ac (LendT.aggL (ac .imm (ac .sc an))) an))) (ac (.cells (ac (.mp rfl) (ac .sc (ac .sc (ac (.opt rfl) (ac .sc an)))))) (ac .map (ac (.cells (ac .sc an)) an))) (vdisk_Disk_set.meets _ (⟨x7, x4, x5, x3, x6⟩ : vdisk_Disk) v10 (⟨sub ((lk_vdisk_file v10 x7).b) 0 ((lk_vdisk_file v10 x7).sure), (lk_vdisk_file v10 x7).sure⟩ : vdisk_file) r19 er19) (AWops.nil (AW.region ?_))
     refine s_binI (v := (.int .i64 (IntKind.i64.wrap (x8 + 1)))) rfl rfl rfl (s_move (d := (si (IntKind.i64.wrap (x8 + 1)))) rfl (AWops.nil ?_))
     exact ⟨_, ⟨69, (upd 69 (upd 69 (upd 69 (upd 69 (upd 69 topF 0 (rf 0 0)) 1 (D.one (C.p false (.sl a1.length (a1.flatMap e_i64))))) 12 (D.one (C.own 3 0 r2.length 1))) 13 (si (r2.length : Int))) 14 (si (IntKind.i64.wrap (x8 + 1)))), [(some (AObj.cells false [(C.mp 1), (ci r19.room), (ci r19.used), (C.opt r19.fuse.isSome 4 0), (cb r19.dead)])), (om_ e_vdisk_file r19.files), none, (ow_ e_str r2), (some (AObj.cells false [(ci (r19.fuse.getD default))]))]⟩, by omega, (wG 3 [0, 1, 2, 3, 6] []), by omega, r19.fuse, r19.room, r19.used, r19.dead, r19.files, IntKind.i64.wrap (x8 + 1), h, rfl⟩
   ·iterate 5 refine AWops.guard_no rfl (nl rfl) rfl c12 ?_
    refine s_pick_no (d := (sb false)) rfl c12 rfl (AWops.nil ?_)
    refine AW.cond_no rfl rfl (AW.skip (AW.region ?_))
    refine s_move (d := (rf 0 0)) rfl (s_move (d := (st_ v10)) rfl (s_fieldRef F.fo_95_0 (by decide) rfl (s_load1 (c' := (C.p false (.sl ((lk_vdisk_file v10 x7).b).length (((lk_vdisk_file v10 x7).b).flatMap e_u8)))) F.ag_22 rfl rfl (s_move (d := (si ((lk_vdisk_file v10 x7).sure))) rfl (s_move (d := (si ((lk_vdisk_file v10 x7).sure))) rfl ?_)))))
    obtain ⟨c20, h⟩ := gdH h
    have dc20 := of_decide_eq_true c20
    refine t_slice3Imm F.u_22 F.sz_5 e_u8_len rfl rfl rfl (by omega) (by omega) (s_move (d := (si ((lk_vdisk_file v10 x7).sure))) rfl (s_build (ps := [(0, (D.one (C.p false (.sl (sub ((lk_vdisk_file v10 x7).b) 0 ((lk_vdisk_file v10 x7).sure)).length ((sub ((lk_vdisk_file v10 x7).b) 0 ((lk_vdisk_file v10 x7).sure)).flatMap e_u8))))), (1, (si ((lk_vdisk_file v10 x7).sure)))]) (cs := [(C.p false (.sl (sub ((lk_vdisk_file v10 x7).b) 0 ((lk_vdisk_file v10 x7).sure)).length ((sub ((lk_vdisk_file v10 x7).b) 0 ((lk_vdisk_file v10 x7).sure)).flatMap e_u8))), (ci ((lk_vdisk_file v10 x7).sure))]) F.z_95 rfl F.so_95 rfl rfl ?_))
    obtain ⟨r21, er21, h⟩ := bnd h
    refine cc [0, 1, 4] [(o_vdisk_Disk_03 false (C.mp 1) (C.opt r21.fuse.isSome 6 0) r21), (om_ e_vdisk_file r21.files), none, (ow_ e_str r2), none, (some (AObj.cells true (c_vdisk_file (lk_vdisk_file v10 x7)))), (some (AObj.cells false [(ci (r21.fuse.getD default))]))] (D.tup []) F.ca_68 rfl rfl (ac (.one (.ref rfl)) (ac (.one .sc) (ac (LendT.aggL (ac .imm (ac .sc an))) an))) (ac (.cells (ac (.mp rfl) (ac .sc (ac .sc (ac (.opt rfl) (ac .sc an)))))) (ac .map (ac (.cells (ac .sc an)) an))) (vdisk_Disk_set.meets _ (⟨x7, x4, x5, x3, x6⟩ : vdisk_Disk) v10 (⟨sub ((lk_vdisk_file v10 x7).b) 0 ((lk_vdisk_file v10 x7).sure), (lk_vdisk_file v10 x7).sure⟩ : vdisk_file) r21 er21) (AWops.nil (AW.region ?_))
    refine s_binI (v := (.int .i64 (IntKind.i64.wrap (x8 + 1)))) rfl rfl rfl (s_move (d := (si (IntKind.i64.wrap (x8 + 1)))) rfl (AWops.nil ?_))
    exact ⟨_, ⟨69, (upd 69 (upd 69 (upd 69 (upd 69 (upd 69 topF 0 (rf 0 0)) 1 (D.one (C.p false (.sl a1.length (a1.flatMap e_i64))))) 12 (D.one (C.own 3 0 r2.length 1))) 13 (si (r2.length : Int))) 14 (si (IntKind.i64.wrap (x8 + 1)))), [(some (AObj.cells false [(C.mp 1), (ci r21.room), (ci r21.used), (C.opt r21.fuse.isSome 4 0), (cb r21.dead)])), (om_ e_vdisk_file r21.files), none, (ow_ e_str r2), (some (AObj.cells false [(ci (r21.fuse.getD default))]))]⟩, by omega, (wG 3 [0, 1, 2, 3, 6] []), by omega, r21.fuse, r21.room, r21.used, r21.dead, r21.files, IntKind.i64.wrap (x8 + 1), h, rfl⟩
  ·refine AW.cond_no rfl c9 (AW.exit (AW.seq (AW.region ?_)))
   refine s_move (d := (rf 0 0)) rfl (s_move (d := (rf 0 0)) rfl (s_nilCheck (d := (rf 0 0)) rfl (.inl ⟨_, _, rfl⟩) (s_fieldRef F.fo_49_4 (by decide) rfl (s_store (cs' := [(C.mp 1), (ci x4), (ci x5), (C.opt x3.isSome 4 0), (cb false)]) rfl rfl rfl (List.cons_ne_nil _ _) rfl F.sz_4 (nl rfl) rfl (s_nilCheck (d := (rf 0 0)) rfl (.inl ⟨_, _, rfl⟩) ?_)))))
   refine s_fieldRef F.fo_49_3 (by decide) rfl (s_store (cs' := [(C.mp 1), (ci x4), (ci x5), (C.p true (.v (.pointer none))), (cb false)]) rfl rfl rfl (List.cons_ne_nil _ _) rfl F.sz_47 (nl rfl) rfl (AWops.nil (AW.seq (AW.region (s_assign (d := (si 0)) rfl (AWops.nil (AW.ret ?_)))))))
   obtain rfl := Option.some.inj h
   exact ⟨_, rfl, (Weak.trans (Weak.virt true [(ci (default : Int))]) (wG 3 [0, 1, 2, 5] []))⟩
def vdisk_Disk_Room.f (k : Nat) (p0 : vdisk_Disk) (a1 : Int) : Option (Int × vdisk_Disk) := (vdisk_Disk_none.f k p0).bind fun r1 => if (decide (a1 < 0)) = true then (some (1, p0)) else (if (decide (a1 > 4194304)) = true then (some (1, p0)) else (some (0, (⟨p0.files, a1, p0.used, p0.fuse, p0.dead⟩ : vdisk_Disk))))
theorem vdisk_Disk_Room.meets (k : Nat) (p0 : vdisk_Disk) (a1 : Int) (r : Int × vdisk_Disk) (h : vdisk_Disk_Room.f k p0 a1 = some r) : Meets Try.prog 46 [(rf 0 0), (si a1)] [(o_vdisk_Disk_03 false (C.mp 1) (C.opt p0.fuse.isSome 2 0) p0), (om_ e_vdisk_file p0.files), (some (AObj.cells false [(ci (p0.fuse.getD default))]))] (si r.1) [(o_vdisk_Disk_03 false (C.mp 1) (C.opt r.2.fuse.isSome 3 0) r.2), (om_ e_vdisk_file r.2.files), none, (some (AObj.cells false [(ci (r.2.fuse.getD default))]))] := by
 unfold vdisk_Disk_Room.f at h
 refine Meets.of_body (n := 19) Try.func46 rfl rfl (nl rfl) fun x hx => ?_
 replace hx : x.k = 3 := hx
 show AW _ x _ _ ⟨19, fr0 [(rf 0 0), (si a1)], [(o_vdisk_Disk_03 false (C.mp 1) (C.opt p0.fuse.isSome 2 0) p0), (om_ e_vdisk_file p0.files), (some (AObj.cells false [(ci (p0.fuse.getD default))]))]⟩
 refine AW.weak (st' := ⟨19, (upd 19 (upd 19 topF 0 (rf 0 0)) 1 (si a1)), [(o_vdisk_Disk_03 false (C.mp 1) (C.opt p0.fuse.isSome 3 0) p0), (om_ e_vdisk_file p0.files), none, (some (AObj.cells false [(ci (p0.fuse.getD default))]))]⟩) (Weak.genL (kk := 3) [0, 1, 2, 2] [] hx rfl (by decide) rfl rfl rfl rfl (le_upd (le_upd (le_top _) (o1 (.ref rfl))) (o1 .sc)) (ac (.cells id (ac (.mp rfl) (ac .sc (ac .sc (ac (.opt rfl) (ac .sc an)))))) (ac .map (ac (.none _) (ac (.cells id (ac .sc an)) an))))) (AW.seq (AW.region ?_))
 refine s_assign (d := (si 0)) rfl (AWops.nil (AW.seq (AW.block (AW.seq (AW.region ?_)))))
 refine s_move (d := (rf 0 0)) rfl ?_
 obtain ⟨r1, er1, h⟩ := bnd h
 have kr1 := vdisk_Disk_none.const er1
 subst kr1
 refine cc [0, 1, 3] [(o_vdisk_Disk_03 false (C.mp 1) (C.opt p0.fuse.isSome 4 0) p0), (om_ e_vdisk_file p0.files), none, none, (some (AObj.cells false [(ci (p0.fuse.getD default))]))] (sb false) F.ca_61 rfl rfl (ac (.one (.ref rfl)) an) (ac (.cells (ac (.mp rfl) (ac .sc (ac .sc (ac (.opt rfl) (ac .sc an)))))) (ac .map (ac (.cells (ac .sc an)) an))) (vdisk_Disk_none.meets _ p0 false er1) (s_assign (d := (sb false)) rfl (AWops.nil ?_))
 refine AW.cond_no rfl rfl (AW.seq (AW.region ?_))
 refine s_move (d := (si a1)) rfl (s_binI (v := (.bool (decide (a1 < 0)))) rfl rfl rfl (s_move (d := (sb (decide (a1 < 0)))) rfl ?_))
 rcases itH h with ⟨c2, h⟩ | ⟨c2, h⟩
 ·refine AWops.guard_no rfl (nl rfl) rfl c2 ?_
  refine AWops.guard_no rfl (nl rfl) rfl c2 ?_
  refine s_pick_yes (d := (sb true)) rfl c2 rfl (s_assign (d := (sb true)) rfl (AWops.nil ?_))
  refine AW.cond_yes rfl rfl (AW.seq (AW.region ?_))
  refine s_assign (d := (si 1)) rfl (AWops.nil (AW.ret ?_))
  obtain rfl := Option.some.inj h
  exact ⟨_, rfl, (wG 3 [0, 1, 2, 4] [])⟩
 ·refine AWops.guard_yes rfl (nl rfl) rfl c2 ?_
  refine s_move (d := (si a1)) rfl ?_
  refine AWops.guard_yes rfl (nl rfl) rfl c2 ?_
  refine s_binI (v := (.bool (decide (a1 > 4194304)))) rfl rfl rfl (s_pick_no (d := (sb (decide (a1 > 4194304)))) rfl c2 rfl (s_assign (d := (sb (decide (a1 > 4194304)))) rfl (AWops.nil ?_)))
  rcases itH h with ⟨c3, h⟩ | ⟨c3, h⟩
  ·refine AW.cond_yes rfl c3 (AW.seq (AW.region ?_))
   refine s_assign (d := (si 1)) rfl (AWops.nil (AW.ret ?_))
   obtain rfl := Option.some.inj h
   exact ⟨_, rfl, (wG 3 [0, 1, 2, 4] [])⟩
  ·refine AW.cond_no rfl c3 (AW.skip (AW.seq (AW.region ?_)))
   refine s_move (d := (rf 0 0)) rfl (s_move (d := (si a1)) rfl (s_nilCheck (d := (rf 0 0)) rfl (.inl ⟨_, _, rfl⟩) (s_fieldRef F.fo_49_1 (by decide) rfl (s_store (cs' := [(C.mp 1), (ci a1), (ci p0.used), (C.opt p0.fuse.isSome 4 0), (cb p0.dead)]) rfl rfl rfl (List.cons_ne_nil _ _) rfl F.sz_3 (nl rfl) rfl (AWops.nil (AW.seq (AW.region (s_assign (d := (si 0)) rfl (AWops.nil (AW.ret ?_))))))))))
   obtain rfl := Option.some.inj h
   exact ⟨_, rfl, (wG 3 [0, 1, 2, 4] [])⟩
def dossierref03_Disk_Room.f (k : Nat) (p0 : dossierref03_Disk) (a1 : Int) : Option (Int × dossierref03_Disk) := if (decide (a1 < 0)) = true then (some (1, p0)) else (if (decide (a1 > 4194304)) = true then (some (1, p0)) else (some (0, (⟨p0.L, a1, p0.Burns, p0.Off⟩ : dossierref03_Disk))))
theorem dossierref03_Disk_Room.meets (k : Nat) (p0 : dossierref03_Disk) (a1 : Int) (r : Int × dossierref03_Disk) (h : dossierref03_Disk_Room.f k p0 a1 = some r) : Meets Try.prog 47 [(rf 0 0), (si a1)] [(o_dossierref03_Disk_0 false (C.own 1 0 p0.L.length 3) p0), (or_ e_dossierref03_File p0.L)] (si r.1) [(o_dossierref03_Disk_0 false (C.own 1 0 r.2.L.length 3) r.2), (or_ e_dossierref03_File r.2.L)] := by
 unfold dossierref03_Disk_Room.f at h
 refine Meets.of_body (n := 15) Try.func47 rfl rfl (nl rfl) fun x hx => ?_
 replace hx : x.k = 2 := hx
 show AW _ x _ _ ⟨15, fr0 [(rf 0 0), (si a1)], [(o_dossierref03_Disk_0 false (C.own 1 0 p0.L.length 3) p0), (or_ e_dossierref03_File p0.L)]⟩
 refine AW.seq (AW.region ?_)
 refine s_assign (d := (si 0)) rfl (AWops.nil (AW.seq (AW.seq (AW.region ?_))))
 refine s_move (d := (si a1)) rfl (s_binI (v := (.bool (decide (a1 < 0)))) rfl rfl rfl (s_move (d := (sb (decide (a1 < 0)))) rfl ?_))
 rcases itH h with ⟨c1, h⟩ | ⟨c1, h⟩
 ·refine AWops.guard_no rfl (nl rfl) rfl c1 ?_
  refine AWops.guard_no rfl (nl rfl) rfl c1 ?_
  refine s_pick_yes (d := (sb true)) rfl c1 rfl (AWops.nil ?_)
  refine AW.cond_yes rfl rfl (AW.seq (AW.region ?_))
  refine s_assign (d := (si 1)) rfl (AWops.nil (AW.ret ?_))
  obtain rfl := Option.some.inj h
  exact ⟨_, rfl, (wG 2 [0, 1] [])⟩
 ·refine AWops.guard_yes rfl (nl rfl) rfl c1 ?_
  refine s_move (d := (si a1)) rfl ?_
  refine AWops.guard_yes rfl (nl rfl) rfl c1 ?_
  refine s_binI (v := (.bool (decide (a1 > 4194304)))) rfl rfl rfl (s_pick_no (d := (sb (decide (a1 > 4194304)))) rfl c1 rfl (AWops.nil ?_))
  rcases itH h with ⟨c2, h⟩ | ⟨c2, h⟩
  ·refine AW.cond_yes rfl c2 (AW.seq (AW.region ?_))
   refine s_assign (d := (si 1)) rfl (AWops.nil (AW.ret ?_))
   obtain rfl := Option.some.inj h
   exact ⟨_, rfl, (wG 2 [0, 1] [])⟩
  ·refine AW.cond_no rfl c2 (AW.skip (AW.seq (AW.region ?_)))
   refine s_move (d := (rf 0 0)) rfl (s_move (d := (si a1)) rfl (s_nilCheck (d := (rf 0 0)) rfl (.inl ⟨_, _, rfl⟩) (s_fieldRef F.fo_52_1 (by decide) rfl (s_store (cs' := [(C.own 1 0 p0.L.length 3), (ci a1), (ci p0.Burns), (cb p0.Off)]) rfl rfl rfl (List.cons_ne_nil _ _) rfl F.sz_3 (nl rfl) rfl (AWops.nil (AW.seq (AW.region (s_assign (d := (si 0)) rfl (AWops.nil (AW.ret ?_))))))))))
   obtain rfl := Option.some.inj h
   exact ⟨_, rfl, (wG 2 [0, 1] [])⟩
mutual
def dossierplain_Step_Do_12.j0 : Nat → Bool → dossierplain_Step → vdisk_Disk → dossierref03_Disk → Option (Bool × vdisk_Disk × dossierref03_Disk)
 | 0, _, _, _, _ => none
 | k + 1, x2, a0, p0, p1 => if x2 = true then ((bytes_Clone.f k a0.B).bind fun r4 => (vdisk_Disk_Append.f k p0 a0.Name r4).bind fun r5 => (dossierplain_Spoil.f k () r4).bind fun r6 => (dossierref03_Disk_Append_36.f k p1 a0.Name a0.B).bind fun r7 => some ((r5.1 == r7.1), r5.2, r7.2)) else (if ((IntKind.i64.wrap (Int.tmod (IntKind.u64.wrap a0.Op) 9)) == 2) = true then ((vdisk_Disk_Sync.f k p0 a0.Name).bind fun r9 => (dossierref03_Disk_Sync_38.f k p1 a0.Name).bind fun r10 => some ((r9.1 == r10.1), r9.2, r10.2)) else (if ((IntKind.i64.wrap (Int.tmod (IntKind.u64.wrap a0.Op) 9)) == 3) = true then ((vdisk_Disk_Rename.f k p0 a0.Name a0.To).bind fun r12 => (dossierref03_Disk_Rename_40.f k p1 a0.Name a0.To).bind fun r13 => some ((r12.1 == r13.1), r12.2, r13.2)) else (if ((IntKind.i64.wrap (Int.tmod (IntKind.u64.wrap a0.Op) 9)) == 4) = true then ((vdisk_Disk_Truncate.f k p0 a0.Name a0.N).bind fun r15 => (dossierref03_Disk_Truncate_32.f k p1 a0.Name a0.N).bind fun r16 => some ((r15.1 == r16.1), r15.2, r16.2)) else (if ((IntKind.i64.wrap (Int.tmod (IntKind.u64.wrap a0.Op) 9)) == 5) = true then ((vdisk_Disk_Remove.f k p0 a0.Name).bind fun r18 => (dossierref03_Disk_Remove_29.f k p1 a0.Name).bind fun r19 => some ((r18.1 == r19.1), r18.2, r19.2)) else (if ((IntKind.i64.wrap (Int.tmod (IntKind.u64.wrap a0.Op) 9)) == 6) = true then ((vdisk_Disk_Fuse.f k p0 a0.N).bind fun r21 => (dossierref03_Disk_Fuse.f k p1 a0.N).bind fun r22 => some ((r21.1 == r22.1), r21.2, r22.2)) else (if ((IntKind.i64.wrap (Int.tmod (IntKind.u64.wrap a0.Op) 9)) == 7) = true then ((dossierref03_Disk_Crash_44.f k p1 a0.Keeps).bind fun r24 => (vdisk_Disk_Crash.f k p0 a0.Keeps).bind fun r25 => some ((r25.1 == 0), r25.2, r24)) else ((vdisk_Disk_Room.f k p0 a0.N).bind fun r26 => (dossierref03_Disk_Room.f k p1 a0.N).bind fun r27 => some ((r26.1 == r27.1), r26.2, r27.2))))))))
end
def dossierplain_Step_Do_12.f (k : Nat) (a0 : dossierplain_Step) (p0 : vdisk_Disk) (p1 : dossierref03_Disk) : Option (Bool × vdisk_Disk × dossierref03_Disk) := if ((IntKind.i64.wrap (Int.tmod (IntKind.u64.wrap a0.Op) 9)) == 0) = true then (dossierplain_Step_Do_12.j0 k ((IntKind.i64.wrap (Int.tmod (IntKind.u64.wrap a0.Op) 9)) == 0) a0 p0 p1) else (dossierplain_Step_Do_12.j0 k ((IntKind.i64.wrap (Int.tmod (IntKind.u64.wrap a0.Op) 9)) == 1) a0 p0 p1)
theorem dossierplain_Step_Do_12.meets (k : Nat) (a0 : dossierplain_Step) (p0 : vdisk_Disk) (p1 : dossierref03_Disk) (r : Bool × vdisk_Disk × dossierref03_Disk) (h : dossierplain_Step_Do_12.f k a0 p0 p1 = some r) : Meets Try.prog 12 [(D.agg (c_dossierplain_Step a0)), (rf 0 0), (rf 1 0)] [(o_vdisk_Disk_03 false (C.mp 2) (C.opt p0.fuse.isSome 3 0) p0), (o_dossierref03_Disk_0 false (C.own 4 0 p1.L.length 3) p1), (om_ e_vdisk_file p0.files), (some (AObj.cells false [(ci (p0.fuse.getD default))])), (or_ e_dossierref03_File p1.L)] (sb r.1) [(o_vdisk_Disk_03 false (C.mp 2) (C.opt r.2.1.fuse.isSome 5 0) r.2.1), (o_dossierref03_Disk_0 false (C.own 6 0 r.2.2.L.length 3) r.2.2), (om_ e_vdisk_file r.2.1.files), none, none, (some (AObj.cells false [(ci (r.2.1.fuse.getD default))])), (or_ e_dossierref03_File r.2.2.L)] := by
 unfold dossierplain_Step_Do_12.f at h
 refine Meets.of_body (n := 119) Try.func12 rfl rfl (nl rfl) fun x hx => ?_
 replace hx : x.k = 5 := hx
 show AW _ x _ _ ⟨119, fr0 [(D.agg (c_dossierplain_Step a0)), (rf 0 0), (rf 1 0)], [(o_vdisk_Disk_03 false (C.mp 2) (C.opt p0.fuse.isSome 3 0) p0), (o_dossierref03_Disk_0 false (C.own 4 0 p1.L.length 3) p1), (om_ e_vdisk_file p0.files), (some (AObj.cells false [(ci (p0.fuse.getD default))])), (or_ e_dossierref03_File p1.L)]⟩
 refine AW.weak (st' := ⟨119, (upd 119 (upd 119 (upd 119 topF 0 (D.agg (c_dossierplain_Step a0))) 1 (rf 0 0)) 2 (rf 1 0)), [(o_vdisk_Disk_03 false (C.mp 2) (C.opt p0.fuse.isSome 5 0) p0), (o_dossierref03_Disk_0 false (C.own 6 0 p1.L.length 3) p1), (om_ e_vdisk_file p0.files), none, none, (some (AObj.cells false [(ci (p0.fuse.getD default))])), (or_ e_dossierref03_File p1.L)]⟩) (Weak.genL (kk := 5) [0, 1, 2, 3, 4, 3, 4] [] hx rfl (by decide) rfl rfl rfl rfl (le_upd (le_upd (le_upd (le_top _) (.t (.agg (ac .sc (ac .sc (ac .sc (ac .sc (ac .same (ac .same an))))))))) (o1 (.ref rfl))) (o1 (.ref rfl))) (ac (.cells id (ac (.mp rfl) (ac .sc (ac .sc (ac (.opt rfl) (ac .sc an)))))) (ac (.cells id (ac (.own rfl) (ac .sc (ac .sc (ac .sc an))))) (ac .map (ac (.none _) (ac (.none _) (ac (.cells id (ac .sc an)) (ac (.cells id (all2_row _)) an)))))))) (AW.seq (AW.region ?_))
 refine s_box (cs := (c_dossierplain_Step a0)) rfl (List.cons_ne_nil _ _) rfl (s_assign (d := (sb false)) rfl (AWops.nil (AW.seq (AW.seq (AW.region (s_fieldRef F.fo_40_0 (by decide) rfl (s_load1 (c' := (ci a0.Op)) F.ag_3 rfl rfl (s_convI F.u_3 F.u_24 rfl (s_binI (v := (.int .u64 (Int.tmod (IntKind.u64.wrap a0.Op) 9))) rfl rfl rfl ?_)))))))))
 refine s_convI F.u_24 F.u_3 rfl (AWops.nil (AW.block ?_))
 refine AW.seqJ (fun st => ∃ (x2 : Bool), dossierplain_Step_Do_12.j0 k x2 a0 p0 p1 = some r ∧ st = ⟨119, (upd 119 (upd 119 (upd 119 (upd 119 (upd 119 topF 1 (rf 0 0)) 2 (rf 1 0)) 3 (rf 5 0)) 13 (si (IntKind.i64.wrap (Int.tmod (IntKind.u64.wrap a0.Op) 9)))) 14 (sb x2)), [(o_vdisk_Disk_03 false (C.mp 2) (C.opt p0.fuse.isSome 6 0) p0), (o_dossierref03_Disk_0 false (C.own 7 0 p1.L.length 3) p1), (om_ e_vdisk_file p0.files), none, none, (some (AObj.cells true (c_dossierplain_Step a0))), (some (AObj.cells false [(ci (p0.fuse.getD default))])), (or_ e_dossierref03_File p1.L)]⟩) ?_ ?_
 ·refine AW.seq (AW.region ?_)
  refine s_binI (v := (.bool ((IntKind.i64.wrap (Int.tmod (IntKind.u64.wrap a0.Op) 9)) == 0))) rfl rfl rfl (s_assign (d := (sb ((IntKind.i64.wrap (Int.tmod (IntKind.u64.wrap a0.Op) 9)) == 0))) rfl (AWops.nil ?_))
  rcases itH h with ⟨c1, h⟩ | ⟨c1, h⟩
  ·refine AW.cond_yes rfl c1 (AW.skip ?_)
   exact ⟨⟨119, (upd 119 (upd 119 (upd 119 (upd 119 (upd 119 topF 1 (rf 0 0)) 2 (rf 1 0)) 3 (rf 5 0)) 13 (si (IntKind.i64.wrap (Int.tmod (IntKind.u64.wrap a0.Op) 9)))) 14 (sb ((IntKind.i64.wrap (Int.tmod (IntKind.u64.wrap a0.Op) 9)) == 0))), [(o_vdisk_Disk_03 false (C.mp 2) (C.opt p0.fuse.isSome 6 0) p0), (o_dossierref03_Disk_0 false (C.own 7 0 p1.L.length 3) p1), (om_ e_vdisk_file p0.files), none, none, (some (AObj.cells true (c_dossierplain_Step a0))), (some (AObj.cells false [(ci (p0.fuse.getD default))])), (or_ e_dossierref03_File p1.L)]⟩, (wG 5 [0, 1, 2, 3, 4, 7, 5, 6] []), ((IntKind.i64.wrap (Int.tmod (IntKind.u64.wrap a0.Op) 9)) == 0), h, rfl⟩
  ·refine AW.cond_no rfl c1 (AW.region ?_)
   refine s_binI (v := (.bool ((IntKind.i64.wrap (Int.tmod (IntKind.u64.wrap a0.Op) 9)) == 1))) rfl rfl rfl (s_assign (d := (sb ((IntKind.i64.wrap (Int.tmod (IntKind.u64.wrap a0.Op) 9)) == 1))) rfl (AWops.nil ?_))
   exact ⟨⟨119, (upd 119 (upd 119 (upd 119 (upd 119 (upd 119 topF 1 (rf 0 0)) 2 (rf 1 0)) 3 (rf 5 0)) 13 (si (IntKind.i64.wrap (Int.tmod (IntKind.u64.wrap a0.Op) 9)))) 14 (sb ((IntKind.i64.wrap (Int.tmod (IntKind.u64.wrap a0.Op) 9)) == 1))), [(o_vdisk_Disk_03 false (C.mp 2) (C.opt p0.fuse.isSome 6 0) p0), (o_dossierref03_Disk_0 false (C.own 7 0 p1.L.length 3) p1), (om_ e_vdisk_file p0.files), none, none, (some (AObj.cells true (c_dossierplain_Step a0))), (some (AObj.cells false [(ci (p0.fuse.getD default))])), (or_ e_dossierref03_File p1.L)]⟩, (wG 5 [0, 1, 2, 3, 4, 7, 5, 6] []), ((IntKind.i64.wrap (Int.tmod (IntKind.u64.wrap a0.Op) 9)) == 1), h, rfl⟩
 ·rintro st ⟨x2, h, rfl⟩
  cases k with
  | zero => exact absurd h (by simp [dossierplain_Step_Do_12.j0])
  | succ qj0 =>
   replace h := (dossierplain_Step_Do_12.j0.eq_2 _ _ _ _ _).symm.trans h
   rcases itH h with ⟨c3, h⟩ | ⟨c3, h⟩
   ·refine AW.cond_yes rfl c3 (AW.seq (AW.region ?_))
    refine s_fieldRef F.fo_40_4 (by decide) rfl (s_load1 (c' := (C.p false (.sl a0.B.length (a0.B.flatMap e_u8)))) F.ag_22 rfl rfl ?_)
    obtain ⟨r4, er4, h⟩ := bnd h
    refine cc [] [(o_vdisk_Disk_03 false (C.mp 2) (C.opt p0.fuse.isSome 6 0) p0), (o_dossierref03_Disk_0 false (C.own 7 0 p1.L.length 3) p1), (om_ e_vdisk_file p0.files), none, none, (some (AObj.cells true (c_dossierplain_Step a0))), (some (AObj.cells false [(ci (p0.fuse.getD default))])), (or_ e_dossierref03_File p1.L), (ow_ e_u8 r4)] (D.one (C.own 8 0 r4.length 1)) F.ca_33 rfl rfl (ac (.one .imm) an) an (bytes_Clone.meets _ a0.B r4 er4) (s_assign (d := (D.one (C.own 8 0 r4.length 1))) rfl (AWops.nil (AW.seq (AW.region (s_move (d := (rf 0 0)) rfl (s_fieldRef F.fo_40_2 (by decide) rfl (s_load1 (c' := (ct a0.Name)) F.ag_9 rfl rfl (s_move (d := (D.one (C.own 8 0 r4.length 1))) rfl ?_))))))))
    obtain ⟨r5, er5, h⟩ := bnd h
    refine cc [0, 8, 2, 6] [(o_vdisk_Disk_03 false (C.mp 2) (C.opt r5.2.fuse.isSome 9 0) r5.2), (o_dossierref03_Disk_0 false (C.own 7 0 p1.L.length 3) p1), (om_ e_vdisk_file r5.2.files), none, none, (some (AObj.cells true (c_dossierplain_Step a0))), none, (or_ e_dossierref03_File p1.L), (ow_ e_u8 r4), (some (AObj.cells false [(ci (r5.2.fuse.getD default))]))] (si r5.1) F.ca_34 rfl rfl (ac (.one (.ref rfl)) (ac (.one .sc) (ac (.one (.own rfl)) an))) (ac (.cells (ac (.mp rfl) (ac .sc (ac .sc (ac (.opt rfl) (ac .sc an)))))) (ac (.cells (lend_row _)) (ac .map (ac (.cells (ac .sc an)) an)))) (vdisk_Disk_Append.meets _ p0 a0.Name r4 r5 er5) (s_assign (d := (si r5.1)) rfl (AWops.nil (AW.seq (AW.region (s_move (d := (D.one (C.own 8 0 r4.length 1))) rfl (s_buildSlice (n := 1) (ps := [(0, (D.one (C.own 8 0 r4.length 1)))]) (cs := [(C.own 8 0 r4.length 1)]) F.u_61 F.sz_22 F.z_22 rfl rfl (by decide) (by decide) rfl rfl ?_))))))
    obtain ⟨r6, er6, h⟩ := bnd h
    refine cc [10, 8] [(o_vdisk_Disk_03 false (C.mp 2) (C.opt r5.2.fuse.isSome 9 0) r5.2), (o_dossierref03_Disk_0 false (C.own 7 0 p1.L.length 3) p1), (om_ e_vdisk_file r5.2.files), none, none, (some (AObj.cells true (c_dossierplain_Step a0))), none, (or_ e_dossierref03_File p1.L), (ow_ e_u8 r6), (some (AObj.cells false [(ci (r5.2.fuse.getD default))])), (some (AObj.cells true [(C.own 8 0 r6.length 1)]))] (D.tup []) F.ca_35 rfl rfl (ac (.one (.own rfl)) an) (ac (.cells (ac (.own rfl) an)) (ac (.cells (lend_row _)) an)) (dossierplain_Spoil.meets _ () r4 r6 er6) (AWops.nil (AW.seq (AW.region ?_)))
    refine s_move (d := (si r5.1)) rfl (s_move (d := (rf 1 0)) rfl (s_fieldRef F.fo_40_2 (by decide) rfl (s_load1 (c' := (ct a0.Name)) F.ag_9 rfl rfl (s_fieldRef F.fo_40_4 (by decide) rfl (s_load1 (c' := (C.p false (.sl a0.B.length (a0.B.flatMap e_u8)))) F.ag_22 rfl rfl ?_)))))
    obtain ⟨r7, er7, h⟩ := bnd h
    refine cc [1, 7] [(o_vdisk_Disk_03 false (C.mp 2) (C.opt r5.2.fuse.isSome 9 0) r5.2), (o_dossierref03_Disk_0 false (C.own 11 0 r7.2.L.length 3) r7.2), (om_ e_vdisk_file r5.2.files), none, none, (some (AObj.cells true (c_dossierplain_Step a0))), none, none, (ow_ e_u8 r6), (some (AObj.cells false [(ci (r5.2.fuse.getD default))])), (some (AObj.cells true [(C.own 8 0 r6.length 1)])), (or_ e_dossierref03_File r7.2.L)] (si r7.1) F.ca_36 rfl rfl (ac (.one (.ref rfl)) (ac (.one .sc) (ac (.one .imm) an))) (ac (.cells (ac (.own rfl) (ac .sc (ac .sc (ac .sc an))))) (ac (.cells (lend_row _)) an)) (dossierref03_Disk_Append_36.meets _ p1 a0.Name a0.B r7 er7) (s_binI (v := (.bool (r5.1 == r7.1))) rfl rfl rfl (s_assign (d := (sb (r5.1 == r7.1))) rfl (AWops.nil (AW.ret ?_))))
    obtain rfl := Option.some.inj h
    exact ⟨_, rfl, (wG 5 [0, 1, 2, 3, 4, 9, 11] [])⟩
   ·refine AW.cond_no rfl c3 (AW.seq (AW.region ?_))
    refine s_binI (v := (.bool ((IntKind.i64.wrap (Int.tmod (IntKind.u64.wrap a0.Op) 9)) == 2))) rfl rfl rfl (s_assign (d := (sb ((IntKind.i64.wrap (Int.tmod (IntKind.u64.wrap a0.Op) 9)) == 2))) rfl (AWops.nil ?_))
    rcases itH h with ⟨c8, h⟩ | ⟨c8, h⟩
    ·refine AW.cond_yes rfl c8 (AW.seq ?_)
     refine AW.weak (st' := ⟨119, (upd 119 (upd 119 (upd 119 topF 1 (rf 0 0)) 2 (rf 1 0)) 3 (rf 5 0)), [(o_vdisk_Disk_03 false (C.mp 2) (C.opt p0.fuse.isSome 6 0) p0), (o_dossierref03_Disk_0 false (C.own 7 0 p1.L.length 3) p1), (om_ e_vdisk_file p0.files), none, none, (some (AObj.cells true (c_dossierplain_Step a0))), (some (AObj.cells false [(ci (p0.fuse.getD default))])), (or_ e_dossierref03_File p1.L)]⟩) (wG 5 [0, 1, 2, 3, 4, 5, 6, 7] []) ?_
     obtain ⟨r9, er9, h⟩ := bnd h
     obtain ⟨r10, er10, h⟩ := bnd h
     refine AW.draw2 10 [kf 38 (rf 0 0) [1], kf 39 (rf 5 2) [3], ⟨some 40, (st_ a0.Name), [39], [5], [], none⟩, ⟨some 41, (si r9.1), [38, 40], [0, 2, 6], [(0, (o_vdisk_Disk_03 false (C.mp 2) (C.opt r9.2.fuse.isSome 8 0) r9.2)), (2, (om_ e_vdisk_file r9.2.files)), (6, none), (8, (some (AObj.cells false [(ci (r9.2.fuse.getD default))])))], some (8, 1)⟩, kf 42 (rf 1 0) [2], kf 43 (rf 5 2) [3], ⟨some 44, (st_ a0.Name), [43], [5], [], none⟩, ⟨some 45, (si r10.1), [42, 44], [1, 7], [(1, (o_dossierref03_Disk_0 false (C.own 9 0 r10.2.L.length 3) r10.2)), (7, none), (9, (or_ e_dossierref03_File r10.2.L))], some (9, 1)⟩, kf 46 (sb (r9.1 == r10.1)) [41, 45], kf 6 (sb (r9.1 == r10.1)) [46]] ⟨?_, ?_⟩
     ·refine (pA (pE F.fo_40_2 (pE F.ag_9 (pC ?_ (pA (pE F.fo_40_2 (pE F.ag_9 (pC ?_ (pA (pA AllStep.nil'))))))))))
      ·intro K rest fr hv htk k
       refine cc [0, 2, 6] [(o_vdisk_Disk_03 false (C.mp 2) (C.opt r9.2.fuse.isSome 10 0) r9.2), (hv 1), (om_ e_vdisk_file r9.2.files), (hv 3), (hv 4), (hv 5), none, (hv 7), (hv 8), (hv 9), (some (AObj.cells false [(ci (r9.2.fuse.getD default))]))] (si r9.1) F.ca_37 rfl rfl (ac (.one (.ref rfl)) (ac (.one .sc) an)) (ac (.cells (ac (.mp rfl) (ac .sc (ac .sc (ac (.opt rfl) (ac .sc an)))))) (ac .map (ac (.cells (ac .sc an)) an))) (vdisk_Disk_Sync.meets _ p0 a0.Name r9 er9) ?_
       refine AWops.weak (wD 5 (8, 1) 10 [0, 1, 2, 3, 4, 5, 6, 7, 10, 9] [] (htk (8, 1) rfl)) k
      ·intro K rest fr hv htk k
       show AWops _ x _ _ K ⟨119, (upd 119 (upd 119 fr 44 (st_ a0.Name)) 42 (rf 1 0)), [(hv 0), (o_dossierref03_Disk_0 false (C.own 7 0 p1.L.length 3) p1), (hv 2), (hv 3), (hv 4), (hv 5), (hv 6), (or_ e_dossierref03_File p1.L), (hv 8), (hv 9)]⟩
       refine cc [1, 7] [(hv 0), (o_dossierref03_Disk_0 false (C.own 10 0 r10.2.L.length 3) r10.2), (hv 2), (hv 3), (hv 4), (hv 5), (hv 6), none, (hv 8), (hv 9), (or_ e_dossierref03_File r10.2.L)] (si r10.1) F.ca_38 rfl rfl (ac (.one (.ref rfl)) (ac (.one .sc) an)) (ac (.cells (ac (.own rfl) (ac .sc (ac .sc (ac .sc an))))) (ac (.cells (lend_row _)) an)) (dossierref03_Disk_Sync_38.meets _ p1 a0.Name r10 er10) ?_
       refine AWops.weak (wD 5 (9, 1) 10 [0, 1, 2, 3, 4, 5, 6, 7, 8, 10] [] (htk (9, 1) rfl)) k
     ·refine AWops.weak (st' := ⟨119, (upd 119 topF 6 (sb (r9.1 == r10.1))), [(o_vdisk_Disk_03 false (C.mp 2) (C.opt r9.2.fuse.isSome 5 0) r9.2), (o_dossierref03_Disk_0 false (C.own 6 0 r10.2.L.length 3) r10.2), (om_ e_vdisk_file r9.2.files), none, none, (some (AObj.cells false [(ci (r9.2.fuse.getD default))])), (or_ e_dossierref03_File r10.2.L)]⟩) (wG 5 [0, 1, 2, 3, 4, 8, 9] []) (AWops.nil (AW.ret ?_))
      obtain rfl := Option.some.inj h
      exact ⟨_, rfl, (wG 5 [0, 1, 2, 3, 4, 5, 6] [])⟩
    ·refine AW.cond_no rfl c8 (AW.seq (AW.region ?_))
     refine s_binI (v := (.bool ((IntKind.i64.wrap (Int.tmod (IntKind.u64.wrap a0.Op) 9)) == 3))) rfl rfl rfl (s_assign (d := (sb ((IntKind.i64.wrap (Int.tmod (IntKind.u64.wrap a0.Op) 9)) == 3))) rfl (AWops.nil ?_))
     rcases itH h with ⟨c11, h⟩ | ⟨c11, h⟩
     ·refine AW.cond_yes rfl c11 (AW.seq ?_)
      refine AW.weak (st' := ⟨119, (upd 119 (upd 119 (upd 119 topF 1 (rf 0 0)) 2 (rf 1 0)) 3 (rf 5 0)), [(o_vdisk_Disk_03 false (C.mp 2) (C.opt p0.fuse.isSome 6 0) p0), (o_dossierref03_Disk_0 false (C.own 7 0 p1.L.length 3) p1), (om_ e_vdisk_file p0.files), none, none, (some (AObj.cells true (c_dossierplain_Step a0))), (some (AObj.cells false [(ci (p0.fuse.getD default))])), (or_ e_dossierref03_File p1.L)]⟩) (wG 5 [0, 1, 2, 3, 4, 5, 6, 7] []) ?_
      obtain ⟨r12, er12, h⟩ := bnd h
      obtain ⟨r13, er13, h⟩ := bnd h
      refine AW.draw2 10 [kf 49 (rf 0 0) [1], kf 50 (rf 5 2) [3], ⟨some 51, (st_ a0.Name), [50], [5], [], none⟩, kf 52 (rf 5 3) [3], ⟨some 53, (st_ a0.To), [52], [5], [], none⟩, ⟨some 54, (si r12.1), [49, 51, 53], [0, 2, 6], [(0, (o_vdisk_Disk_03 false (C.mp 2) (C.opt r12.2.fuse.isSome 8 0) r12.2)), (2, (om_ e_vdisk_file r12.2.files)), (6, none), (8, (some (AObj.cells false [(ci (r12.2.fuse.getD default))])))], some (8, 1)⟩, kf 55 (rf 1 0) [2], kf 56 (rf 5 2) [3], ⟨some 57, (st_ a0.Name), [56], [5], [], none⟩, kf 58 (rf 5 3) [3], ⟨some 59, (st_ a0.To), [58], [5], [], none⟩, ⟨some 60, (si r13.1), [55, 57, 59], [1, 7], [(1, (o_dossierref03_Disk_0 false (C.own 9 0 r13.2.L.length 3) r13.2)), (7, none), (9, (or_ e_dossierref03_File r13.2.L))], some (9, 1)⟩, kf 61 (sb (r12.1 == r13.1)) [54, 60], kf 6 (sb (r12.1 == r13.1)) [61]] ⟨?_, ?_⟩
      ·refine (pA (pE F.fo_40_2 (pE F.ag_9 (pE F.fo_40_3 (pE F.ag_9 (pC ?_ (pA (pE F.fo_40_2 (pE F.ag_9 (pE F.fo_40_3 (pE F.ag_9 (pC ?_ (pA (pA AllStep.nil'))))))))))))))
       ·intro K rest fr hv htk k
        refine cc [0, 2, 6] [(o_vdisk_Disk_03 false (C.mp 2) (C.opt r12.2.fuse.isSome 10 0) r12.2), (hv 1), (om_ e_vdisk_file r12.2.files), (hv 3), (hv 4), (hv 5), none, (hv 7), (hv 8), (hv 9), (some (AObj.cells false [(ci (r12.2.fuse.getD default))]))] (si r12.1) F.ca_39 rfl rfl (ac (.one (.ref rfl)) (ac (.one .sc) (ac (.one .sc) an))) (ac (.cells (ac (.mp rfl) (ac .sc (ac .sc (ac (.opt rfl) (ac .sc an)))))) (ac .map (ac (.cells (ac .sc an)) an))) (vdisk_Disk_Rename.meets _ p0 a0.Name a0.To r12 er12) ?_
        refine AWops.weak (wD 5 (8, 1) 10 [0, 1, 2, 3, 4, 5, 6, 7, 10, 9] [] (htk (8, 1) rfl)) k
       ·intro K rest fr hv htk k
        show AWops _ x _ _ K ⟨119, (upd 119 (upd 119 (upd 119 fr 59 (st_ a0.To)) 57 (st_ a0.Name)) 55 (rf 1 0)), [(hv 0), (o_dossierref03_Disk_0 false (C.own 7 0 p1.L.length 3) p1), (hv 2), (hv 3), (hv 4), (hv 5), (hv 6), (or_ e_dossierref03_File p1.L), (hv 8), (hv 9)]⟩
        refine cc [1, 7] [(hv 0), (o_dossierref03_Disk_0 false (C.own 10 0 r13.2.L.length 3) r13.2), (hv 2), (hv 3), (hv 4), (hv 5), (hv 6), none, (hv 8), (hv 9), (or_ e_dossierref03_File r13.2.L)] (si r13.1) F.ca_40 rfl rfl (ac (.one (.ref rfl)) (ac (.one .sc) (ac (.one .sc) an))) (ac (.cells (ac (.own rfl) (ac .sc (ac .sc (ac .sc an))))) (ac (.cells (lend_row _)) an)) (dossierref03_Disk_Rename_40.meets _ p1 a0.Name a0.To r13 er13) ?_
        refine AWops.weak (wD 5 (9, 1) 10 [0, 1, 2, 3, 4, 5, 6, 7, 8, 10] [] (htk (9, 1) rfl)) k
      ·refine AWops.weak (st' := ⟨119, (upd 119 topF 6 (sb (r12.1 == r13.1))), [(o_vdisk_Disk_03 false (C.mp 2) (C.opt r12.2.fuse.isSome 5 0) r12.2), (o_dossierref03_Disk_0 false (C.own 6 0 r13.2.L.length 3) r13.2), (om_ e_vdisk_file r12.2.files), none, none, (some (AObj.cells false [(ci (r12.2.fuse.getD default))])), (or_ e_dossierref03_File r13.2.L)]⟩) (wG 5 [0, 1, 2, 3, 4, 8, 9] []) (AWops.nil (AW.ret ?_))
       obtain rfl := Option.some.inj h
       exact ⟨_, rfl, (wG 5 [0, 1, 2, 3, 4, 5, 6] [])⟩
     ·refine AW.cond_no rfl c11 (AW.seq (AW.region ?_))
      refine s_binI (v := (.bool ((IntKind.i64.wrap (Int.tmod (IntKind.u64.wrap a0.Op) 9)) == 4))) rfl rfl rfl (s_assign (d := (sb ((IntKind.i64.wrap (Int.tmod (IntKind.u64.wrap a0.Op) 9)) == 4))) rfl (AWops.nil ?_))
      rcases itH h with ⟨c14, h⟩ | ⟨c14, h⟩
      ·refine AW.cond_yes rfl c14 (AW.seq ?_)
       refine AW.weak (st' := ⟨119, (upd 119 (upd 119 (upd 119 topF 1 (rf 0 0)) 2 (rf 1 0)) 3 (rf 5 0)), [(o_vdisk_Disk_03 false (C.mp 2) (C.opt p0.fuse.isSome 6 0) p0), (o_dossierref03_Disk_0 false (C.own 7 0 p1.L.length 3) p1), (om_ e_vdisk_file p0.files), none, none, (some (AObj.cells true (c_dossierplain_Step a0))), (some (AObj.cells false [(ci (p0.fuse.getD default))])), (or_ e_dossierref03_File p1.L)]⟩) (wG 5 [0, 1, 2, 3, 4, 5, 6, 7] []) ?_
       obtain ⟨r15, er15, h⟩ := bnd h
       obtain ⟨r16, er16, h⟩ := bnd h
       refine AW.draw2 10 [kf 64 (rf 0 0) [1], kf 65 (rf 5 2) [3], ⟨some 66, (st_ a0.Name), [65], [5], [], none⟩, kf 67 (rf 5 1) [3], ⟨some 68, (si a0.N), [67], [5], [], none⟩, ⟨some 69, (si r15.1), [64, 66, 68], [0, 2, 6], [(0, (o_vdisk_Disk_03 false (C.mp 2) (C.opt r15.2.fuse.isSome 8 0) r15.2)), (2, (om_ e_vdisk_file r15.2.files)), (6, none), (8, (some (AObj.cells false [(ci (r15.2.fuse.getD default))])))], some (8, 1)⟩, kf 70 (rf 1 0) [2], kf 71 (rf 5 2) [3], ⟨some 72, (st_ a0.Name), [71], [5], [], none⟩, kf 73 (rf 5 1) [3], ⟨some 74, (si a0.N), [73], [5], [], none⟩, ⟨some 75, (si r16.1), [70, 72, 74], [1, 7], [(1, (o_dossierref03_Disk_0 false (C.own 9 0 r16.2.L.length 3) r16.2)), (7, none), (9, (or_ e_dossierref03_File r16.2.L))], some (9, 1)⟩, kf 76 (sb (r15.1 == r16.1)) [69, 75], kf 6 (sb (r15.1 == r16.1)) [76]] ⟨?_, ?_⟩
       ·refine (pA (pE F.fo_40_2 (pE F.ag_9 (pE F.fo_40_1 (pE F.ag_3 (pC ?_ (pA (pE F.fo_40_2 (pE F.ag_9 (pE F.fo_40_1 (pE F.ag_3 (pC ?_ (pA (pA AllStep.nil'))))))))))))))
        ·intro K rest fr hv htk k
         refine cc [0, 2, 6] [(o_vdisk_Disk_03 false (C.mp 2) (C.opt r15.2.fuse.isSome 10 0) r15.2), (hv 1), (om_ e_vdisk_file r15.2.files), (hv 3), (hv 4), (hv 5), none, (hv 7), (hv 8), (hv 9), (some (AObj.cells false [(ci (r15.2.fuse.getD default))]))] (si r15.1) F.ca_41 rfl rfl (ac (.one (.ref rfl)) (ac (.one .sc) (ac (.one .sc) an))) (ac (.cells (ac (.mp rfl) (ac .sc (ac .sc (ac (.opt rfl) (ac .sc an)))))) (ac .map (ac (.cells (ac .sc an)) an))) (vdisk_Disk_Truncate.meets _ p0 a0.Name a0.N r15 er15) ?_
         refine AWops.weak (wD 5 (8, 1) 10 [0, 1, 2, 3, 4, 5, 6, 7, 10, 9] [] (htk (8, 1) rfl)) k
        ·intro K rest fr hv htk k
         show AWops _ x _ _ K ⟨119, (upd 119 (upd 119 (upd 119 fr 74 (si a0.N)) 72 (st_ a0.Name)) 70 (rf 1 0)), [(hv 0), (o_dossierref03_Disk_0 false (C.own 7 0 p1.L.length 3) p1), (hv 2), (hv 3), (hv 4), (hv 5), (hv 6), (or_ e_dossierref03_File p1.L), (hv 8), (hv 9)]⟩
         refine cc [1, 7] [(hv 0), (o_dossierref03_Disk_0 false (C.own 10 0 r16.2.L.length 3) r16.2), (hv 2), (hv 3), (hv 4), (hv 5), (hv 6), none, (hv 8), (hv 9), (or_ e_dossierref03_File r16.2.L)] (si r16.1) F.ca_32 rfl rfl (ac (.one (.ref rfl)) (ac (.one .sc) (ac (.one .sc) an))) (ac (.cells (ac (.own rfl) (ac .sc (ac .sc (ac .sc an))))) (ac (.cells (lend_row _)) an)) (dossierref03_Disk_Truncate_32.meets _ p1 a0.Name a0.N r16 er16) ?_
         refine AWops.weak (wD 5 (9, 1) 10 [0, 1, 2, 3, 4, 5, 6, 7, 8, 10] [] (htk (9, 1) rfl)) k
       ·refine AWops.weak (st' := ⟨119, (upd 119 topF 6 (sb (r15.1 == r16.1))), [(o_vdisk_Disk_03 false (C.mp 2) (C.opt r15.2.fuse.isSome 5 0) r15.2), (o_dossierref03_Disk_0 false (C.own 6 0 r16.2.L.length 3) r16.2), (om_ e_vdisk_file r15.2.files), none, none, (some (AObj.cells false [(ci (r15.2.fuse.getD default))])), (or_ e_dossierref03_File r16.2.L)]⟩) (wG 5 [0, 1, 2, 3, 4, 8, 9] []) (AWops.nil (AW.ret ?_))
        obtain rfl := Option.some.inj h
        exact ⟨_, rfl, (wG 5 [0, 1, 2, 3, 4, 5, 6] [])⟩
      ·refine AW.cond_no rfl c14 (AW.seq (AW.region ?_))
       refine s_binI (v := (.bool ((IntKind.i64.wrap (Int.tmod (IntKind.u64.wrap a0.Op) 9)) == 5))) rfl rfl rfl (s_assign (d := (sb ((IntKind.i64.wrap (Int.tmod (IntKind.u64.wrap a0.Op) 9)) == 5))) rfl (AWops.nil ?_))
       rcases itH h with ⟨c17, h⟩ | ⟨c17, h⟩
       ·refine AW.cond_yes rfl c17 (AW.seq ?_)
        refine AW.weak (st' := ⟨119, (upd 119 (upd 119 (upd 119 topF 1 (rf 0 0)) 2 (rf 1 0)) 3 (rf 5 0)), [(o_vdisk_Disk_03 false (C.mp 2) (C.opt p0.fuse.isSome 6 0) p0), (o_dossierref03_Disk_0 false (C.own 7 0 p1.L.length 3) p1), (om_ e_vdisk_file p0.files), none, none, (some (AObj.cells true (c_dossierplain_Step a0))), (some (AObj.cells false [(ci (p0.fuse.getD default))])), (or_ e_dossierref03_File p1.L)]⟩) (wG 5 [0, 1, 2, 3, 4, 5, 6, 7] []) ?_
        obtain ⟨r18, er18, h⟩ := bnd h
        obtain ⟨r19, er19, h⟩ := bnd h
        refine AW.draw2 10 [kf 79 (rf 0 0) [1], kf 80 (rf 5 2) [3], ⟨some 81, (st_ a0.Name), [80], [5], [], none⟩, ⟨some 82, (si r18.1), [79, 81], [0, 2, 6], [(0, (o_vdisk_Disk_03 false (C.mp 2) (C.opt r18.2.fuse.isSome 8 0) r18.2)), (2, (om_ e_vdisk_file r18.2.files)), (6, none), (8, (some (AObj.cells false [(ci (r18.2.fuse.getD default))])))], some (8, 1)⟩, kf 83 (rf 1 0) [2], kf 84 (rf 5 2) [3], ⟨some 85, (st_ a0.Name), [84], [5], [], none⟩, ⟨some 86, (si r19.1), [83, 85], [1, 7], [(1, (o_dossierref03_Disk_0 false (C.own 9 0 r19.2.L.length 3) r19.2)), (7, none), (9, (or_ e_dossierref03_File r19.2.L))], some (9, 1)⟩, kf 87 (sb (r18.1 == r19.1)) [82, 86], kf 6 (sb (r18.1 == r19.1)) [87]] ⟨?_, ?_⟩
        ·refine (pA (pE F.fo_40_2 (pE F.ag_9 (pC ?_ (pA (pE F.fo_40_2 (pE F.ag_9 (pC ?_ (pA (pA AllStep.nil'))))))))))
         ·intro K rest fr hv htk k
          refine cc [0, 2, 6] [(o_vdisk_Disk_03 false (C.mp 2) (C.opt r18.2.fuse.isSome 10 0) r18.2), (hv 1), (om_ e_vdisk_file r18.2.files), (hv 3), (hv 4), (hv 5), none, (hv 7), (hv 8), (hv 9), (some (AObj.cells false [(ci (r18.2.fuse.getD default))]))] (si r18.1) F.ca_23 rfl rfl (ac (.one (.ref rfl)) (ac (.one .sc) an)) (ac (.cells (ac (.mp rfl) (ac .sc (ac .sc (ac (.opt rfl) (ac .sc an)))))) (ac .map (ac (.cells (ac .sc an)) an))) (vdisk_Disk_Remove.meets _ p0 a0.Name r18 er18) ?_
          refine AWops.weak (wD 5 (8, 1) 10 [0, 1, 2, 3, 4, 5, 6, 7, 10, 9] [] (htk (8, 1) rfl)) k
         ·intro K rest fr hv htk k
          show AWops _ x _ _ K ⟨119, (upd 119 (upd 119 fr 85 (st_ a0.Name)) 83 (rf 1 0)), [(hv 0), (o_dossierref03_Disk_0 false (C.own 7 0 p1.L.length 3) p1), (hv 2), (hv 3), (hv 4), (hv 5), (hv 6), (or_ e_dossierref03_File p1.L), (hv 8), (hv 9)]⟩
          refine cc [1, 7] [(hv 0), (o_dossierref03_Disk_0 false (C.own 10 0 r19.2.L.length 3) r19.2), (hv 2), (hv 3), (hv 4), (hv 5), (hv 6), none, (hv 8), (hv 9), (or_ e_dossierref03_File r19.2.L)] (si r19.1) F.ca_29 rfl rfl (ac (.one (.ref rfl)) (ac (.one .sc) an)) (ac (.cells (ac (.own rfl) (ac .sc (ac .sc (ac .sc an))))) (ac (.cells (lend_row _)) an)) (dossierref03_Disk_Remove_29.meets _ p1 a0.Name r19 er19) ?_
          refine AWops.weak (wD 5 (9, 1) 10 [0, 1, 2, 3, 4, 5, 6, 7, 8, 10] [] (htk (9, 1) rfl)) k
        ·refine AWops.weak (st' := ⟨119, (upd 119 topF 6 (sb (r18.1 == r19.1))), [(o_vdisk_Disk_03 false (C.mp 2) (C.opt r18.2.fuse.isSome 5 0) r18.2), (o_dossierref03_Disk_0 false (C.own 6 0 r19.2.L.length 3) r19.2), (om_ e_vdisk_file r18.2.files), none, none, (some (AObj.cells false [(ci (r18.2.fuse.getD default))])), (or_ e_dossierref03_File r19.2.L)]⟩) (wG 5 [0, 1, 2, 3, 4, 8, 9] []) (AWops.nil (AW.ret ?_))
         obtain rfl := Option.some.inj h
         exact ⟨_, rfl, (wG 5 [0, 1, 2, 3, 4, 5, 6] [])⟩
       ·refine AW.cond_no rfl c17 (AW.seq (AW.region ?_))
        refine s_binI (v := (.bool ((IntKind.i64.wrap (Int.tmod (IntKind.u64.wrap a0.Op) 9)) == 6))) rfl rfl rfl (s_assign (d := (sb ((IntKind.i64.wrap (Int.tmod (IntKind.u64.wrap a0.Op) 9)) == 6))) rfl (AWops.nil ?_))
        rcases itH h with ⟨c20, h⟩ | ⟨c20, h⟩
        ·refine AW.cond_yes rfl c20 (AW.seq ?_)
         refine AW.weak (st' := ⟨119, (upd 119 (upd 119 (upd 119 topF 1 (rf 0 0)) 2 (rf 1 0)) 3 (rf 5 0)), [(o_vdisk_Disk_03 false (C.mp 2) (C.opt p0.fuse.isSome 6 0) p0), (o_dossierref03_Disk_0 false (C.own 7 0 p1.L.length 3) p1), (om_ e_vdisk_file p0.files), none, none, (some (AObj.cells true (c_dossierplain_Step a0))), (some (AObj.cells false [(ci (p0.fuse.getD default))])), (or_ e_dossierref03_File p1.L)]⟩) (wG 5 [0, 1, 2, 3, 4, 5, 6, 7] []) ?_
         obtain ⟨r21, er21, h⟩ := bnd h
         obtain ⟨r22, er22, h⟩ := bnd h
         refine AW.draw2 10 [kf 90 (rf 0 0) [1], kf 91 (rf 5 1) [3], ⟨some 92, (si a0.N), [91], [5], [], none⟩, ⟨some 93, (si r21.1), [90, 92], [0, 2, 6], [(0, (o_vdisk_Disk_03 false (C.mp 2) (C.opt r21.2.fuse.isSome 8 0) r21.2)), (2, (om_ e_vdisk_file r21.2.files)), (6, none), (8, (some (AObj.cells false [(ci (r21.2.fuse.getD default))])))], some (8, 1)⟩, kf 94 (rf 1 0) [2], kf 95 (rf 5 1) [3], ⟨some 96, (si a0.N), [95], [5], [], none⟩, ⟨some 97, (si r22.1), [94, 96], [1, 7], [(1, (o_dossierref03_Disk_0 false (C.own 7 0 r22.2.L.length 3) r22.2)), (7, (or_ e_dossierref03_File r22.2.L))], none⟩, kf 98 (sb (r21.1 == r22.1)) [93, 97], kf 6 (sb (r21.1 == r22.1)) [98]] ⟨?_, ?_⟩
         ·refine (pA (pE F.fo_40_1 (pE F.ag_3 (pC ?_ (pA (pE F.fo_40_1 (pE F.ag_3 (pC ?_ (pA (pA AllStep.nil'))))))))))
          ·intro K rest fr hv htk k
           refine cc [0, 2, 6] [(o_vdisk_Disk_03 false (C.mp 2) (C.opt r21.2.fuse.isSome 10 0) r21.2), (hv 1), (om_ e_vdisk_file r21.2.files), (hv 3), (hv 4), (hv 5), none, (hv 7), (hv 8), (hv 9), (some (AObj.cells false [(ci (r21.2.fuse.getD default))]))] (si r21.1) F.ca_42 rfl rfl (ac (.one (.ref rfl)) (ac (.one .sc) an)) (ac (.cells (ac (.mp rfl) (ac .sc (ac .sc (ac (.opt rfl) (ac .sc an)))))) (ac .map (ac (.cells (ac .sc an)) an))) (vdisk_Disk_Fuse.meets _ p0 a0.N r21 er21) ?_
           refine AWops.weak (wD 5 (8, 1) 10 [0, 1, 2, 3, 4, 5, 6, 7, 10, 9] [] (htk (8, 1) rfl)) k
          ·intro K rest fr hv htk k
           show AWops _ x _ _ K ⟨119, (upd 119 (upd 119 fr 96 (si a0.N)) 94 (rf 1 0)), [(hv 0), (o_dossierref03_Disk_0 false (C.own 7 0 p1.L.length 3) p1), (hv 2), (hv 3), (hv 4), (hv 5), (hv 6), (or_ e_dossierref03_File p1.L), (hv 8), (hv 9)]⟩
           refine cc [1, 7] [(hv 0), (o_dossierref03_Disk_0 false (C.own 7 0 r22.2.L.length 3) r22.2), (hv 2), (hv 3), (hv 4), (hv 5), (hv 6), (or_ e_dossierref03_File r22.2.L), (hv 8), (hv 9)] (si r22.1) F.ca_43 rfl rfl (ac (.one (.ref rfl)) (ac (.one .sc) an)) (ac (.cells (ac (.own rfl) (ac .sc (ac .sc (ac .sc an))))) (ac (.cells (lend_row _)) an)) (dossierref03_Disk_Fuse.meets _ p1 a0.N r22 er22) k
         ·refine AWops.weak (st' := ⟨119, (upd 119 topF 6 (sb (r21.1 == r22.1))), [(o_vdisk_Disk_03 false (C.mp 2) (C.opt r21.2.fuse.isSome 5 0) r21.2), (o_dossierref03_Disk_0 false (C.own 6 0 r22.2.L.length 3) r22.2), (om_ e_vdisk_file r21.2.files), none, none, (some (AObj.cells false [(ci (r21.2.fuse.getD default))])), (or_ e_dossierref03_File r22.2.L)]⟩) (wG 5 [0, 1, 2, 3, 4, 8, 7] []) (AWops.nil (AW.ret ?_))
          obtain rfl := Option.some.inj h
          exact ⟨_, rfl, (wG 5 [0, 1, 2, 3, 4, 5, 6] [])⟩
        ·refine AW.cond_no rfl c20 (AW.seq (AW.region ?_))
         refine s_binI (v := (.bool ((IntKind.i64.wrap (Int.tmod (IntKind.u64.wrap a0.Op) 9)) == 7))) rfl rfl rfl (s_assign (d := (sb ((IntKind.i64.wrap (Int.tmod (IntKind.u64.wrap a0.Op) 9)) == 7))) rfl (AWops.nil ?_))
         rcases itH h with ⟨c23, h⟩ | ⟨c23, h⟩
         ·refine AW.cond_yes rfl c23 (AW.seq (AW.region ?_))
          refine s_move (d := (rf 1 0)) rfl (s_fieldRef F.fo_40_5 (by decide) rfl (s_load1 (c' := (C.p false (.sl a0.Keeps.length (a0.Keeps.flatMap e_i64)))) F.ag_38 rfl rfl ?_))
          obtain ⟨r24, er24, h⟩ := bnd h
          refine cc [1, 7] [(o_vdisk_Disk_03 false (C.mp 2) (C.opt p0.fuse.isSome 6 0) p0), (o_dossierref03_Disk_0 false (C.own 8 0 r24.L.length 3) r24), (om_ e_vdisk_file p0.files), none, none, (some (AObj.cells true (c_dossierplain_Step a0))), (some (AObj.cells false [(ci (p0.fuse.getD default))])), none, (or_ e_dossierref03_File r24.L)] (D.tup []) F.ca_44 rfl rfl (ac (.one (.ref rfl)) (ac (.one .imm) an)) (ac (.cells (ac (.own rfl) (ac .sc (ac .sc (ac .sc an))))) (ac (.cells (lend_row _)) an)) (dossierref03_Disk_Crash_44.meets _ p1 a0.Keeps r24 er24) (AWops.nil (AW.seq (AW.region ?_)))
          refine s_move (d := (rf 0 0)) rfl (s_fieldRef F.fo_40_5 (by decide) rfl (s_load1 (c' := (C.p false (.sl a0.Keeps.length (a0.Keeps.flatMap e_i64)))) F.ag_38 rfl rfl ?_))
          obtain ⟨r25, er25, h⟩ := bnd h
          refine cc [0, 2, 6] [(o_vdisk_Disk_03 false (C.mp 2) (C.opt r25.2.fuse.isSome 9 0) r25.2), (o_dossierref03_Disk_0 false (C.own 8 0 r24.L.length 3) r24), (om_ e_vdisk_file r25.2.files), none, none, (some (AObj.cells true (c_dossierplain_Step a0))), none, none, (or_ e_dossierref03_File r24.L), (some (AObj.cells false [(ci (r25.2.fuse.getD default))]))] (si r25.1) F.ca_45 rfl rfl (ac (.one (.ref rfl)) (ac (.one .imm) an)) (ac (.cells (ac (.mp rfl) (ac .sc (ac .sc (ac (.opt rfl) (ac .sc an)))))) (ac .map (ac (.cells (ac .sc an)) an))) (vdisk_Disk_Crash.meets _ p0 a0.Keeps r25 er25) (s_binI (v := (.bool (r25.1 == 0))) rfl rfl rfl (s_assign (d := (sb (r25.1 == 0))) rfl (AWops.nil (AW.ret ?_))))
          obtain rfl := Option.some.inj h
          exact ⟨_, rfl, (wG 5 [0, 1, 2, 3, 4, 9, 8] [])⟩
         ·refine AW.cond_no rfl c23 (AW.skip (AW.seq ?_))
          refine AW.weak (st' := ⟨119, (upd 119 (upd 119 (upd 119 topF 1 (rf 0 0)) 2 (rf 1 0)) 3 (rf 5 0)), [(o_vdisk_Disk_03 false (C.mp 2) (C.opt p0.fuse.isSome 6 0) p0), (o_dossierref03_Disk_0 false (C.own 7 0 p1.L.length 3) p1), (om_ e_vdisk_file p0.files), none, none, (some (AObj.cells true (c_dossierplain_Step a0))), (some (AObj.cells false [(ci (p0.fuse.getD default))])), (or_ e_dossierref03_File p1.L)]⟩) (wG 5 [0, 1, 2, 3, 4, 5, 6, 7] []) ?_
          obtain ⟨r26, er26, h⟩ := bnd h
          obtain ⟨r27, er27, h⟩ := bnd h
          refine AW.draw2 10 [kf 110 (rf 0 0) [1], kf 111 (rf 5 1) [3], ⟨some 112, (si a0.N), [111], [5], [], none⟩, ⟨some 113, (si r26.1), [110, 112], [0, 2, 6], [(0, (o_vdisk_Disk_03 false (C.mp 2) (C.opt r26.2.fuse.isSome 8 0) r26.2)), (2, (om_ e_vdisk_file r26.2.files)), (6, none), (8, (some (AObj.cells false [(ci (r26.2.fuse.getD default))])))], some (8, 1)⟩, kf 114 (rf 1 0) [2], kf 115 (rf 5 1) [3], ⟨some 116, (si a0.N), [115], [5], [], none⟩, ⟨some 117, (si r27.1), [114, 116], [1, 7], [(1, (o_dossierref03_Disk_0 false (C.own 7 0 r27.2.L.length 3) r27.2)), (7, (or_ e_dossierref03_File r27.2.L))], none⟩, kf 118 (sb (r26.1 == r27.1)) [113, 117], kf 6 (sb (r26.1 == r27.1)) [118]] ⟨?_, ?_⟩
          ·refine (pA (pE F.fo_40_1 (pE F.ag_3 (pC ?_ (pA (pE F.fo_40_1 (pE F.ag_3 (pC ?_ (pA (pA AllStep.nil'))))))))))
           ·intro K rest fr hv htk k
            refine cc [0, 2, 6] [(o_vdisk_Disk_03 false (C.mp 2) (C.opt r26.2.fuse.isSome 10 0) r26.2), (hv 1), (om_ e_vdisk_file r26.2.files), (hv 3), (hv 4), (hv 5), none, (hv 7), (hv 8), (hv 9), (some (AObj.cells false [(ci (r26.2.fuse.getD default))]))] (si r26.1) F.ca_46 rfl rfl (ac (.one (.ref rfl)) (ac (.one .sc) an)) (ac (.cells (ac (.mp rfl) (ac .sc (ac .sc (ac (.opt rfl) (ac .sc an)))))) (ac .map (ac (.cells (ac .sc an)) an))) (vdisk_Disk_Room.meets _ p0 a0.N r26 er26) ?_
            refine AWops.weak (wD 5 (8, 1) 10 [0, 1, 2, 3, 4, 5, 6, 7, 10, 9] [] (htk (8, 1) rfl)) k
           ·intro K rest fr hv htk k
            show AWops _ x _ _ K ⟨119, (upd 119 (upd 119 fr 116 (si a0.N)) 114 (rf 1 0)), [(hv 0), (o_dossierref03_Disk_0 false (C.own 7 0 p1.L.length 3) p1), (hv 2), (hv 3), (hv 4), (hv 5), (hv 6), (or_ e_dossierref03_File p1.L), (hv 8), (hv 9)]⟩
            refine cc [1, 7] [(hv 0), (o_dossierref03_Disk_0 false (C.own 7 0 r27.2.L.length 3) r27.2), (hv 2), (hv 3), (hv 4), (hv 5), (hv 6), (or_ e_dossierref03_File r27.2.L), (hv 8), (hv 9)] (si r27.1) F.ca_47 rfl rfl (ac (.one (.ref rfl)) (ac (.one .sc) an)) (ac (.cells (ac (.own rfl) (ac .sc (ac .sc (ac .sc an))))) (ac (.cells (lend_row _)) an)) (dossierref03_Disk_Room.meets _ p1 a0.N r27 er27) k
          ·refine AWops.weak (st' := ⟨119, (upd 119 topF 6 (sb (r26.1 == r27.1))), [(o_vdisk_Disk_03 false (C.mp 2) (C.opt r26.2.fuse.isSome 5 0) r26.2), (o_dossierref03_Disk_0 false (C.own 6 0 r27.2.L.length 3) r27.2), (om_ e_vdisk_file r26.2.files), none, none, (some (AObj.cells false [(ci (r26.2.fuse.getD default))])), (or_ e_dossierref03_File r27.2.L)]⟩) (wG 5 [0, 1, 2, 3, 4, 8, 7] []) (AWops.nil (AW.ret ?_))
           obtain rfl := Option.some.inj h
           exact ⟨_, rfl, (wG 5 [0, 1, 2, 3, 4, 5, 6] [])⟩
def journal_Journal_none.f (k : Nat) (p0 : journal_Journal) (p1 : vdisk_Disk) : Option Bool := some false
theorem journal_Journal_none.meets (k : Nat) (p0 : journal_Journal) (p1 : vdisk_Disk) (r : Bool) (h : journal_Journal_none.f k p0 p1 = some r) : Meets Try.prog 57 [(rf 0 0)] [(o_journal_Journal_02 false (C.ref 1 0) (C.own 2 0 p0.l.length 1) p0), (o_vdisk_Disk_03 false (C.mp 3) (C.opt p1.fuse.isSome 4 0) p1), (some (AObj.cells false (rowC (e_sl e_u8) p0.l))), (om_ e_vdisk_file p1.files), (some (AObj.cells false [(ci (p1.fuse.getD default))]))] (sb r) [(o_journal_Journal_02 false (C.ref 1 0) (C.own 2 0 p0.l.length 1) p0), (o_vdisk_Disk_03 false (C.mp 3) (C.opt p1.fuse.isSome 5 0) p1), (some (AObj.cells false (rowC (e_sl e_u8) p0.l))), (om_ e_vdisk_file p1.files), none, (some (AObj.cells false [(ci (p1.fuse.getD default))]))] := by
 unfold journal_Journal_none.f at h
 refine Meets.of_body (n := 12) Try.func57 rfl rfl (nl rfl) fun x hx => ?_
 replace hx : x.k = 5 := hx
 show AW _ x _ _ ⟨12, fr0 [(rf 0 0)], [(o_journal_Journal_02 false (C.ref 1 0) (C.own 2 0 p0.l.length 1) p0), (o_vdisk_Disk_03 false (C.mp 3) (C.opt p1.fuse.isSome 4 0) p1), (some (AObj.cells false (rowC (e_sl e_u8) p0.l))), (om_ e_vdisk_file p1.files), (some (AObj.cells false [(ci (p1.fuse.getD default))]))]⟩
 refine AW.weak (st' := ⟨12, (upd 12 topF 0 (rf 0 0)), [(o_journal_Journal_02 false (C.ref 1 0) (C.own 2 0 p0.l.length 1) p0), (o_vdisk_Disk_03 false (C.mp 3) (C.opt p1.fuse.isSome 5 0) p1), (some (AObj.cells false (rowC (e_sl e_u8) p0.l))), (om_ e_vdisk_file p1.files), none, (some (AObj.cells false [(ci (p1.fuse.getD default))]))]⟩) (Weak.genL (kk := 5) [0, 1, 2, 3, 4, 4] [] hx rfl (by decide) rfl rfl rfl rfl (le_upd (le_top _) (o1 (.ref rfl))) (ac (.cells id (ac (.ref rfl) (ac .same (ac (.own rfl) (ac .sc an))))) (ac (.cells id (ac (.mp rfl) (ac .sc (ac .sc (ac (.opt rfl) (ac .sc an)))))) (ac (.cells id (all2_row _)) (ac .map (ac (.none _) (ac (.cells id (ac .sc an)) an))))))) (AW.seq (AW.region ?_))
 refine s_assign (d := (sb false)) rfl (AWops.nil (AW.seq (AW.region ?_)))
 refine s_move (d := (rf 0 0)) rfl (s_ptrNil (b := false) F.u_33 rfl (.inl ⟨⟨_, _, rfl⟩, rfl⟩) (.inl rfl) (s_move (d := (sb false)) rfl ?_))
 refine AWops.guard_yes rfl (nl rfl) rfl rfl ?_
 refine s_move (d := (rf 0 0)) rfl ?_
 refine AWops.guard_yes rfl (nl rfl) rfl rfl ?_
 refine s_nilCheck (d := (rf 0 0)) rfl (.inl ⟨_, _, rfl⟩) ?_
 refine AWops.guard_yes rfl (nl rfl) rfl rfl ?_
 refine s_fieldRef F.fo_68_0 (by decide) rfl ?_
 refine AWops.guard_yes rfl (nl rfl) rfl rfl ?_
 refine s_load1 (c' := (C.ref 1 0)) F.ag_25 rfl rfl ?_
 refine AWops.guard_yes rfl (nl rfl) rfl rfl ?_
 refine s_ptrNil (b := false) F.u_25 rfl (.inl ⟨⟨_, _, rfl⟩, rfl⟩) (.inl rfl) (s_pick_no (d := (sb false)) rfl rfl rfl (s_assign (d := (sb false)) rfl (AWops.nil (AW.ret ?_))))
 obtain rfl := Option.some.inj h
 exact ⟨_, rfl, (wG 5 [0, 1, 2, 3, 4, 5] [])⟩
theorem journal_Journal_none.const {k : Nat} {p0 : journal_Journal} {p1 : vdisk_Disk} {r : Bool} (h : journal_Journal_none.f k p0 p1 = some r) : r = false := by
 unfold journal_Journal_none.f at h
 exact (Option.some.inj h).symm
def journal_Journal_may.f (k : Nat) (p0 : journal_Journal) (a1 : Bool) (p1 : vdisk_Disk) : Option Int := (journal_Journal_none.f k p0 p1).bind fun r1 => if a1 = true then (if p0.stopped = true then (some 70) else (some 0)) else (some 1)
theorem journal_Journal_may.meets (k : Nat) (p0 : journal_Journal) (a1 : Bool) (p1 : vdisk_Disk) (r : Int) (h : journal_Journal_may.f k p0 a1 p1 = some r) : Meets Try.prog 48 [(rf 0 0), (sb a1)] [(o_journal_Journal_02 false (C.ref 1 0) (C.own 2 0 p0.l.length 1) p0), (o_vdisk_Disk_03 false (C.mp 3) (C.opt p1.fuse.isSome 4 0) p1), (some (AObj.cells false (rowC (e_sl e_u8) p0.l))), (om_ e_vdisk_file p1.files), (some (AObj.cells false [(ci (p1.fuse.getD default))]))] (si r) [(o_journal_Journal_02 false (C.ref 1 0) (C.own 2 0 p0.l.length 1) p0), (o_vdisk_Disk_03 false (C.mp 3) (C.opt p1.fuse.isSome 5 0) p1), (some (AObj.cells false (rowC (e_sl e_u8) p0.l))), (om_ e_vdisk_file p1.files), none, (some (AObj.cells false [(ci (p1.fuse.getD default))]))] := by
 unfold journal_Journal_may.f at h
 refine Meets.of_body (n := 16) Try.func48 rfl rfl (nl rfl) fun x hx => ?_
 replace hx : x.k = 5 := hx
 show AW _ x _ _ ⟨16, fr0 [(rf 0 0), (sb a1)], [(o_journal_Journal_02 false (C.ref 1 0) (C.own 2 0 p0.l.length 1) p0), (o_vdisk_Disk_03 false (C.mp 3) (C.opt p1.fuse.isSome 4 0) p1), (some (AObj.cells false (rowC (e_sl e_u8) p0.l))), (om_ e_vdisk_file p1.files), (some (AObj.cells false [(ci (p1.fuse.getD default))]))]⟩
 refine AW.weak (st' := ⟨16, (upd 16 (upd 16 topF 0 (rf 0 0)) 1 (sb a1)), [(o_journal_Journal_02 false (C.ref 1 0) (C.own 2 0 p0.l.length 1) p0), (o_vdisk_Disk_03 false (C.mp 3) (C.opt p1.fuse.isSome 5 0) p1), (some (AObj.cells false (rowC (e_sl e_u8) p0.l))), (om_ e_vdisk_file p1.files), none, (some (AObj.cells false [(ci (p1.fuse.getD default))]))]⟩) (Weak.genL (kk := 5) [0, 1, 2, 3, 4, 4] [] hx rfl (by decide) rfl rfl rfl rfl (le_upd (le_upd (le_top _) (o1 (.ref rfl))) (o1 .sc)) (ac (.cells id (ac (.ref rfl) (ac .same (ac (.own rfl) (ac .sc an))))) (ac (.cells id (ac (.mp rfl) (ac .sc (ac .sc (ac (.opt rfl) (ac .sc an)))))) (ac (.cells id (all2_row _)) (ac .map (ac (.none _) (ac (.cells id (ac .sc an)) an))))))) (AW.seq (AW.region ?_))
 refine s_assign (d := (si 0)) rfl (AWops.nil (AW.seq (AW.block (AW.seq (AW.region ?_)))))
 refine s_move (d := (rf 0 0)) rfl ?_
 obtain ⟨r1, er1, h⟩ := bnd h
 have kr1 := journal_Journal_none.const er1
 subst kr1
 refine cc [0, 1, 2, 3, 5] [(o_journal_Journal_02 false (C.ref 1 0) (C.own 2 0 p0.l.length 1) p0), (o_vdisk_Disk_03 false (C.mp 3) (C.opt p1.fuse.isSome 6 0) p1), (some (AObj.cells false (rowC (e_sl e_u8) p0.l))), (om_ e_vdisk_file p1.files), none, none, (some (AObj.cells false [(ci (p1.fuse.getD default))]))] (sb false) F.ca_57 rfl rfl (ac (.one (.ref rfl)) an) (ac (.cells (ac (.ref rfl) (ac .imm (ac (.own rfl) (ac .sc an))))) (ac (.cells (ac (.mp rfl) (ac .sc (ac .sc (ac (.opt rfl) (ac .sc an)))))) (ac (.cells (lend_row _)) (ac .map (ac (.cells (ac .sc an)) an))))) (journal_Journal_none.meets _ p0 p1 false er1) (s_assign (d := (sb false)) rfl (AWops.nil ?_))
 refine AW.cond_no rfl rfl (AW.seq (AW.region ?_))
 refine s_move (d := (sb a1)) rfl (s_not rfl (s_assign (d := (sb (!a1))) rfl (AWops.nil ?_)))
 rcases itH h with ⟨c2, h⟩ | ⟨c2, h⟩
 ·refine AW.cond_no rfl (by rw [c2] <;> rfl) (AW.seq (AW.region ?_))
  refine s_move (d := (rf 0 0)) rfl (s_nilCheck (d := (rf 0 0)) rfl (.inl ⟨_, _, rfl⟩) (s_fieldRef F.fo_68_3 (by decide) rfl (s_load1 (c' := (cb p0.stopped)) F.ag_4 rfl rfl (s_assign (d := (sb p0.stopped)) rfl (AWops.nil ?_)))))
  rcases itH h with ⟨c3, h⟩ | ⟨c3, h⟩
  ·refine AW.cond_yes rfl c3 (AW.seq (AW.region ?_))
   refine s_assign (d := (si 70)) rfl (AWops.nil (AW.ret ?_))
   obtain rfl := Option.some.inj h
   exact ⟨_, rfl, (wG 5 [0, 1, 2, 3, 4, 6] [])⟩
  ·refine AW.cond_no rfl c3 (AW.skip (AW.seq (AW.region ?_)))
   refine s_assign (d := (si 0)) rfl (AWops.nil (AW.ret ?_))
   obtain rfl := Option.some.inj h
   exact ⟨_, rfl, (wG 5 [0, 1, 2, 3, 4, 6] [])⟩
 ·refine AW.cond_yes rfl (by rw [c2] <;> rfl) (AW.seq (AW.region ?_))
  refine s_assign (d := (si 1)) rfl (AWops.nil (AW.ret ?_))
  obtain rfl := Option.some.inj h
  exact ⟨_, rfl, (wG 5 [0, 1, 2, 3, 4, 6] [])⟩
def journal_Journal_Compact_13.f (k : Nat) (p0 : journal_Journal) (a1 : List Int) (p1 : vdisk_Disk) : Option (Int × journal_Journal × vdisk_Disk) := (journal_Journal_may.f k p0 (decide ((a1.length : Int) ≤ 4194304)) p1).bind fun r1 => if (r1 != 0) = true then (some (r1, p0, p1)) else ((journal_replace.f k p1 a1).bind fun r3 => if (r3.1 == 0) = true then ((slices_Clone_byte_byte.f k a1).bind fun r5 => some (0, (⟨(), r5, ([] : List (List Int)), p0.stopped⟩ : journal_Journal), r3.2)) else (if (r3.1 == 71) = true then (some (r3.1, p0, r3.2)) else (some (r3.1, (⟨(), p0.snap, p0.l, true⟩ : journal_Journal), r3.2))))
theorem journal_Journal_Compact_13.meets (k : Nat) (p0 : journal_Journal) (a1 : List Int) (p1 : vdisk_Disk) (r : Int × journal_Journal × vdisk_Disk) (h : journal_Journal_Compact_13.f k p0 a1 p1 = some r) : Meets Try.prog 13 [(rf 0 0), (D.one (C.p false (.sl a1.length (a1.flatMap e_u8))))] [(o_journal_Journal_02 false (C.ref 1 0) (C.own 3 0 p0.l.length 1) p0), (o_vdisk_Disk_03 false (C.mp 2) (C.opt p1.fuse.isSome 4 0) p1), (om_ e_vdisk_file p1.files), (some (AObj.cells false (rowC (e_sl e_u8) p0.l))), (some (AObj.cells false [(ci (p1.fuse.getD default))]))] (si r.1) [(o_journal_Journal_02 false (C.ref 1 0) (C.own 5 0 r.2.1.l.length 1) r.2.1), (o_vdisk_Disk_03 false (C.mp 2) (C.opt r.2.2.fuse.isSome 6 0) r.2.2), (om_ e_vdisk_file r.2.2.files), none, none, (some (AObj.cells false (rowC (e_sl e_u8) r.2.1.l))), (some (AObj.cells false [(ci (r.2.2.fuse.getD default))]))] := by
 unfold journal_Journal_Compact_13.f at h
 refine Meets.of_body (n := 39) Try.func13 rfl rfl (nl rfl) fun x hx => ?_
 replace hx : x.k = 5 := hx
 show AW _ x _ _ ⟨39, fr0 [(rf 0 0), (D.one (C.p false (.sl a1.length (a1.flatMap e_u8))))], [(o_journal_Journal_02 false (C.ref 1 0) (C.own 3 0 p0.l.length 1) p0), (o_vdisk_Disk_03 false (C.mp 2) (C.opt p1.fuse.isSome 4 0) p1), (om_ e_vdisk_file p1.files), (some (AObj.cells false (rowC (e_sl e_u8) p0.l))), (some (AObj.cells false [(ci (p1.fuse.getD default))]))]⟩
 refine AW.weak (st' := ⟨39, (upd 39 (upd 39 topF 0 (rf 0 0)) 1 (D.one (C.p false (.sl a1.length (a1.flatMap e_u8))))), [(o_journal_Journal_02 false (C.ref 1 0) (C.own 5 0 p0.l.length 1) p0), (o_vdisk_Disk_03 false (C.mp 2) (C.opt p1.fuse.isSome 6 0) p1), (om_ e_vdisk_file p1.files), none, none, (some (AObj.cells false (rowC (e_sl e_u8) p0.l))), (some (AObj.cells false [(ci (p1.fuse.getD default))]))]⟩) (Weak.genL (kk := 5) [0, 1, 2, 3, 4, 3, 4] [] hx rfl (by decide) rfl rfl rfl rfl (le_upd (le_upd (le_top _) (o1 (.ref rfl))) (o1 .same)) (ac (.cells id (ac (.ref rfl) (ac .same (ac (.own rfl) (ac .sc an))))) (ac (.cells id (ac (.mp rfl) (ac .sc (ac .sc (ac (.opt rfl) (ac .sc an)))))) (ac .map (ac (.none _) (ac (.none _) (ac (.cells id (all2_row _)) (ac (.cells id (ac .sc an)) an)))))))) (AW.seq (AW.region ?_))
 refine s_assign (d := (si 0)) rfl (AWops.nil (AW.seq (AW.seq (AW.region ?_))))
 refine s_move (d := (rf 0 0)) rfl (s_move (d := (D.one (C.p false (.sl a1.length (a1.flatMap e_u8))))) rfl (s_len (n := a1.length) F.u_22 rfl (.inr ⟨(fun _ _ h => by cases h), ⟨_, rfl⟩⟩) (s_binI (v := (.bool (decide ((a1.length : Int) ≤ 4194304)))) rfl rfl rfl ?_)))
 obtain ⟨r1, er1, h⟩ := bnd h
 refine cc [0, 1, 5, 2, 6] [(o_journal_Journal_02 false (C.ref 1 0) (C.own 5 0 p0.l.length 1) p0), (o_vdisk_Disk_03 false (C.mp 2) (C.opt p1.fuse.isSome 7 0) p1), (om_ e_vdisk_file p1.files), none, none, (some (AObj.cells false (rowC (e_sl e_u8) p0.l))), none, (some (AObj.cells false [(ci (p1.fuse.getD default))]))] (si r1) F.ca_48 rfl rfl (ac (.one (.ref rfl)) (ac (.one .sc) an)) (ac (.cells (ac (.ref rfl) (ac .imm (ac (.own rfl) (ac .sc an))))) (ac (.cells (ac (.mp rfl) (ac .sc (ac .sc (ac (.opt rfl) (ac .sc an)))))) (ac (.cells (lend_row _)) (ac .map (ac (.cells (ac .sc an)) an))))) (journal_Journal_may.meets _ p0 (decide ((a1.length : Int) ≤ 4194304)) p1 r1 er1) (s_assign (d := (si r1)) rfl (AWops.nil (AW.seq (AW.region (s_move (d := (si r1)) rfl (s_binI (v := (.bool (r1 != 0))) rfl rfl rfl (AWops.nil ?_)))))))
 rcases itH h with ⟨c2, h⟩ | ⟨c2, h⟩
 ·refine AW.cond_yes rfl c2 (AW.seq (AW.region ?_))
  refine s_move (d := (si r1)) rfl (s_assign (d := (si r1)) rfl (AWops.nil (AW.ret ?_)))
  obtain rfl := Option.some.inj h
  exact ⟨_, rfl, (wG 5 [0, 1, 2, 3, 4, 5, 7] [])⟩
 ·refine AW.cond_no rfl c2 (AW.skip (AW.seq (AW.region ?_)))
  refine s_move (d := (rf 0 0)) rfl (s_nilCheck (d := (rf 0 0)) rfl (.inl ⟨_, _, rfl⟩) (s_fieldRef F.fo_68_0 (by decide) rfl (s_load1 (c' := (C.ref 1 0)) F.ag_25 rfl rfl (s_move (d := (D.one (C.p false (.sl a1.length (a1.flatMap e_u8))))) rfl ?_))))
  obtain ⟨r3, er3, h⟩ := bnd h
  refine cc [1, 2, 7] [(o_journal_Journal_02 false (C.ref 1 0) (C.own 5 0 p0.l.length 1) p0), (o_vdisk_Disk_03 false (C.mp 2) (C.opt r3.2.fuse.isSome 8 0) r3.2), (om_ e_vdisk_file r3.2.files), none, none, (some (AObj.cells false (rowC (e_sl e_u8) p0.l))), none, none, (some (AObj.cells false [(ci (r3.2.fuse.getD default))]))] (si r3.1) F.ca_26 rfl rfl (ac (.one (.ref rfl)) (ac (.one .imm) an)) (ac (.cells (ac (.mp rfl) (ac .sc (ac .sc (ac (.opt rfl) (ac .sc an)))))) (ac .map (ac (.cells (ac .sc an)) an))) (journal_replace.meets _ p1 a1 r3 er3) (s_assign (d := (si r3.1)) rfl (AWops.nil (AW.seq (AW.region (s_move (d := (si r3.1)) rfl (AWops.nil (AW.block (AW.seq (AW.region (s_binI (v := (.bool (r3.1 == 0))) rfl rfl rfl (s_assign (d := (sb (r3.1 == 0))) rfl (AWops.nil ?_))))))))))))
  rcases itH h with ⟨c4, h⟩ | ⟨c4, h⟩
  ·refine AW.cond_yes rfl c4 (AW.seq (AW.region ?_))
   refine s_move (d := (rf 0 0)) rfl (s_move (d := (rf 0 0)) rfl (s_move (d := (D.one (C.p false (.sl a1.length (a1.flatMap e_u8))))) rfl ?_))
   obtain ⟨r5, er5, h⟩ := bnd h
   refine cc [] [(o_journal_Journal_02 false (C.ref 1 0) (C.own 5 0 p0.l.length 1) p0), (o_vdisk_Disk_03 false (C.mp 2) (C.opt r3.2.fuse.isSome 8 0) r3.2), (om_ e_vdisk_file r3.2.files), none, none, (some (AObj.cells false (rowC (e_sl e_u8) p0.l))), none, none, (some (AObj.cells false [(ci (r3.2.fuse.getD default))])), (ow_ e_u8 r5)] (D.one (C.own 9 0 r5.length 1)) F.ca_27 rfl rfl (ac (.one .imm) an) an (slices_Clone_byte_byte.meets _ a1 r5 er5) (s_nilCheck (d := (rf 0 0)) rfl (.inl ⟨_, _, rfl⟩) (s_fieldRef F.fo_68_1 (by decide) rfl (s_store (cs' := [(C.ref 1 0), (C.own 9 0 r5.length 1), (C.own 5 0 p0.l.length 1), (cb p0.stopped)]) rfl rfl rfl (List.cons_ne_nil _ _) rfl F.sz_22 (nl rfl) rfl (s_nilCheck (d := (rf 0 0)) rfl (.inl ⟨_, _, rfl⟩) (s_fieldRef F.fo_68_2 (by decide) rfl ?_)))))
   refine s_store (cs' := [(C.ref 1 0), (C.own 9 0 r5.length 1), (C.p true (.v (.slice none 0 0))), (cb p0.stopped)]) rfl rfl rfl (List.cons_ne_nil _ _) rfl F.sz_61 (nl rfl) rfl (AWops.nil (AW.seq (AW.region ?_)))
   refine s_assign (d := (si 0)) rfl (AWops.nil (AW.ret ?_))
   obtain rfl := Option.some.inj h
   exact ⟨_, rfl, (Weak.trans (Weak.nilC (t := 0) (j := 2) (sz := 1) rfl rfl rfl) (wG 5 [0, 1, 2, 3, 4, 10, 8] [9]))⟩
  ·refine AW.cond_no rfl c4 (AW.seq (AW.region ?_))
   refine s_binI (v := (.bool (r3.1 == 71))) rfl rfl rfl (s_assign (d := (sb (r3.1 == 71))) rfl (AWops.nil ?_))
   rcases itH h with ⟨c6, h⟩ | ⟨c6, h⟩
   ·refine AW.cond_yes rfl c6 (AW.seq (AW.region ?_))
    refine s_move (d := (si r3.1)) rfl (s_assign (d := (si r3.1)) rfl (AWops.nil (AW.ret ?_)))
    obtain rfl := Option.some.inj h
    exact ⟨_, rfl, (wG 5 [0, 1, 2, 3, 4, 5, 8] [])⟩
   ·refine AW.cond_no rfl c6 (AW.seq (AW.region ?_))
    refine s_move (d := (rf 0 0)) rfl (s_nilCheck (d := (rf 0 0)) rfl (.inl ⟨_, _, rfl⟩) (s_fieldRef F.fo_68_3 (by decide) rfl (s_store (cs' := [(C.ref 1 0), (C.p false (.sl p0.snap.length (p0.snap.flatMap e_u8))), (C.own 5 0 p0.l.length 1), (cb true)]) rfl rfl rfl (List.cons_ne_nil _ _) rfl F.sz_4 (nl rfl) rfl (AWops.nil (AW.seq (AW.region (s_move (d := (si r3.1)) rfl (s_assign (d := (si r3.1)) rfl (AWops.nil (AW.ret ?_))))))))))
    obtain rfl := Option.some.inj h
    exact ⟨_, rfl, (wG 5 [0, 1, 2, 3, 4, 5, 8] [])⟩
def dossierref04_Journal_Compact_14.f (k : Nat) (p0 : dossierref04_Journal) (a1 : List Int) (p1 : dossierref03_Disk) : Option (Int × dossierref04_Journal × dossierref03_Disk) := if (decide ((a1.length : Int) > 4194304)) = true then (some (1, p0, p1)) else (if p0.Stop = true then (some (70, p0, p1)) else ((dossierref04_fresh_30.f k p1 a1).bind fun r3 => if (r3.1 == 71) = true then (some (r3.1, p0, r3.2)) else (if (r3.1 != 0) = true then (some (r3.1, (⟨(), p0.Snap, p0.L, true⟩ : dossierref04_Journal), r3.2)) else (if (decide (([] : List Int).length + a1.length ≤ 140737488355328)) = true then (some (0, (⟨(), a1, ([] : List (List Int)), p0.Stop⟩ : dossierref04_Journal), r3.2)) else none))))
theorem dossierref04_Journal_Compact_14.meets (k : Nat) (p0 : dossierref04_Journal) (a1 : List Int) (p1 : dossierref03_Disk) (r : Int × dossierref04_Journal × dossierref03_Disk) (h : dossierref04_Journal_Compact_14.f k p0 a1 p1 = some r) : Meets Try.prog 14 [(rf 0 0), (D.one (C.p false (.sl a1.length (a1.flatMap e_u8))))] [(o_dossierref04_Journal_02 false (C.ref 1 0) (C.own 2 0 p0.L.length 1) p0), (o_dossierref03_Disk_0 false (C.own 3 0 p1.L.length 3) p1), (some (AObj.cells false (rowC (e_sl e_u8) p0.L))), (or_ e_dossierref03_File p1.L)] (si r.1) [(o_dossierref04_Journal_02 false (C.ref 1 0) (C.own 4 0 r.2.1.L.length 1) r.2.1), (o_dossierref03_Disk_0 false (C.own 5 0 r.2.2.L.length 3) r.2.2), none, none, (some (AObj.cells false (rowC (e_sl e_u8) r.2.1.L))), (or_ e_dossierref03_File r.2.2.L)] := by
 unfold dossierref04_Journal_Compact_14.f at h
 refine Meets.of_body (n := 37) Try.func14 rfl rfl (nl rfl) fun x hx => ?_
 replace hx : x.k = 4 := hx
 show AW _ x _ _ ⟨37, fr0 [(rf 0 0), (D.one (C.p false (.sl a1.length (a1.flatMap e_u8))))], [(o_dossierref04_Journal_02 false (C.ref 1 0) (C.own 2 0 p0.L.length 1) p0), (o_dossierref03_Disk_0 false (C.own 3 0 p1.L.length 3) p1), (some (AObj.cells false (rowC (e_sl e_u8) p0.L))), (or_ e_dossierref03_File p1.L)]⟩
 refine AW.weak (st' := ⟨37, (upd 37 (upd 37 topF 0 (rf 0 0)) 1 (D.one (C.p false (.sl a1.length (a1.flatMap e_u8))))), [(o_dossierref04_Journal_02 false (C.ref 1 0) (C.own 4 0 p0.L.length 1) p0), (o_dossierref03_Disk_0 false (C.own 5 0 p1.L.length 3) p1), none, none, (some (AObj.cells false (rowC (e_sl e_u8) p0.L))), (or_ e_dossierref03_File p1.L)]⟩) (Weak.genL (kk := 4) [0, 1, 2, 3, 2, 3] [] hx rfl (by decide) rfl rfl rfl rfl (le_upd (le_upd (le_top _) (o1 (.ref rfl))) (o1 .same)) (ac (.cells id (ac (.ref rfl) (ac .same (ac (.own rfl) (ac .sc an))))) (ac (.cells id (ac (.own rfl) (ac .sc (ac .sc (ac .sc an))))) (ac (.none _) (ac (.none _) (ac (.cells id (all2_row _)) (ac (.cells id (all2_row _)) an))))))) (AW.seq (AW.region ?_))
 refine s_assign (d := (si 0)) rfl (AWops.nil (AW.seq (AW.seq (AW.region ?_))))
 refine s_move (d := (D.one (C.p false (.sl a1.length (a1.flatMap e_u8))))) rfl (s_len (n := a1.length) F.u_22 rfl (.inr ⟨(fun _ _ h => by cases h), ⟨_, rfl⟩⟩) (s_binI (v := (.bool (decide ((a1.length : Int) > 4194304)))) rfl rfl rfl (AWops.nil ?_)))
 rcases itH h with ⟨c1, h⟩ | ⟨c1, h⟩
 ·refine AW.cond_yes rfl c1 (AW.seq (AW.region ?_))
  refine s_assign (d := (si 1)) rfl (AWops.nil (AW.ret ?_))
  obtain rfl := Option.some.inj h
  exact ⟨_, rfl, (wG 4 [0, 1, 2, 3, 4, 5] [])⟩
 ·refine AW.cond_no rfl c1 (AW.skip (AW.seq (AW.seq (AW.region ?_))))
  refine s_move (d := (rf 0 0)) rfl (s_nilCheck (d := (rf 0 0)) rfl (.inl ⟨_, _, rfl⟩) (s_fieldRef F.fo_63_3 (by decide) rfl (s_load1 (c' := (cb p0.Stop)) F.ag_4 rfl rfl (AWops.nil ?_))))
  rcases itH h with ⟨c2, h⟩ | ⟨c2, h⟩
  ·refine AW.cond_yes rfl c2 (AW.seq (AW.region ?_))
   refine s_assign (d := (si 70)) rfl (AWops.nil (AW.ret ?_))
   obtain rfl := Option.some.inj h
   exact ⟨_, rfl, (wG 4 [0, 1, 2, 3, 4, 5] [])⟩
  ·refine AW.cond_no rfl c2 (AW.skip (AW.seq (AW.region ?_)))
   refine s_move (d := (rf 0 0)) rfl (s_nilCheck (d := (rf 0 0)) rfl (.inl ⟨_, _, rfl⟩) (s_fieldRef F.fo_63_0 (by decide) rfl (s_load1 (c' := (C.ref 1 0)) F.ag_29 rfl rfl (s_move (d := (D.one (C.p false (.sl a1.length (a1.flatMap e_u8))))) rfl ?_))))
   obtain ⟨r3, er3, h⟩ := bnd h
   refine cc [1, 5] [(o_dossierref04_Journal_02 false (C.ref 1 0) (C.own 4 0 p0.L.length 1) p0), (o_dossierref03_Disk_0 false (C.own 6 0 r3.2.L.length 3) r3.2), none, none, (some (AObj.cells false (rowC (e_sl e_u8) p0.L))), none, (or_ e_dossierref03_File r3.2.L)] (si r3.1) F.ca_30 rfl rfl (ac (.one (.ref rfl)) (ac (.one .imm) an)) (ac (.cells (ac (.own rfl) (ac .sc (ac .sc (ac .sc an))))) (ac (.cells (lend_row _)) an)) (dossierref04_fresh_30.meets _ p1 a1 r3 er3) (s_assign (d := (si r3.1)) rfl (AWops.nil (AW.seq (AW.seq (AW.region (s_move (d := (si r3.1)) rfl (s_binI (v := (.bool (r3.1 == 71))) rfl rfl rfl (AWops.nil ?_))))))))
   rcases itH h with ⟨c4, h⟩ | ⟨c4, h⟩
   ·refine AW.cond_yes rfl c4 (AW.seq (AW.region ?_))
    refine s_move (d := (si r3.1)) rfl (s_assign (d := (si r3.1)) rfl (AWops.nil (AW.ret ?_)))
    obtain rfl := Option.some.inj h
    exact ⟨_, rfl, (wG 4 [0, 1, 2, 3, 4, 6] [])⟩
   ·refine AW.cond_no rfl c4 (AW.skip (AW.seq (AW.seq (AW.region ?_))))
    refine s_move (d := (si r3.1)) rfl (s_binI (v := (.bool (r3.1 != 0))) rfl rfl rfl (AWops.nil ?_))
    rcases itH h with ⟨c5, h⟩ | ⟨c5, h⟩
    ·refine AW.cond_yes rfl c5 (AW.seq (AW.region ?_))
     refine s_move (d := (rf 0 0)) rfl (s_nilCheck (d := (rf 0 0)) rfl (.inl ⟨_, _, rfl⟩) (s_fieldRef F.fo_63_3 (by decide) rfl (s_store (cs' := [(C.ref 1 0), (C.p false (.sl p0.Snap.length (p0.Snap.flatMap e_u8))), (C.own 4 0 p0.L.length 1), (cb true)]) rfl rfl rfl (List.cons_ne_nil _ _) rfl F.sz_4 (nl rfl) rfl (AWops.nil (AW.seq (AW.region (s_move (d := (si r3.1)) rfl (s_assign (d := (si r3.1)) rfl (AWops.nil (AW.ret ?_))))))))))
     obtain rfl := Option.some.inj h
     exact ⟨_, rfl, (wG 4 [0, 1, 2, 3, 4, 6] [])⟩
    ·refine AW.cond_no rfl c5 (AW.skip (AW.seq (AW.region ?_)))
     refine s_move (d := (rf 0 0)) rfl (s_move (d := (rf 0 0)) rfl (s_buildSlice (n := 0) (ps := []) (cs := rowC e_u8 ([] : List Int)) F.u_22 F.sz_5 F.z_5 rfl rfl (by decide) (by decide) rfl rfl (s_move (d := (D.one (C.p false (.sl a1.length (a1.flatMap e_u8))))) rfl ?_)))
     obtain ⟨c6, h⟩ := gdH h
     have dc6 := of_decide_eq_true c6
     refine t_append (xs := ([] : List Int)) (ys := a1) (zs := a1) (H' := [(o_dossierref04_Journal_02 false (C.ref 1 0) (C.own 4 0 p0.L.length 1) p0), (o_dossierref03_Disk_0 false (C.own 6 0 r3.2.L.length 3) r3.2), none, none, (some (AObj.cells false (rowC (e_sl e_u8) p0.L))), none, (or_ e_dossierref03_File r3.2.L), none, (ow_ e_u8 a1)]) F.u_22 F.in_5 rfl e_u8_len (.own rfl rfl) .imm F.u_22 (by omega) (by omega) rfl rfl (s_nilCheck (d := (rf 0 0)) rfl (.inl ⟨_, _, rfl⟩) (s_fieldRef F.fo_63_1 (by decide) rfl (s_store (cs' := [(C.ref 1 0), (C.own 8 0 a1.length 1), (C.own 4 0 p0.L.length 1), (cb p0.Stop)]) rfl rfl rfl (List.cons_ne_nil _ _) rfl F.sz_22 (nl rfl) rfl (s_nilCheck (d := (rf 0 0)) rfl (.inl ⟨_, _, rfl⟩) (s_fieldRef F.fo_63_2 (by decide) rfl ?_)))))
     refine s_store (cs' := [(C.ref 1 0), (C.own 8 0 a1.length 1), (C.p true (.v (.slice none 0 0))), (cb p0.Stop)]) rfl rfl rfl (List.cons_ne_nil _ _) rfl F.sz_61 (nl rfl) rfl (AWops.nil (AW.seq (AW.region ?_)))
     refine s_assign (d := (si 0)) rfl (AWops.nil (AW.ret ?_))
     obtain rfl := Option.some.inj h
     exact ⟨_, rfl, (Weak.trans (Weak.nilC (t := 0) (j := 2) (sz := 1) rfl rfl rfl) (wG 4 [0, 1, 2, 3, 9, 6] [8]))⟩
end Go.Abs.GenZ
