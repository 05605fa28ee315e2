import Derived.Test.YtiegaebmhpdnmaaGenRde
set_option linter.unusedVariables false
set_option linter.unusedSimpArgs false
set_option maxRecDepth 100000
set_option maxHeartbeats 4000000
namespace Go.Abs.GenRd
open Go.Abs Go.Proofs
mutual
def slices_Concat_byte_byte_34.l1 : Nat → (List Int) → Int → (List (List Int)) → Option (List Int)
 | 0, _, _, _ => none
 | k + 1, x7, x8, a0 => if (decide (x8 < (a0.length : Int))) = true then ((rd a0 x8).bind fun v10 => if (decide (x7.length + v10.length ≤ 140737488355328)) = true then (slices_Concat_byte_byte_34.l1 k (x7 ++ v10) (IntKind.i64.wrap (x8 + 1)) a0) else none) else (some x7)
def slices_Concat_byte_byte_34.l0 : Nat → Int → Int → (List (List Int)) → Option (List Int)
 | 0, _, _, _ => none
 | k + 1, x1, x2, a0 => if (decide (x2 < (a0.length : Int))) = true then ((rd a0 x2).bind fun v4 => if (decide ((IntKind.i64.wrap (x1 + (v4.length : Int))) < 0)) = true then (none) else (slices_Concat_byte_byte_34.l0 k (IntKind.i64.wrap (x1 + (v4.length : Int))) (IntKind.i64.wrap (x2 + 1)) a0)) else ((slices_Grow_byte_byte_nil0.f k x1).bind fun r6 => slices_Concat_byte_byte_34.l1 k r6 0 a0)
end
def slices_Concat_byte_byte_34.f (k : Nat) (a0 : List (List Int)) : Option (List Int) := slices_Concat_byte_byte_34.l0 k 0 0 a0
theorem slices_Concat_byte_byte_34.meets (k : Nat) (a0 : List (List Int)) (r : (List Int)) (h : slices_Concat_byte_byte_34.f k a0 = some r) : Meets Try.prog 34 [(D.one (C.p false (.sl a0.length (a0.flatMap (e_sl e_u8)))))] [] (D.one (C.own 0 0 r.length 1)) [(ow_ e_u8 r)] := by
 unfold slices_Concat_byte_byte_34.f at h
 refine Meets.of_body (n := 36) Try.func34 rfl rfl (nl rfl) fun x hx => ?_
 replace hx : x.k = 0 := hx
 show AW _ x _ _ ⟨36, fr0 [(D.one (C.p false (.sl a0.length (a0.flatMap (e_sl e_u8)))))], []⟩
 refine AW.seq (AW.region ?_)
 refine s_assign (d := (sc (.slice none 0 0))) rfl (AWops.nil (AW.seq (AW.region ?_)))
 refine s_assign (d := (si 0)) rfl (AWops.nil (AW.seq (AW.seq (AW.region ?_))))
 refine s_move (d := (D.one (C.p false (.sl a0.length (a0.flatMap (e_sl e_u8)))))) rfl (s_len (n := a0.length) F.u_23 rfl (.inr ⟨(fun _ _ h => by cases h), ⟨_, rfl⟩⟩) (s_move (d := (si 0)) rfl (AWops.nil (AW.block ?_))))
 refine AW.loopw (st0 := ⟨36, (upd 36 (upd 36 (upd 36 (upd 36 (upd 36 topF 0 (D.one (C.p false (.sl a0.length (a0.flatMap (e_sl e_u8)))))) 3 (si 0)) 9 (D.one (C.p false (.sl a0.length (a0.flatMap (e_sl e_u8)))))) 10 (si (a0.length : Int))) 11 (si 0)), []⟩) (fun kv st => kv ≤ k ∧ ∃ (x1 : Int) (x2 : Int), slices_Concat_byte_byte_34.l0 kv x1 x2 a0 = some r ∧ st = ⟨36, (upd 36 (upd 36 (upd 36 (upd 36 (upd 36 topF 0 (D.one (C.p false (.sl a0.length (a0.flatMap (e_sl e_u8)))))) 3 (si x1)) 9 (D.one (C.p false (.sl a0.length (a0.flatMap (e_sl e_u8)))))) 10 (si (a0.length : Int))) 11 (si x2)), []⟩) (k := k) (wg 0 [] [] hx (le_upd (le_upd (le_upd (le_upd (le_upd (le_top _) (o1 .same)) (o1 .sc)) (o1 .same)) (o1 .sc)) (o1 .sc)) an) ⟨Nat.le_refl _, 0, 0, h, rfl⟩ ?_
 rintro ql0 st ⟨hkl0, x1, x2, h, rfl⟩
 cases ql0 with
 | zero => exact absurd h (by simp [slices_Concat_byte_byte_34.l0])
 | succ ql0 =>
  replace h := (slices_Concat_byte_byte_34.l0.eq_2 _ _ _ _).symm.trans h
  refine AW.seq (AW.region ?_)
  refine s_binI (v := (.bool (decide (x2 < (a0.length : Int))))) rfl rfl rfl (AWops.nil (AW.seq ?_))
  rcases itH h with ⟨c3, h⟩ | ⟨c3, h⟩
  ·refine AW.cond_yes rfl c3 (AW.skip (AW.seq (AW.block (AW.seq (AW.region ?_)))))
   obtain ⟨v4, ev4, h⟩ := bnd h
   obtain ⟨pv4, qv4, gv4⟩ := rd_some ev4
   refine s_indexImm (ps := [P.sl v4.length (v4.flatMap e_u8)]) F.u_23 F.sz_22 rfl rfl pv4 qv4 (flat_at (e_sl_len _) gv4 (e_sl_eq _ v4)) (s_load1 (c' := (C.p false (.sl v4.length (v4.flatMap e_u8)))) F.ag_22 rfl rfl (s_assign (d := (D.one (C.p false (.sl v4.length (v4.flatMap e_u8))))) rfl (AWops.nil (AW.seq (AW.region (s_move (d := (si x1)) rfl (s_move (d := (D.one (C.p false (.sl v4.length (v4.flatMap e_u8))))) rfl (s_len (n := v4.length) F.u_22 rfl (.inr ⟨(fun _ _ h => by cases h), ⟨_, rfl⟩⟩) ?_))))))))
   refine s_binI (v := (.int .i64 (IntKind.i64.wrap (x1 + (v4.length : Int))))) rfl rfl rfl (s_assign (d := (si (IntKind.i64.wrap (x1 + (v4.length : Int))))) rfl (AWops.nil (AW.seq (AW.region (s_move (d := (si (IntKind.i64.wrap (x1 + (v4.length : Int))))) rfl (s_binI (v := (.bool (decide ((IntKind.i64.wrap (x1 + (v4.length : Int))) < 0)))) rfl rfl rfl (AWops.nil ?_)))))))
   rcases itH h with ⟨c5, h⟩ | ⟨c5, h⟩
   ·refine AW.cond_yes rfl c5 (AW.region ?_)
    cases h
   ·refine AW.cond_no rfl c5 (AW.skip (AW.region ?_))
    refine s_binI (v := (.int .i64 (IntKind.i64.wrap (x2 + 1)))) rfl rfl rfl (s_move (d := (si (IntKind.i64.wrap (x2 + 1)))) rfl (AWops.nil ?_))
    exact ⟨_, ⟨36, (upd 36 (upd 36 (upd 36 (upd 36 (upd 36 topF 0 (D.one (C.p false (.sl a0.length (a0.flatMap (e_sl e_u8)))))) 3 (si (IntKind.i64.wrap (x1 + (v4.length : Int))))) 9 (D.one (C.p false (.sl a0.length (a0.flatMap (e_sl e_u8)))))) 10 (si (a0.length : Int))) 11 (si (IntKind.i64.wrap (x2 + 1)))), []⟩, by omega, (wg 0 [] [] hx (le_upd (le_upd (le_upd (le_upd (le_upd (le_top _) (o1 .same)) (o1 .sc)) (o1 .same)) (o1 .sc)) (o1 .sc)) an), by omega, IntKind.i64.wrap (x1 + (v4.length : Int)), IntKind.i64.wrap (x2 + 1), h, rfl⟩
  ·refine AW.cond_no rfl c3 (AW.exit (AW.seq (AW.region ?_)))
   refine s_move (d := (si x1)) rfl ?_
   obtain ⟨r6, er6, h⟩ := bnd h
   refine cc [] [(ow_ e_u8 r6)] (D.one (C.own 0 0 r6.length 1)) F.ca_54 rfl rfl (ac (.one .sc) (ac (.one .sc) an)) an (slices_Grow_byte_byte_nil0.meets _ x1 r6 er6) (s_assign (d := (D.one (C.own 0 0 r6.length 1))) rfl (AWops.nil (AW.seq (AW.seq (AW.region (s_move (d := (D.one (C.p false (.sl a0.length (a0.flatMap (e_sl e_u8)))))) rfl (s_len (n := a0.length) F.u_23 rfl (.inr ⟨(fun _ _ h => by cases h), ⟨_, rfl⟩⟩) (s_move (d := (si 0)) rfl (AWops.nil (AW.block ?_))))))))))
   refine AW.loopw (st0 := ⟨36, (upd 36 (upd 36 (upd 36 (upd 36 topF 6 (D.one (C.own 0 0 r6.length 1))) 25 (D.one (C.p false (.sl a0.length (a0.flatMap (e_sl e_u8)))))) 26 (si (a0.length : Int))) 27 (si 0)), [(ow_ e_u8 r6)]⟩) (fun kv st => kv ≤ ql0 ∧ ∃ (x7 : List Int) (x8 : Int), slices_Concat_byte_byte_34.l1 kv x7 x8 a0 = some r ∧ st = ⟨36, (upd 36 (upd 36 (upd 36 (upd 36 topF 6 (D.one (C.own 0 0 x7.length 1))) 25 (D.one (C.p false (.sl a0.length (a0.flatMap (e_sl e_u8)))))) 26 (si (a0.length : Int))) 27 (si x8)), [(ow_ e_u8 x7)]⟩) (k := ql0) (wg 0 [0] [] hx (le_upd (le_upd (le_upd (le_upd (le_top _) (o1 (.own rfl))) (o1 .same)) (o1 .sc)) (o1 .sc)) (ac (.cells (fun _ => rfl) (all2_row _)) an)) ⟨Nat.le_refl _, r6, 0, h, rfl⟩ ?_
   rintro ql1 st ⟨hkl1, x7, x8, h, rfl⟩
   cases ql1 with
   | zero => exact absurd h (by simp [slices_Concat_byte_byte_34.l1])
   | succ ql1 =>
    replace h := (slices_Concat_byte_byte_34.l1.eq_2 _ _ _ _).symm.trans h
    refine AW.seq (AW.region ?_)
    refine s_binI (v := (.bool (decide (x8 < (a0.length : Int))))) rfl rfl rfl (AWops.nil (AW.seq ?_))
    rcases itH h with ⟨c9, h⟩ | ⟨c9, h⟩
    ·refine AW.cond_yes rfl c9 (AW.skip (AW.seq (AW.block (AW.seq (AW.region ?_)))))
     obtain ⟨v10, ev10, h⟩ := bnd h
     obtain ⟨pv10, qv10, gv10⟩ := rd_some ev10
     refine s_indexImm (ps := [P.sl v10.length (v10.flatMap e_u8)]) F.u_23 F.sz_22 rfl rfl pv10 qv10 (flat_at (e_sl_len _) gv10 (e_sl_eq _ v10)) (s_load1 (c' := (C.p false (.sl v10.length (v10.flatMap e_u8)))) F.ag_22 rfl rfl (s_assign (d := (D.one (C.p false (.sl v10.length (v10.flatMap e_u8))))) rfl (AWops.nil (AW.region (s_move (d := (D.one (C.own 0 0 x7.length 1))) rfl (s_move (d := (D.one (C.p false (.sl v10.length (v10.flatMap e_u8))))) rfl ?_))))))
     obtain ⟨c11, h⟩ := gdH h
     have dc11 := of_decide_eq_true c11
     refine t_append (xs := x7) (ys := v10) (zs := x7 ++ v10) (H' := [none, (some (AObj.cells true (rowC e_u8 (x7 ++ v10))))]) F.u_22 F.in_5 rfl e_u8_len (.own rfl rfl) .imm F.u_22 (by omega) (by omega) rfl rfl (s_assign (d := (D.one (C.own 1 0 ((x7 ++ v10).length) 1))) rfl (AWops.nil (AW.region (s_binI (v := (.int .i64 (IntKind.i64.wrap (x8 + 1)))) rfl rfl rfl (s_move (d := (si (IntKind.i64.wrap (x8 + 1)))) rfl (AWops.nil ?_))))))
     exact ⟨_, ⟨36, (upd 36 (upd 36 (upd 36 (upd 36 topF 6 (D.one (C.own 0 0 (x7 ++ v10).length 1))) 25 (D.one (C.p false (.sl a0.length (a0.flatMap (e_sl e_u8)))))) 26 (si (a0.length : Int))) 27 (si (IntKind.i64.wrap (x8 + 1)))), [(some (AObj.cells true (rowC e_u8 (x7 ++ v10))))]⟩, by omega, (wg 0 [1] [] hx (le_upd (le_upd (le_upd (le_upd (le_top _) (o1 (.own rfl))) (o1 .same)) (o1 .sc)) (o1 .sc)) (ac (.cells (fun _ => rfl) (all2_row _)) an)), by omega, x7 ++ v10, IntKind.i64.wrap (x8 + 1), h, rfl⟩
    ·refine AW.cond_no rfl c9 (AW.exit (AW.seq (AW.region ?_)))
     refine s_move (d := (D.one (C.own 0 0 x7.length 1))) rfl (s_assign (d := (D.one (C.own 0 0 x7.length 1))) rfl (AWops.nil (AW.ret ?_)))
     obtain rfl := Option.some.inj h
     exact ⟨_, rfl, (wg 0 [0] [] rfl (le_upd (le_top _) (o1 (.own rfl))) (ac (.cells (fun _ => rfl) (all2_row _)) an))⟩
def vdisk_Disk_Append_9x.f (k : Nat) (p0 : vdisk_Disk) (a1 : ByteArray) (a2 : List Int) : Option (Int × vdisk_Disk) := (vdisk_named.f k a1).bind fun r1 => (vdisk_Disk_change.f k p0 r1 a1 true (a2.length : Int)).bind fun r2 => if (r2 == 0) = true then ((slices_Concat_byte_byte_34.f k ([(lk_vdisk_file a1 p0.files).b, a2] : List (List Int))).bind fun r4 => (vdisk_Disk_set.f k p0 a1 (⟨r4, (lk_vdisk_file a1 p0.files).sure⟩ : vdisk_file)).bind fun r5 => some (r2, r5)) else (some (r2, p0))
theorem vdisk_Disk_Append_9x.meets (k : Nat) (p0 : vdisk_Disk) (a1 : ByteArray) (a2 : List Int) (r : Int × vdisk_Disk) (h : vdisk_Disk_Append_9x.f k p0 a1 a2 = some r) : Meets Try.prog 9 [(rf 0 0), (st_ a1), (D.one (C.p false (.sl a2.length (a2.flatMap e_u8))))] [(o_vdisk_Disk_03 false (C.mp 1) (C.p true (.v (.pointer none))) p0), (om_ e_vdisk_file p0.files)] (si r.1) [(o_vdisk_Disk_03 false (C.mp 1) (C.p true (.v (.pointer none))) r.2), (om_ e_vdisk_file r.2.files)] := by
 unfold vdisk_Disk_Append_9x.f at h
 refine Meets.of_body (n := 36) Try.func9 rfl rfl (nl rfl) fun x hx => ?_
 replace hx : x.k = 2 := hx
 show AW _ x _ _ ⟨36, fr0 [(rf 0 0), (st_ a1), (D.one (C.p false (.sl a2.length (a2.flatMap e_u8))))], [(o_vdisk_Disk_03 false (C.mp 1) (C.p true (.v (.pointer none))) p0), (om_ e_vdisk_file p0.files)]⟩
 refine AW.seq (AW.region ?_)
 refine s_assign (d := (si 0)) rfl (AWops.nil (AW.seq (AW.region ?_)))
 refine s_move (d := (rf 0 0)) rfl (s_move (d := (st_ a1)) rfl ?_)
 obtain ⟨r1, er1, h⟩ := bnd h
 refine cc [] [(o_vdisk_Disk_03 false (C.mp 1) (C.p true (.v (.pointer none))) p0), (om_ e_vdisk_file p0.files)] (sb r1) F.ca_32 rfl rfl (ac (.one .sc) an) an (vdisk_named.meets _ a1 r1 er1) (s_move (d := (st_ a1)) rfl (s_move (d := (D.one (C.p false (.sl a2.length (a2.flatMap e_u8))))) rfl (s_len (n := a2.length) F.u_22 rfl (.inr ⟨(fun _ _ h => by cases h), ⟨_, rfl⟩⟩) ?_)))
 obtain ⟨r2, er2, h⟩ := bnd h
 refine cc [0, 1] [(o_vdisk_Disk_03 false (C.mp 1) (C.p true (.v (.pointer none))) p0), (om_ e_vdisk_file p0.files)] (si r2) F.ca_31 rfl rfl (ac (.one (.ref rfl)) (ac (.one .sc) (ac (.one .sc) (ac (.one .sc) (ac (.one .sc) an))))) (ac (.cells (ac (.mp rfl) (ac .sc (ac .sc (ac .sc (ac .sc an)))))) (ac .map an)) (vdisk_Disk_change.meets _ p0 r1 a1 true (a2.length : Int) r2 er2) (s_assign (d := (si r2)) rfl (AWops.nil (AW.seq (AW.seq (AW.region (s_move (d := (si r2)) rfl (s_binI (v := (.bool (r2 == 0))) rfl rfl rfl (AWops.nil ?_))))))))
 rcases itH h with ⟨c3, h⟩ | ⟨c3, h⟩
 ·refine AW.cond_yes rfl c3 (AW.seq (AW.region ?_))
  refine s_move (d := (rf 0 0)) rfl (s_nilCheck (d := (rf 0 0)) rfl (.inl ⟨_, _, rfl⟩) (s_fieldRef F.fo_50_0 (by decide) rfl (s_load1 (c' := (C.mp 1)) F.ag_47 rfl rfl (s_move (d := (st_ a1)) rfl (t_lookup (b := true) F.u_47 F.u_9 F.z_65 (z := ((⟨([] : List Int), 0⟩ : vdisk_file) : vdisk_file)) (zs := [(.slice none 0 0), (.int .i64 0)]) rfl (fun h => by cases h) (ac ZRel.n (ac (ZRel.v _ rfl) an)) rfl rfl rfl rfl ?_)))))
  refine s_alloc (cs := [(C.p true (.v (.slice none 0 0))), (ci 0)]) F.z_65 rfl rfl (s_store (cs' := (c_vdisk_file (lk_vdisk_file a1 p0.files))) rfl rfl rfl (List.cons_ne_nil _ _) rfl F.sz_65 (nl rfl) rfl (AWops.nil ?_))
  refine AW.weak (st' := ⟨36, (upd 36 (upd 36 (upd 36 (upd 36 (upd 36 topF 0 (rf 0 0)) 1 (st_ a1)) 2 (D.one (C.p false (.sl a2.length (a2.flatMap e_u8))))) 7 (si r2)) 8 (rf 2 0)), [(o_vdisk_Disk_03 false (C.mp 1) (C.p true (.v (.pointer none))) p0), (om_ e_vdisk_file p0.files), (some (AObj.cells true (c_vdisk_file (lk_vdisk_file a1 p0.files))))]⟩) (wg 2 [0, 1, 2] [] hx (le_upd (le_upd (le_upd (le_upd (le_upd (le_top _) (o1 (.ref rfl))) (o1 .sc)) (o1 .same)) (o1 .sc)) (o1 (.ref rfl))) (ac (qs rfl) (ac .map (ac (.cells (fun _ => rfl) (ac .same (ac .sc an))) an)))) ?_
  obtain ⟨r4, er4, h⟩ := bnd h
  obtain ⟨r5, er5, h⟩ := bnd h
  refine AW.draw (n := 36) (L := 6) [(ft 0 24 (rf 0 0) [(0, (rf 0 0))]), (ft 1 25 (st_ a1) [(1, (st_ a1))]), (ft 2 26 (rf 2 0) [(8, (rf 2 0))]), (3, ⟨some 27, (D.one (C.p false (.sl ((lk_vdisk_file a1 p0.files).b).length (((lk_vdisk_file a1 p0.files).b).flatMap e_u8)))), [(26, (rf 2 0))], [(2, (some (AObj.cells true (c_vdisk_file (lk_vdisk_file a1 p0.files)))))], [], none⟩), (ft 4 28 (D.one (C.p false (.sl a2.length (a2.flatMap e_u8)))) [(2, (D.one (C.p false (.sl a2.length (a2.flatMap e_u8)))))]), (5, ⟨some 29, (D.one (C.own 3 0 (([(lk_vdisk_file a1 p0.files).b, a2] : List (List Int)).length) 1)), [(27, (D.one (C.p false (.sl ((lk_vdisk_file a1 p0.files).b).length (((lk_vdisk_file a1 p0.files).b).flatMap e_u8))))), (28, (D.one (C.p false (.sl a2.length (a2.flatMap e_u8)))))], [], [(3, (some (AObj.cells true (rowC (e_sl e_u8) ([(lk_vdisk_file a1 p0.files).b, a2] : List (List Int))))))], some 3⟩), (6, ⟨some 30, (D.one (C.p false (.sl r4.length (r4.flatMap e_u8)))), [(29, (D.one (C.own 3 0 (([(lk_vdisk_file a1 p0.files).b, a2] : List (List Int)).length) 1)))], [(3, (some (AObj.cells true (rowC (e_sl e_u8) ([(lk_vdisk_file a1 p0.files).b, a2] : List (List Int))))))], [], some 4⟩), (ft 7 31 (rf 2 1) [(8, (rf 2 0))]), (8, ⟨some 32, (si ((lk_vdisk_file a1 p0.files).sure)), [(31, (rf 2 1))], [(2, (some (AObj.cells true (c_vdisk_file (lk_vdisk_file a1 p0.files)))))], [], none⟩), (ft 9 33 (D.agg [(C.p false (.sl r4.length (r4.flatMap e_u8))), (ci ((lk_vdisk_file a1 p0.files).sure))]) [(30, (D.one (C.p false (.sl r4.length (r4.flatMap e_u8))))), (32, (si ((lk_vdisk_file a1 p0.files).sure)))]), (10, ⟨some 34, (D.tup []), [(24, (rf 0 0)), (25, (st_ a1)), (33, (D.agg [(C.p false (.sl r4.length (r4.flatMap e_u8))), (ci ((lk_vdisk_file a1 p0.files).sure))]))], [(0, (o_vdisk_Disk_03 false (C.mp 1) (C.p true (.v (.pointer none))) p0)), (1, (om_ e_vdisk_file p0.files))], [(0, (o_vdisk_Disk_03 false (C.mp 1) (C.p true (.v (.pointer none))) r5)), (1, (om_ e_vdisk_file r5.files))], none⟩)] [[], [], [], [2], [], [2, 3, 4], [2, 3, 4, 5], [], [7], [2, 3, 4, 5, 6, 7, 8], (.range 10)] (nl rfl) [0, 0, 0, 1, 0, 2, 3, 0, 1, 4, 5] rfl (TK := [(5, 3), (6, 4)]) rfl (AllK.cons' ⟨(tk_upd (tk_upd (tk_upd (tk_upd (tk_upd tk_top rfl) rfl) rfl) rfl) rfl), (tC rfl (tC rfl (tC rfl AllT.nil'))), (fC (.inr rfl) (fC (.inr rfl) (fC (.inr rfl) (fC (.inr rfl) (fC (.inr rfl) (fC (.inl rfl) (fC (.inl rfl) (fC (.inr rfl) (fC (.inr rfl) (fC (.inl rfl) (fC (.inl rfl) AllF.nil')))))))))))⟩ (AllK.cons' ⟨(tk_upd (tk_upd (tk_upd (tk_upd (tk_upd tk_top rfl) rfl) rfl) rfl) rfl), (tC rfl (tC rfl (tC rfl AllT.nil'))), (by repeat (first | refine fC (.inl rfl) ?_ | refine fC (.inr rfl) ?_ | refine fC (.inr (by unfold tkFoot; simp only [List.all_cons, List.all_nil, tkO_row, Bool.and_true, Bool.true_and]; rfl)) ?_ | trivial))⟩ AllK.nil')) (by repeat (first | refine fC ⟨?_, ?_⟩ ?_ | refine sC rfl ?_ | refine hC rfl ?_ | trivial)) ?_ ?_
  ·refine y8 ?_ ?_ ?_ ?_ ?_ ?_ ?_ ?_ (y2 ?_ ?_ (pC ?_ yN))
   ·intro K _ f w u k
    show Wp K ⟨36, (upd 36 f 0 (rf 0 0)), _⟩
    refine s_move (d := (rf 0 0)) rfl k
   ·intro K _ f w u k
    show Wp K ⟨36, (upd 36 f 1 (st_ a1)), _⟩
    refine s_move (d := (st_ a1)) rfl k
   ·intro K _ f w u k
    show Wp K ⟨36, (upd 36 f 8 (rf 2 0)), [_, _, _, _, _, _]⟩
    refine s_fieldRef F.fo_65_0 (by decide) rfl k
   ·intro K _ f w u k
    show Wp K ⟨36, (upd 36 f 26 (rf 2 0)), [_, _, (some (AObj.cells true (c_vdisk_file (lk_vdisk_file a1 p0.files)))), _, _, _]⟩
    refine s_load1 (c' := (C.p false (.sl ((lk_vdisk_file a1 p0.files).b).length (((lk_vdisk_file a1 p0.files).b).flatMap e_u8)))) F.ag_22 rfl rfl k
   ·intro K _ f w u k
    show Wp K ⟨36, (upd 36 f 2 (D.one (C.p false (.sl a2.length (a2.flatMap e_u8))))), _⟩
    refine s_move (d := (D.one (C.p false (.sl a2.length (a2.flatMap e_u8))))) rfl k
   ·intro K _ f w u k
    show Wp K ⟨36, (upd 36 (upd 36 f 28 (D.one (C.p false (.sl a2.length (a2.flatMap e_u8))))) 27 (D.one (C.p false (.sl ((lk_vdisk_file a1 p0.files).b).length (((lk_vdisk_file a1 p0.files).b).flatMap e_u8))))), [_, _, _, _, _, _]⟩
    refine s_buildSlice (n := 2) (ps := [(0, (D.one (C.p false (.sl ((lk_vdisk_file a1 p0.files).b).length (((lk_vdisk_file a1 p0.files).b).flatMap e_u8))))), (1, (D.one (C.p false (.sl a2.length (a2.flatMap e_u8)))))]) (cs := rowC (e_sl e_u8) ([(lk_vdisk_file a1 p0.files).b, a2] : List (List Int))) F.u_23 F.sz_22 F.z_22 rfl rfl (by decide) (by decide) rfl rfl ?_
    refine AWops.weak (st' := ⟨36, (upd 36 (upd 36 (upd 36 f 28 (D.one (C.p false (.sl a2.length (a2.flatMap e_u8))))) 27 (D.one (C.p false (.sl ((lk_vdisk_file a1 p0.files).b).length (((lk_vdisk_file a1 p0.files).b).flatMap e_u8))))) 29 (D.one (C.own 3 0 (([(lk_vdisk_file a1 p0.files).b, a2] : List (List Int)).length) 1))), [(w 0), (w 1), (w 2), (some (AObj.cells true (rowC (e_sl e_u8) ([(lk_vdisk_file a1 p0.files).b, a2] : List (List Int))))), (w 4), (w 5)]⟩) (wg 2 [0, 1, 2, 6, 4, 5] [] hx (le_upd2 (le_ok (p := 3) (L := 6) rfl (u 3 rfl).1) (o1 (.own rfl))) (ac (oq 3 6 (u 3 rfl) 0) (ac (oq 3 6 (u 3 rfl) 1) (ac (oq 3 6 (u 3 rfl) 2) (ac (.cells (fun _ => rfl) (all2_row _)) (ac (oq 3 6 (u 3 rfl) 4) (ac (oq 3 6 (u 3 rfl) 5) an))))))) k
   ·intro K _ f w u k
    show Wp K ⟨36, (upd 36 f 29 (D.one (C.own 3 0 (([(lk_vdisk_file a1 p0.files).b, a2] : List (List Int)).length) 1))), [_, _, _, (some (AObj.cells true (rowC (e_sl e_u8) ([(lk_vdisk_file a1 p0.files).b, a2] : List (List Int))))), _, _]⟩
    refine s_call2 (ρ := []) (br := true) (H2 := [(w 0), (w 1), (w 2), (some (AObj.cells true (rowC (e_sl e_u8) ([(lk_vdisk_file a1 p0.files).b, a2] : List (List Int))))), (w 4), (w 5), (ow_ e_u8 r4)]) (d := (D.one (C.own 6 0 r4.length 1))) F.ca_34 rfl rfl (ac (.one (LendC.bor (e_sl_len _) rfl rfl rfl)) an) an (by decide) rfl (slices_Concat_byte_byte_34.meets _ ([(lk_vdisk_file a1 p0.files).b, a2] : List (List Int)) r4 er4) (.inr ⟨rfl, by simp [frH, frC, fr_row e_u8_fr]⟩) (by first | rfl | (simp only [mS]; done) | (simp only [mS]; rfl)) rfl ?_
    refine AWops.weak (st' := ⟨36, (upd 36 (upd 36 f 29 (D.one (C.own 3 0 (([(lk_vdisk_file a1 p0.files).b, a2] : List (List Int)).length) 1))) 30 (D.one (C.p false (.sl r4.length (r4.flatMap e_u8))))), [(w 0), (w 1), (w 2), (some (AObj.cells true (rowC (e_sl e_u8) ([(lk_vdisk_file a1 p0.files).b, a2] : List (List Int))))), (w 4), (w 5)]⟩) (wg 2 [0, 1, 2, 3, 4, 5] [6] hx (le_upd2 (le_ok (p := 4) (L := 6) rfl (u 4 rfl).1) (o1 (CLe.frz e_u8_len rfl rfl rfl))) (ac (oq 4 6 (u 4 rfl) 0) (ac (oq 4 6 (u 4 rfl) 1) (ac (oq 4 6 (u 4 rfl) 2) (ac (.cells (fun _ => rfl) (all2_row _)) (ac (oq 4 6 (u 4 rfl) 4) (ac (oq 4 6 (u 4 rfl) 5) an))))))) k
   ·intro K _ f w u k
    show Wp K ⟨36, (upd 36 f 8 (rf 2 0)), [_, _, _, _, _, _]⟩
    refine s_fieldRef F.fo_65_1 (by decide) rfl k
   ·intro K _ f w u k
    show Wp K ⟨36, (upd 36 f 31 (rf 2 1)), [_, _, (some (AObj.cells true (c_vdisk_file (lk_vdisk_file a1 p0.files)))), _, _, _]⟩
    refine s_load1 (c' := (ci ((lk_vdisk_file a1 p0.files).sure))) F.ag_3 rfl rfl k
   ·intro K _ f w u k
    show Wp K ⟨36, (upd 36 (upd 36 f 32 (si ((lk_vdisk_file a1 p0.files).sure))) 30 (D.one (C.p false (.sl r4.length (r4.flatMap e_u8))))), [_, _, _, _, _, _]⟩
    refine s_build (ps := [(0, (D.one (C.p false (.sl r4.length (r4.flatMap e_u8))))), (1, (si ((lk_vdisk_file a1 p0.files).sure)))]) (cs := [(C.p false (.sl r4.length (r4.flatMap e_u8))), (ci ((lk_vdisk_file a1 p0.files).sure))]) F.z_65 rfl F.so_65 rfl rfl k
   ·intro K _ f w u k
    show Wp K ⟨36, (upd 36 (upd 36 (upd 36 f 33 (D.agg [(C.p false (.sl r4.length (r4.flatMap e_u8))), (ci ((lk_vdisk_file a1 p0.files).sure))])) 25 (st_ a1)) 24 (rf 0 0)), [(o_vdisk_Disk_03 false (C.mp 1) (C.p true (.v (.pointer none))) p0), (om_ e_vdisk_file p0.files), _, _, _, _]⟩
    refine cc [0, 1] [(o_vdisk_Disk_03 false (C.mp 1) (C.p true (.v (.pointer none))) r5), (om_ e_vdisk_file r5.files), (w 2), (w 3), (w 4), (w 5)] (D.tup []) F.ca_33 rfl rfl (ac (.one (.ref rfl)) (ac (.one .sc) (ac (LendT.aggL (ac .imm (ac .sc an))) an))) (ac (.cells (ac (.mp rfl) (ac .sc (ac .sc (ac .sc (ac .sc an)))))) (ac .map an)) (vdisk_Disk_set.meets _ p0 a1 (⟨r4, (lk_vdisk_file a1 p0.files).sure⟩ : vdisk_file) r5 er5) k
  ·refine AWops.weak (st' := ⟨36, (upd 36 topF 7 (si r2)), [(o_vdisk_Disk_03 false (C.mp 1) (C.p true (.v (.pointer none))) r5), (om_ e_vdisk_file r5.files)]⟩) (wg 2 [0, 1] [] hx (le_upd (le_top _) (o1 .sc)) (ac (qs rfl) (ac .map an))) (AWops.nil (AW.seq (AW.region ?_)))
   refine s_move (d := (si r2)) rfl (s_assign (d := (si r2)) rfl (AWops.nil (AW.ret ?_)))
   obtain rfl := Option.some.inj h
   exact ⟨_, rfl, (wg 2 [0, 1] [] rfl (le_upd (le_top _) (o1 .sc)) (ac (qs rfl) (ac .map an)))⟩
 ·refine AW.cond_no rfl c3 (AW.skip (AW.seq (AW.region ?_)))
  refine s_move (d := (si r2)) rfl (s_assign (d := (si r2)) rfl (AWops.nil (AW.ret ?_)))
  obtain rfl := Option.some.inj h
  exact ⟨_, rfl, (wg 2 [0, 1] [] rfl (le_upd (le_top _) (o1 .sc)) (ac (qs rfl) (ac .map an)))⟩
def dossierlaw03_awake.f (k : Nat) : Option Bool := (vdisk_New.f k 9).bind fun r1 => if (r1.2 != 0) = true then (some false) else ((vdisk_Disk_Append_9x.f k r1.1 (⟨#[97]⟩ : ByteArray) ([97, 98, 99] : List Int)).bind fun r3 => if (r3.1 != 0) = true then (some false) else ((vdisk_Disk_Crash.f k r3.2 ([2] : List Int)).bind fun r5 => if (r5.1 != 0) = true then (some false) else ((vdisk_Disk_Read.f k r5.2 (⟨#[97]⟩ : ByteArray)).bind fun r7 => if (r7.2 == 0) = true then (some ((ofNums r7.1).toList == (⟨#[97, 98]⟩ : ByteArray).toList)) else (some false))))
theorem dossierlaw03_awake.meets (k : Nat) (r : Bool) (h : dossierlaw03_awake.f k = some r) : Meets Try.prog 14 [] [] (sb r) [] := by
 unfold dossierlaw03_awake.f at h
 refine Meets.of_body (n := 35) Try.func14 rfl rfl (nl rfl) fun x hx => ?_
 replace hx : x.k = 0 := hx
 show AW _ x _ _ ⟨35, fr0 [], []⟩
 refine AW.seq (AW.region ?_)
 refine s_assign (d := (sb false)) rfl (AWops.nil (AW.seq (AW.region ?_)))
 obtain ⟨r1, er1, h⟩ := bnd h
 refine cc [] [(o_vdisk_Disk_03 true (C.mp 1) (C.p true (.v (.pointer none))) r1.1), (om_ e_vdisk_file r1.1.files)] (D.tup [(rf 0 0), (si r1.2)]) F.ca_8 rfl rfl (ac (.one .sc) an) an (vdisk_New.meets _ 9 r1 er1) (s_move (d := (D.tup [(rf 0 0), (si r1.2)])) rfl (s_extract (d := (rf 0 0)) rfl rfl (s_extract (d := (si r1.2)) rfl rfl (s_assign (d := (rf 0 0)) rfl (s_assign (d := (si r1.2)) rfl (AWops.nil (AW.seq (AW.seq (AW.region ?_)))))))))
 refine s_move (d := (si r1.2)) rfl (s_binI (v := (.bool (r1.2 != 0))) rfl rfl rfl (s_move (d := (sb (r1.2 != 0))) rfl ?_))
 rcases itH h with ⟨c2, h⟩ | ⟨c2, h⟩
 ·iterate 5 refine AWops.guard_no rfl (nl rfl) rfl c2 ?_
  refine s_pick_yes (d := (sb true)) rfl c2 rfl (s_move (d := (sb true)) rfl ?_)
  iterate 4 refine AWops.guard_no rfl (nl rfl) rfl rfl ?_
  refine s_pick_yes (d := (sb true)) rfl rfl rfl (AWops.nil ?_)
  refine AW.cond_yes rfl rfl (AW.seq (AW.region ?_))
  refine s_assign (d := (sb false)) rfl (AWops.nil (AW.ret ?_))
  obtain rfl := Option.some.inj h
  exact ⟨_, rfl, (wg 0 [] [] rfl (le_upd (le_top _) (o1 .sc)) an)⟩
 ·refine AWops.guard_yes rfl (nl rfl) rfl c2 ?_
  refine s_move (d := (rf 0 0)) rfl ?_
  refine AWops.guard_yes rfl (nl rfl) rfl c2 ?_
  refine s_buildSlice (n := 3) (ps := [(0, (sc (.int .u8 97))), (1, (sc (.int .u8 98))), (2, (sc (.int .u8 99)))]) (cs := rowC e_u8 ([97, 98, 99] : List Int)) F.u_22 F.sz_5 F.z_5 rfl rfl (by decide) (by decide) rfl rfl ?_
  refine AWops.guard_yes rfl (nl rfl) rfl c2 ?_
  refine t_convConst (xs := ([97, 98, 99] : List Int)) F.u_22 F.u_5 rfl rfl rfl (by decide) rfl ?_
  refine AWops.guard_yes rfl (nl rfl) rfl c2 ?_
  obtain ⟨r3, er3, h⟩ := bnd h
  refine cc [0, 1] [(o_vdisk_Disk_03 true (C.mp 1) (C.p true (.v (.pointer none))) r3.2), (om_ e_vdisk_file r3.2.files), none] (si r3.1) F.ca_9 rfl rfl (ac (.one (.ref rfl)) (ac (.one .sc) (ac (.one .imm) an))) (ac (.cells (ac (.mp rfl) (ac .sc (ac .sc (ac .sc (ac .sc an)))))) (ac .map an)) (vdisk_Disk_Append_9x.meets _ r1.1 (⟨#[97]⟩ : ByteArray) ([97, 98, 99] : List Int) r3 er3) ?_
  refine AWops.guard_yes rfl (nl rfl) rfl c2 ?_
  refine s_binI (v := (.bool (r3.1 != 0))) rfl rfl rfl (s_pick_no (d := (sb (r3.1 != 0))) rfl c2 rfl (s_move (d := (sb (r3.1 != 0))) rfl ?_))
  rcases itH h with ⟨c4, h⟩ | ⟨c4, h⟩
  ·iterate 4 refine AWops.guard_no rfl (nl rfl) rfl c4 ?_
   refine s_pick_yes (d := (sb true)) rfl c4 rfl (AWops.nil ?_)
   refine AW.cond_yes rfl rfl (AW.seq (AW.region ?_))
   refine s_assign (d := (sb false)) rfl (AWops.nil (AW.ret ?_))
   obtain rfl := Option.some.inj h
   exact ⟨_, rfl, (wg 0 [] [] rfl (le_upd (le_top _) (o1 .sc)) an)⟩
  ·refine AWops.guard_yes rfl (nl rfl) rfl c4 ?_
   refine s_move (d := (rf 0 0)) rfl ?_
   refine AWops.guard_yes rfl (nl rfl) rfl c4 ?_
   refine s_buildSlice (n := 1) (ps := [(0, (si 2))]) (cs := rowC e_i64 ([2] : List Int)) F.u_24 F.sz_3 F.z_3 rfl rfl (by decide) (by decide) rfl rfl ?_
   refine AWops.guard_yes rfl (nl rfl) rfl c4 ?_
   obtain ⟨r5, er5, h⟩ := bnd h
   refine AWops.weak (st' := ⟨35, (upd 35 (upd 35 (upd 35 (upd 35 (upd 35 (upd 35 (upd 35 (upd 35 (upd 35 (upd 35 (upd 35 (upd 35 (upd 35 (upd 35 (upd 35 (upd 35 (upd 35 (upd 35 topF 0 (sb false)) 1 (rf 0 0)) 2 (si r1.2)) 4 (D.tup [(rf 0 0), (si r1.2)])) 5 (D.tup [(rf 0 0), (si r1.2)])) 6 (rf 0 0)) 7 (si r1.2)) 8 (si r1.2)) 9 (sb (r1.2 != 0))) 10 (sb (r1.2 != 0))) 11 (rf 0 0)) 13 (D.one (C.p false (.sl ([97, 98, 99] : List Int).length (([97, 98, 99] : List Int).flatMap e_u8))))) 14 (si r3.1)) 15 (sb (r3.1 != 0))) 16 (sb (r3.1 != 0))) 17 (sb (r3.1 != 0))) 18 (rf 0 0)) 19 (D.one (C.p false (.sl ([2] : List Int).length (([2] : List Int).flatMap e_i64))))), [(o_vdisk_Disk_03 true (C.mp 1) (C.p true (.v (.pointer none))) r3.2), (om_ e_vdisk_file r3.2.files)]⟩) (wg 0 [0, 1] [3] hx (le_upd (le_upd (le_upd (le_upd (le_upd (le_upd (le_upd (le_upd (le_upd (le_upd (le_upd (le_upd (le_upd (le_upd (le_upd (le_upd (le_upd (le_upd (le_top _) (o1 .sc)) (o1 (.ref rfl))) (o1 .sc)) (DLe.tup (ac (TLe.one (.ref rfl)) (ac (TLe.one .sc) an)))) (DLe.tup (ac (TLe.one (.ref rfl)) (ac (TLe.one .sc) an)))) (o1 (.ref rfl))) (o1 .sc)) (o1 .sc)) (o1 .sc)) (o1 .sc)) (o1 (.ref rfl))) (o1 .same)) (o1 .sc)) (o1 .sc)) (o1 .sc)) (o1 .sc)) (o1 (.ref rfl))) (o1 (CLe.frz e_i64_len rfl rfl rfl))) (ac (.cells (fun _ => rfl) (ac (.mp rfl) (ac .sc (ac .sc (ac .sc (ac .sc an)))))) (ac .map an))) ?_
   refine cc [0, 1] [(o_vdisk_Disk_03 true (C.mp 1) (C.p true (.v (.pointer none))) r5.2), (om_ e_vdisk_file r5.2.files)] (si r5.1) F.ca_11 rfl rfl (ac (.one (.ref rfl)) (ac (.one .imm) an)) (ac (.cells (ac (.mp rfl) (ac .sc (ac .sc (ac .sc (ac .sc an)))))) (ac .map an)) (vdisk_Disk_Crash.meets _ r3.2 ([2] : List Int) r5 er5) ?_
   refine AWops.guard_yes rfl (nl rfl) rfl c4 ?_
   refine s_binI (v := (.bool (r5.1 != 0))) rfl rfl rfl (s_pick_no (d := (sb (r5.1 != 0))) rfl c4 rfl (AWops.nil ?_))
   rcases itH h with ⟨c6, h⟩ | ⟨c6, h⟩
   ·refine AW.cond_yes rfl c6 (AW.seq (AW.region ?_))
    refine s_assign (d := (sb false)) rfl (AWops.nil (AW.ret ?_))
    obtain rfl := Option.some.inj h
    exact ⟨_, rfl, (wg 0 [] [] rfl (le_upd (le_top _) (o1 .sc)) an)⟩
   ·refine AW.cond_no rfl c6 (AW.skip (AW.seq (AW.region ?_)))
    refine s_move (d := (rf 0 0)) rfl ?_
    obtain ⟨r7, er7, h⟩ := bnd h
    refine cc [0, 1] [(o_vdisk_Disk_03 true (C.mp 1) (C.p true (.v (.pointer none))) r5.2), (om_ e_vdisk_file r5.2.files), (ow_ e_u8 r7.1)] (D.tup [(D.one (C.own 2 0 r7.1.length 1)), (si r7.2)]) F.ca_12 rfl rfl (ac (.one (.ref rfl)) (ac (.one .sc) an)) (ac (.cells (ac (.mp rfl) (ac .sc (ac .sc (ac .sc (ac .sc an)))))) (ac .map an)) (vdisk_Disk_Read.meets _ r5.2 (⟨#[97]⟩ : ByteArray) r7 er7) (s_move (d := (D.tup [(D.one (C.own 2 0 r7.1.length 1)), (si r7.2)])) rfl (s_extract (d := (D.one (C.own 2 0 r7.1.length 1))) rfl rfl (s_extract (d := (si r7.2)) rfl rfl (s_assign (d := (D.one (C.own 2 0 r7.1.length 1))) rfl (s_assign (d := (si r7.2)) rfl (AWops.nil (AW.seq (AW.region ?_))))))))
    refine s_move (d := (si r7.2)) rfl (s_binI (v := (.bool (r7.2 == 0))) rfl rfl rfl (s_move (d := (sb (r7.2 == 0))) rfl ?_))
    rcases itH h with ⟨c8, h⟩ | ⟨c8, h⟩
    ·refine AWops.guard_yes rfl (nl rfl) rfl c8 ?_
     refine s_move (d := (D.one (C.own 2 0 r7.1.length 1))) rfl ?_
     refine AWops.guard_yes rfl (nl rfl) rfl c8 ?_
     refine t_toStr (xs := r7.1) F.u_22 F.u_5 F.u_9 (.own rfl rfl) ?_
     refine AWops.guard_yes rfl (nl rfl) rfl c8 ?_
     refine s_binS (v := (.bool ((ofNums r7.1).toList == (⟨#[97, 98]⟩ : ByteArray).toList))) rfl rfl rfl (s_pick_yes (d := (sb ((ofNums r7.1).toList == (⟨#[97, 98]⟩ : ByteArray).toList))) rfl c8 rfl (s_assign (d := (sb ((ofNums r7.1).toList == (⟨#[97, 98]⟩ : ByteArray).toList))) rfl (AWops.nil (AW.ret ?_))))
     obtain rfl := Option.some.inj h
     exact ⟨_, rfl, (wg 0 [] [] rfl (le_upd (le_top _) (o1 .sc)) an)⟩
    ·iterate 3 refine AWops.guard_no rfl (nl rfl) rfl c8 ?_
     refine s_pick_no (d := (sb false)) rfl c8 rfl (s_assign (d := (sb false)) rfl (AWops.nil (AW.ret ?_)))
     obtain rfl := Option.some.inj h
     exact ⟨_, rfl, (wg 0 [] [] rfl (le_upd (le_top _) (o1 .sc)) an)⟩
def vdisk_Disk_Used_17.f (k : Nat) (p0 : vdisk_Disk) (p2 : Int) : Option Int := (vdisk_Disk_none_35.f k p0 p2).bind fun r1 => some p0.used
theorem vdisk_Disk_Used_17.meets (k : Nat) (p0 : vdisk_Disk) (p2 : Int) (r : Int) (h : vdisk_Disk_Used_17.f k p0 p2 = some r) : Meets Try.prog 17 [(rf 0 0)] [(o_vdisk_Disk_03 false (C.mp 1) (C.ref 2 0) p0), (om_ e_vdisk_file p0.files), (bx p2)] (si r) [(o_vdisk_Disk_03 false (C.mp 1) (C.ref 2 0) p0), (om_ e_vdisk_file p0.files), (bx p2)] := by
 unfold vdisk_Disk_Used_17.f at h
 refine Meets.of_body (n := 9) Try.func17 rfl rfl (nl rfl) fun x hx => ?_
 replace hx : x.k = 3 := hx
 show AW _ x _ _ ⟨9, fr0 [(rf 0 0)], [(o_vdisk_Disk_03 false (C.mp 1) (C.ref 2 0) p0), (om_ e_vdisk_file p0.files), (bx p2)]⟩
 refine AW.seq (AW.region ?_)
 refine s_assign (d := (si 0)) rfl (AWops.nil (AW.seq (AW.seq (AW.region ?_))))
 refine s_move (d := (rf 0 0)) rfl ?_
 obtain ⟨r1, er1, h⟩ := bnd h
 have kr1 := vdisk_Disk_none_35.const er1
 subst kr1
 refine cc [0, 1, 2] [(o_vdisk_Disk_03 false (C.mp 1) (C.ref 2 0) p0), (om_ e_vdisk_file p0.files), (bx p2)] (sb false) F.ca_35 rfl rfl (ac (.one (.ref rfl)) an) (ac (.cells (ac (.mp rfl) (ac .sc (ac .sc (ac (.ref rfl) (ac .sc an)))))) (ac .map (ac (.cells (ac .sc an)) an))) (vdisk_Disk_none_35.meets _ p0 p2 false er1) (AWops.nil ?_)
 refine AW.cond_no rfl rfl (AW.skip (AW.seq (AW.region ?_)))
 refine s_move (d := (rf 0 0)) rfl (s_nilCheck (d := (rf 0 0)) rfl (.inl ⟨_, _, rfl⟩) (s_fieldRef F.fo_50_2 (by decide) rfl (s_load1 (c' := (ci p0.used)) F.ag_3 rfl rfl (s_assign (d := (si p0.used)) rfl (AWops.nil (AW.ret ?_))))))
 obtain rfl := Option.some.inj h
 exact ⟨_, rfl, (wg 3 [0, 1, 2] [] rfl (le_upd (le_top _) (o1 .sc)) (ac (qr rfl rfl) (ac .map (ac qb an))))⟩
def vdisk_Disk_Dead_23.f (k : Nat) (p0 : vdisk_Disk) (p2 : Int) : Option Bool := (vdisk_Disk_none_35.f k p0 p2).bind fun r1 => some p0.dead
theorem vdisk_Disk_Dead_23.meets (k : Nat) (p0 : vdisk_Disk) (p2 : Int) (r : Bool) (h : vdisk_Disk_Dead_23.f k p0 p2 = some r) : Meets Try.prog 23 [(rf 0 0)] [(o_vdisk_Disk_03 false (C.mp 1) (C.ref 2 0) p0), (om_ e_vdisk_file p0.files), (bx p2)] (sb r) [(o_vdisk_Disk_03 false (C.mp 1) (C.ref 2 0) p0), (om_ e_vdisk_file p0.files), (bx p2)] := by
 unfold vdisk_Disk_Dead_23.f at h
 refine Meets.of_body (n := 11) Try.func23 rfl rfl (nl rfl) fun x hx => ?_
 replace hx : x.k = 3 := hx
 show AW _ x _ _ ⟨11, fr0 [(rf 0 0)], [(o_vdisk_Disk_03 false (C.mp 1) (C.ref 2 0) p0), (om_ e_vdisk_file p0.files), (bx p2)]⟩
 refine AW.seq (AW.region ?_)
 refine s_assign (d := (sb false)) rfl (AWops.nil (AW.seq (AW.region ?_)))
 refine s_move (d := (rf 0 0)) rfl ?_
 obtain ⟨r1, er1, h⟩ := bnd h
 have kr1 := vdisk_Disk_none_35.const er1
 subst kr1
 refine cc [0, 1, 2] [(o_vdisk_Disk_03 false (C.mp 1) (C.ref 2 0) p0), (om_ e_vdisk_file p0.files), (bx p2)] (sb false) F.ca_35 rfl rfl (ac (.one (.ref rfl)) an) (ac (.cells (ac (.mp rfl) (ac .sc (ac .sc (ac (.ref rfl) (ac .sc an)))))) (ac .map (ac (.cells (ac .sc an)) an))) (vdisk_Disk_none_35.meets _ p0 p2 false er1) (s_move (d := (sb false)) rfl ?_)
 refine AWops.guard_yes rfl (nl rfl) rfl rfl ?_
 refine s_move (d := (rf 0 0)) rfl ?_
 refine AWops.guard_yes rfl (nl rfl) rfl rfl ?_
 refine s_nilCheck (d := (rf 0 0)) rfl (.inl ⟨_, _, rfl⟩) ?_
 refine AWops.guard_yes rfl (nl rfl) rfl rfl ?_
 refine s_fieldRef F.fo_50_4 (by decide) rfl ?_
 refine AWops.guard_yes rfl (nl rfl) rfl rfl ?_
 refine s_load1 (c' := (cb p0.dead)) F.ag_4 rfl rfl (s_pick_no (d := (sb p0.dead)) rfl rfl rfl (s_assign (d := (sb p0.dead)) rfl (AWops.nil (AW.ret ?_))))
 obtain rfl := Option.some.inj h
 exact ⟨_, rfl, (wg 3 [0, 1, 2] [] rfl (le_upd (le_top _) (o1 .sc)) (ac (qr rfl rfl) (ac .map (ac qb an))))⟩
def vdisk_Disk_Read_12.f (k : Nat) (p0 : vdisk_Disk) (a1 : ByteArray) (p2 : Int) : Option ((List Int) × Int) := (vdisk_Disk_none_35.f k p0 p2).bind fun r1 => if p0.dead = true then (some (([] : List Int), 70)) else (if ((mget a1 p0.files).isSome) = true then ((slices_Clone_byte_byte.f k ((lk_vdisk_file a1 p0.files).b)).bind fun r4 => some (r4, 0)) else (some (([] : List Int), 33)))
theorem vdisk_Disk_Read_12.meets (k : Nat) (p0 : vdisk_Disk) (a1 : ByteArray) (p2 : Int) (r : (List Int) × Int) (h : vdisk_Disk_Read_12.f k p0 a1 p2 = some r) : Meets Try.prog 12 [(rf 0 0), (st_ a1)] [(o_vdisk_Disk_03 false (C.mp 1) (C.ref 2 0) p0), (om_ e_vdisk_file p0.files), (bx p2)] (D.tup [(D.one (C.own 3 0 r.1.length 1)), (si r.2)]) [(o_vdisk_Disk_03 false (C.mp 1) (C.ref 2 0) p0), (om_ e_vdisk_file p0.files), (bx p2), (ow_ e_u8 r.1)] := by
 unfold vdisk_Disk_Read_12.f at h
 refine Meets.of_body (n := 30) Try.func12 rfl rfl (nl rfl) fun x hx => ?_
 replace hx : x.k = 3 := hx
 show AW _ x _ _ ⟨30, fr0 [(rf 0 0), (st_ a1)], [(o_vdisk_Disk_03 false (C.mp 1) (C.ref 2 0) p0), (om_ e_vdisk_file p0.files), (bx p2)]⟩
 refine AW.seq (AW.region ?_)
 refine s_assign (d := (sc (.slice none 0 0))) rfl (s_assign (d := (si 0)) rfl (AWops.nil (AW.seq (AW.block (AW.seq (AW.region (s_move (d := (rf 0 0)) rfl ?_)))))))
 obtain ⟨r1, er1, h⟩ := bnd h
 have kr1 := vdisk_Disk_none_35.const er1
 subst kr1
 refine cc [0, 1, 2] [(o_vdisk_Disk_03 false (C.mp 1) (C.ref 2 0) p0), (om_ e_vdisk_file p0.files), (bx p2)] (sb false) F.ca_35 rfl rfl (ac (.one (.ref rfl)) an) (ac (.cells (ac (.mp rfl) (ac .sc (ac .sc (ac (.ref rfl) (ac .sc an)))))) (ac .map (ac (.cells (ac .sc an)) an))) (vdisk_Disk_none_35.meets _ p0 p2 false er1) (s_assign (d := (sb false)) rfl (AWops.nil ?_))
 refine AW.cond_no rfl rfl (AW.seq (AW.region ?_))
 refine s_move (d := (rf 0 0)) rfl (s_nilCheck (d := (rf 0 0)) rfl (.inl ⟨_, _, rfl⟩) (s_fieldRef F.fo_50_4 (by decide) rfl (s_load1 (c' := (cb p0.dead)) F.ag_4 rfl rfl (s_assign (d := (sb p0.dead)) rfl (AWops.nil ?_)))))
 rcases itH h with ⟨c2, h⟩ | ⟨c2, h⟩
 ·refine AW.cond_yes rfl c2 (AW.seq (AW.region ?_))
  refine s_assign (d := (sc (.slice none 0 0))) rfl (s_assign (d := (si 70)) rfl (AWops.nil (AW.ret ?_)))
  obtain rfl := Option.some.inj h
  exact ⟨_, rfl, (Weak.trans (Weak.nilT (j := 0) (sz := 1) rfl rfl rfl) (wg 3 [0, 1, 2, 3] [] rfl (le_upd (le_top _) (DLe.tup (ac (TLe.one (CLe.ownN rfl (by simp))) (ac (TLe.one .sc) an)))) (ac (qr rfl rfl) (ac .map (ac qb (ac (.cells (fun _ => rfl) an) an))))))⟩
 ·refine AW.cond_no rfl c2 (AW.skip (AW.seq (AW.region ?_)))
  refine s_move (d := (rf 0 0)) rfl (s_nilCheck (d := (rf 0 0)) rfl (.inl ⟨_, _, rfl⟩) (s_fieldRef F.fo_50_0 (by decide) rfl (s_load1 (c' := (C.mp 1)) F.ag_47 rfl rfl (s_move (d := (st_ a1)) rfl (t_lookupOk (b := true) F.u_47 F.u_9 F.z_65 (z := ((⟨([] : List Int), 0⟩ : vdisk_file) : vdisk_file)) (zs := [(.slice none 0 0), (.int .i64 0)]) rfl (fun h => by cases h) (ac ZRel.n (ac (ZRel.v _ rfl) an)) rfl rfl rfl rfl ?_)))))
  refine s_move (d := (D.tup [(D.agg (c_vdisk_file (lk_vdisk_file a1 p0.files))), (sb ((mget a1 p0.files).isSome))])) rfl (s_extract (d := (D.agg (c_vdisk_file (lk_vdisk_file a1 p0.files)))) rfl rfl (s_extract (d := (sb ((mget a1 p0.files).isSome))) rfl rfl (s_alloc (cs := [(C.p true (.v (.slice none 0 0))), (ci 0)]) F.z_65 rfl rfl (s_store (cs' := (c_vdisk_file (lk_vdisk_file a1 p0.files))) rfl rfl rfl (List.cons_ne_nil _ _) rfl F.sz_65 (nl rfl) rfl (s_assign (d := (sb ((mget a1 p0.files).isSome))) rfl (AWops.nil (AW.seq (AW.seq (AW.region ?_)))))))))
  refine s_move (d := (sb ((mget a1 p0.files).isSome))) rfl (s_not rfl (AWops.nil ?_))
  rcases itH h with ⟨c3, h⟩ | ⟨c3, h⟩
  ·refine AW.cond_no rfl (by rw [c3] <;> rfl) (AW.skip (AW.seq (AW.region ?_)))
   refine s_fieldRef F.fo_65_0 (by decide) rfl (s_load1 (c' := (C.p false (.sl ((lk_vdisk_file a1 p0.files).b).length (((lk_vdisk_file a1 p0.files).b).flatMap e_u8)))) F.ag_22 rfl rfl ?_)
   obtain ⟨r4, er4, h⟩ := bnd h
   refine cc [] [(o_vdisk_Disk_03 false (C.mp 1) (C.ref 2 0) p0), (om_ e_vdisk_file p0.files), (bx p2), (some (AObj.cells true (c_vdisk_file (lk_vdisk_file a1 p0.files)))), (ow_ e_u8 r4)] (D.one (C.own 4 0 r4.length 1)) F.ca_36 rfl rfl (ac (.one .imm) an) an (slices_Clone_byte_byte.meets _ ((lk_vdisk_file a1 p0.files).b) r4 er4) (s_assign (d := (D.one (C.own 4 0 r4.length 1))) rfl (s_assign (d := (si 0)) rfl (AWops.nil (AW.ret ?_))))
   obtain rfl := Option.some.inj h
   exact ⟨_, rfl, (wg 3 [0, 1, 2, 4] [] rfl (le_upd (le_top _) (DLe.tup (ac (TLe.one (.own rfl)) (ac (TLe.one .sc) an)))) (ac (qr rfl rfl) (ac .map (ac qb (ac (.cells (fun _ => rfl) (all2_row _)) an)))))⟩
  ·refine AW.cond_yes rfl (by rw [c3] <;> rfl) (AW.seq (AW.region ?_))
   refine s_assign (d := (sc (.slice none 0 0))) rfl (s_assign (d := (si 33)) rfl (AWops.nil (AW.ret ?_)))
   obtain rfl := Option.some.inj h
   exact ⟨_, rfl, (Weak.trans (Weak.nilT (j := 0) (sz := 1) rfl rfl rfl) (wg 3 [0, 1, 2, 4] [] rfl (le_upd (le_top _) (DLe.tup (ac (TLe.one (CLe.ownN rfl (by simp))) (ac (TLe.one .sc) an)))) (ac (qr rfl rfl) (ac .map (ac qb (ac (.cells (fun _ => rfl) an) an))))))⟩
mutual
def dossierplain_Same_26.l0 : Nat → Int → vdisk_Disk → dossierref03_Disk → Int → Option Bool
 | 0, _, _, _, _ => none
 | k + 1, x10, p0, p1, p3 => if (decide (x10 < (p1.L.length : Int))) = true then ((rd p1.L x10).bind fun v12 => (vdisk_Disk_Read_12.f k p0 v12.Name p3).bind fun r14 => (dossierref03_Disk_Read.f k p1 v12.Name).bind fun r15 => if (r14.2 != r15.2) = true then (some false) else ((bytes_Equal.f k r14.1 r15.1).bind fun r17 => if r17 = true then (dossierplain_Same_26.l0 k (IntKind.i64.wrap (x10 + 1)) p0 p1 p3) else (some false))) else (some true)
end
def dossierplain_Same_26.f (k : Nat) (p0 : vdisk_Disk) (p1 : dossierref03_Disk) (p3 : Int) : Option Bool := (vdisk_Disk_Names_24.f k p0 p3).bind fun r1 => (dossierref03_Disk_Names.f k p1).bind fun r2 => (slices_Equal_string_string.f k r1 r2).bind fun r3 => if r3 = true then ((vdisk_Disk_Used_17.f k p0 p3).bind fun r5 => (dossierref03_Disk_Used.f k p1).bind fun r6 => if (r5 != r6) = true then (some false) else ((vdisk_Disk_Dead_23.f k p0 p3).bind fun r8 => if (r8 == p1.Off) = true then (dossierplain_Same_26.l0 k 0 p0 p1 p3) else (some false))) else (some false)
theorem dossierplain_Same_26.meets (k : Nat) (p0 : vdisk_Disk) (p1 : dossierref03_Disk) (p3 : Int) (r : Bool) (h : dossierplain_Same_26.f k p0 p1 p3 = some r) : Meets Try.prog 26 [(rf 0 0), (rf 1 0)] [(o_vdisk_Disk_03 false (C.mp 2) (C.ref 3 0) p0), (o_dossierref03_Disk_0 false (C.own 4 0 p1.L.length 3) p1), (om_ e_vdisk_file p0.files), (bx p3), (or_ e_dossierref03_File p1.L)] (sb r) [(o_vdisk_Disk_03 false (C.mp 2) (C.ref 3 0) p0), (o_dossierref03_Disk_0 false (C.own 4 0 p1.L.length 3) p1), (om_ e_vdisk_file p0.files), (bx p3), (or_ e_dossierref03_File p1.L)] := by
 unfold dossierplain_Same_26.f at h
 refine Meets.of_body (n := 66) Try.func26 rfl rfl (nl rfl) fun x hx => ?_
 replace hx : x.k = 5 := hx
 show AW _ x _ _ ⟨66, fr0 [(rf 0 0), (rf 1 0)], [(o_vdisk_Disk_03 false (C.mp 2) (C.ref 3 0) p0), (o_dossierref03_Disk_0 false (C.own 4 0 p1.L.length 3) p1), (om_ e_vdisk_file p0.files), (bx p3), (or_ e_dossierref03_File p1.L)]⟩
 refine AW.seq (AW.region ?_)
 refine s_assign (d := (sb false)) rfl (AWops.nil (AW.seq (AW.seq ?_)))
 refine AW.weak (st' := ⟨66, (upd 66 (upd 66 topF 0 (rf 0 0)) 1 (rf 1 0)), [(o_vdisk_Disk_03 false (C.mp 2) (C.ref 3 0) p0), (o_dossierref03_Disk_0 false (C.own 4 0 p1.L.length 3) p1), (om_ e_vdisk_file p0.files), (bx p3), (or_ e_dossierref03_File p1.L)]⟩) (wg 5 [0, 1, 2, 3, 4] [] hx (le_upd (le_upd (le_top _) (o1 (.ref rfl))) (o1 (.ref rfl))) (ac (qr rfl rfl) (ac (qo rfl) (ac .map (ac qb (ac (.cells id (all2_row _)) an)))))) ?_
 obtain ⟨r1, er1, h⟩ := bnd h
 obtain ⟨r2, er2, h⟩ := bnd h
 obtain ⟨r3, er3, h⟩ := bnd h
 rcases itH h with ⟨c4, h⟩ | ⟨c4, h⟩
 ·obtain ⟨r5, er5, h⟩ := bnd h
  obtain ⟨r6, er6, h⟩ := bnd h
  rcases itH h with ⟨c7, h⟩ | ⟨c7, h⟩
  ·refine AW.draw (n := 66) (L := 11) [(ft 0 11 (rf 0 0) [(0, (rf 0 0))]), (1, ⟨some 12, (D.one (C.own 5 0 r1.length 1)), [(11, (rf 0 0))], [(0, (o_vdisk_Disk_03 false (C.mp 2) (C.ref 3 0) p0)), (2, (om_ e_vdisk_file p0.files)), (3, (bx p3))], [(5, (ow_ e_str r1))], some 5⟩), (ft 2 13 (rf 1 0) [(1, (rf 1 0))]), (3, ⟨some 14, (D.one (C.own 6 0 r2.length 1)), [(13, (rf 1 0))], [(1, (o_dossierref03_Disk_0 false (C.own 4 0 p1.L.length 3) p1)), (4, (or_ e_dossierref03_File p1.L))], [(6, (ow_ e_str r2))], some 6⟩), (4, ⟨some 15, (sb r3), [(12, (D.one (C.own 5 0 r1.length 1))), (14, (D.one (C.own 6 0 r2.length 1)))], [(5, (ow_ e_str r1)), (6, (ow_ e_str r2))], [], none⟩), (ft 5 16 (sb (!r3)) [(15, (sb r3))]), (ft 6 17 (sb (!r3)) [(16, (sb (!r3)))]), (ft 7 18 (rf 0 0) [(0, (rf 0 0)), (17, (sb (!r3)))]), (8, ⟨some 19, (si r5), [(17, (sb (!r3))), (18, (rf 0 0))], [(0, (o_vdisk_Disk_03 false (C.mp 2) (C.ref 3 0) p0)), (2, (om_ e_vdisk_file p0.files)), (3, (bx p3))], [], none⟩), (ft 9 20 (rf 1 0) [(1, (rf 1 0)), (17, (sb (!r3)))]), (10, ⟨some 21, (si r6), [(17, (sb (!r3))), (20, (rf 1 0))], [(1, (o_dossierref03_Disk_0 false (C.own 4 0 p1.L.length 3) p1)), (4, (or_ e_dossierref03_File p1.L))], [], none⟩), (ft 11 22 (sb (r5 != r6)) [(17, (sb (!r3))), (19, (si r5)), (21, (si r6))]), (ft 12 23 (sb (r5 != r6)) [(17, (sb (!r3))), (22, (sb (r5 != r6)))]), (ft 13 24 (sb (r5 != r6)) [(23, (sb (r5 != r6)))]), (ft 14 25 (D.tup []) [(0, (rf 0 0)), (24, (sb (r5 != r6)))]), (ft 15 26 (D.tup []) [(24, (sb (r5 != r6)))]), (ft 16 27 (D.tup []) [(24, (sb (r5 != r6)))]), (ft 17 28 (D.tup []) [(24, (sb (r5 != r6)))]), (ft 18 29 (D.tup []) [(24, (sb (r5 != r6)))]), (ft 19 30 (D.tup []) [(24, (sb (r5 != r6)))]), (ft 20 31 (D.tup []) [(24, (sb (r5 != r6)))]), (ft 21 32 (sb true) [(24, (sb (r5 != r6)))])] [[], [0], [], [0, 1, 2], [0, 1, 2, 3], (.range 5), (.range 6), (.range 7), (.range 8), (.range 7), (.range 10), (.range 11), (.range 12), (.range 13), (.range 14), (.range 15), (.range 14), (.range 14 ++ [16]), (.range 14 ++ [16, 17]), (.range 14 ++ [16, 17, 18]), (.range 20), (.range 21)] (nl rfl) [0, 1, 0, 2, 3, 4, 5, 6, 7, 6, 8, 9, 10, 11, 12, 13, 12, 13, 14, 15, 16, 17] rfl (TK := [(1, 5), (3, 6)]) rfl (AllK.cons' ⟨(tk_upd (tk_upd tk_top rfl) rfl), (tC rfl (tC rfl (tC rfl (tC rfl (tC (tkO_row _) AllT.nil'))))), (by repeat (first | refine fC (.inl rfl) ?_ | refine fC (.inr rfl) ?_ | refine fC (.inr (by unfold tkFoot; simp only [List.all_cons, List.all_nil, tkO_row, Bool.and_true, Bool.true_and]; rfl)) ?_ | trivial))⟩ (AllK.cons' ⟨(tk_upd (tk_upd tk_top rfl) rfl), (tC rfl (tC rfl (tC rfl (tC rfl (tC (tkO_row _) AllT.nil'))))), (by repeat (first | refine fC (.inl rfl) ?_ | refine fC (.inr rfl) ?_ | refine fC (.inr (by unfold tkFoot; simp only [List.all_cons, List.all_nil, tkO_row, Bool.and_true, Bool.true_and]; rfl)) ?_ | trivial))⟩ AllK.nil')) (by repeat (first | refine fC ⟨?_, ?_⟩ ?_ | refine sC rfl ?_ | refine hC rfl ?_ | trivial)) ?_ ?_
   ·refine y8 ?_ ?_ ?_ ?_ ?_ ?_ ?_ ?_ (y8 ?_ ?_ ?_ ?_ ?_ ?_ ?_ ?_ (y4 ?_ ?_ ?_ ?_ (y2 ?_ ?_ yN)))
    ·intro K _ f w u k
     show Wp K ⟨66, (upd 66 f 0 (rf 0 0)), _⟩
     refine s_move (d := (rf 0 0)) rfl k
    ·intro K _ f w u k
     show Wp K ⟨66, (upd 66 f 11 (rf 0 0)), [(o_vdisk_Disk_03 false (C.mp 2) (C.ref 3 0) p0), _, (om_ e_vdisk_file p0.files), (bx p3), _, _, _, _, _, _, _]⟩
     refine cc [0, 2, 3] [(o_vdisk_Disk_03 false (C.mp 2) (C.ref 3 0) p0), (w 1), (om_ e_vdisk_file p0.files), (bx p3), (w 4), (w 5), (w 6), (w 7), (w 8), (w 9), (w 10), (ow_ e_str r1)] (D.one (C.own 11 0 r1.length 1)) F.ca_24 rfl rfl (ac (.one (.ref rfl)) an) (ac (.cells (ac (.mp rfl) (ac .sc (ac .sc (ac (.ref rfl) (ac .sc an)))))) (ac .map (ac (.cells (ac .sc an)) an))) (vdisk_Disk_Names_24.meets _ p0 p3 r1 er1) ?_
     refine AWops.weak (st' := ⟨66, (upd 66 (upd 66 f 11 (rf 0 0)) 12 (D.one (C.own 5 0 r1.length 1))), [(o_vdisk_Disk_03 false (C.mp 2) (C.ref 3 0) p0), (w 1), (om_ e_vdisk_file p0.files), (bx p3), (w 4), (ow_ e_str r1), (w 6), (w 7), (w 8), (w 9), (w 10)]⟩) (wg 5 [0, 1, 2, 3, 4, 11, 6, 7, 8, 9, 10] [] hx (le_upd2 (le_ok (p := 5) (L := 11) rfl (u 5 rfl).1) (o1 (.own rfl))) (ac (qr rfl rfl) (ac (oq 5 11 (u 5 rfl) 1) (ac .map (ac qb (ac (oq 5 11 (u 5 rfl) 4) (ac (.cells (fun _ => rfl) (all2_row _)) (ac (oq 5 11 (u 5 rfl) 6) (ac (oq 5 11 (u 5 rfl) 7) (ac (oq 5 11 (u 5 rfl) 8) (ac (oq 5 11 (u 5 rfl) 9) (ac (oq 5 11 (u 5 rfl) 10) an)))))))))))) k
    ·intro K _ f w u k
     show Wp K ⟨66, (upd 66 f 1 (rf 1 0)), _⟩
     refine s_move (d := (rf 1 0)) rfl k
    ·intro K _ f w u k
     show Wp K ⟨66, (upd 66 f 13 (rf 1 0)), [_, (o_dossierref03_Disk_0 false (C.own 4 0 p1.L.length 3) p1), _, _, (or_ e_dossierref03_File p1.L), _, _, _, _, _, _]⟩
     refine cc [1, 4] [(w 0), (o_dossierref03_Disk_0 false (C.own 4 0 p1.L.length 3) p1), (w 2), (w 3), (or_ e_dossierref03_File p1.L), (w 5), (w 6), (w 7), (w 8), (w 9), (w 10), (ow_ e_str r2)] (D.one (C.own 11 0 r2.length 1)) F.ca_51 rfl rfl (ac (.one (.ref rfl)) an) (ac (.cells (ac (.own rfl) (ac .sc (ac .sc (ac .sc an))))) (ac (.cells (lend_row _)) an)) (dossierref03_Disk_Names.meets _ p1 r2 er2) ?_
     refine AWops.weak (st' := ⟨66, (upd 66 (upd 66 f 13 (rf 1 0)) 14 (D.one (C.own 6 0 r2.length 1))), [(w 0), (o_dossierref03_Disk_0 false (C.own 4 0 p1.L.length 3) p1), (w 2), (w 3), (or_ e_dossierref03_File p1.L), (w 5), (ow_ e_str r2), (w 7), (w 8), (w 9), (w 10)]⟩) (wg 5 [0, 1, 2, 3, 4, 5, 11, 7, 8, 9, 10] [] hx (le_upd2 (le_ok (p := 6) (L := 11) rfl (u 6 rfl).1) (o1 (.own rfl))) (ac (oq 6 11 (u 6 rfl) 0) (ac (qo rfl) (ac (oq 6 11 (u 6 rfl) 2) (ac (oq 6 11 (u 6 rfl) 3) (ac (.cells id (all2_row _)) (ac (oq 6 11 (u 6 rfl) 5) (ac (.cells (fun _ => rfl) (all2_row _)) (ac (oq 6 11 (u 6 rfl) 7) (ac (oq 6 11 (u 6 rfl) 8) (ac (oq 6 11 (u 6 rfl) 9) (ac (oq 6 11 (u 6 rfl) 10) an)))))))))))) k
    ·intro K _ f w u k
     show Wp K ⟨66, (upd 66 (upd 66 f 14 (D.one (C.own 6 0 r2.length 1))) 12 (D.one (C.own 5 0 r1.length 1))), [_, _, _, _, _, (ow_ e_str r1), (ow_ e_str r2), _, _, _, _]⟩
     refine s_call2 (ρ := []) (br := true) (H2 := [(w 0), (w 1), (w 2), (w 3), (w 4), (ow_ e_str r1), (ow_ e_str r2), (w 7), (w 8), (w 9), (w 10)]) (d := (sb r3)) F.ca_50 rfl rfl (ac (.one (LendC.bor e_str_len rfl rfl rfl)) (ac (.one (LendC.bor e_str_len rfl rfl rfl)) an)) an (by decide) rfl (slices_Equal_string_string.meets _ r1 r2 r3 er3) (.inr ⟨rfl, rfl⟩) rfl rfl k
    ·intro K _ f w u k
     show Wp K ⟨66, (upd 66 f 15 (sb r3)), [_, _, _, _, _, _, _, _, _, _, _]⟩
     refine s_not rfl k
    ·intro K _ f w u k
     show Wp K ⟨66, (upd 66 f 16 (sb (!r3))), _⟩
     refine s_move (d := (sb (!r3))) rfl k
    ·intro K _ f w u k
     show Wp K ⟨66, (upd 66 (upd 66 f 17 (sb (!r3))) 0 (rf 0 0)), _⟩
     refine AWops.guard_yes rfl (nl rfl) rfl (by rw [c4] <;> rfl) ?_
     refine s_move (d := (rf 0 0)) rfl k
    ·intro K _ f w u k
     show Wp K ⟨66, (upd 66 (upd 66 f 18 (rf 0 0)) 17 (sb (!r3))), [(o_vdisk_Disk_03 false (C.mp 2) (C.ref 3 0) p0), _, (om_ e_vdisk_file p0.files), (bx p3), _, _, _, _, _, _, _]⟩
     refine AWops.guard_yes rfl (nl rfl) rfl (by rw [c4] <;> rfl) ?_
     refine cc [0, 2, 3] [(o_vdisk_Disk_03 false (C.mp 2) (C.ref 3 0) p0), (w 1), (om_ e_vdisk_file p0.files), (bx p3), (w 4), (w 5), (w 6), (w 7), (w 8), (w 9), (w 10)] (si r5) F.ca_17 rfl rfl (ac (.one (.ref rfl)) an) (ac (.cells (ac (.mp rfl) (ac .sc (ac .sc (ac (.ref rfl) (ac .sc an)))))) (ac .map (ac (.cells (ac .sc an)) an))) (vdisk_Disk_Used_17.meets _ p0 p3 r5 er5) k
    ·intro K _ f w u k
     show Wp K ⟨66, (upd 66 (upd 66 f 17 (sb (!r3))) 1 (rf 1 0)), _⟩
     refine AWops.guard_yes rfl (nl rfl) rfl (by rw [c4] <;> rfl) ?_
     refine s_move (d := (rf 1 0)) rfl k
    ·intro K _ f w u k
     show Wp K ⟨66, (upd 66 (upd 66 f 20 (rf 1 0)) 17 (sb (!r3))), [_, (o_dossierref03_Disk_0 false (C.own 4 0 p1.L.length 3) p1), _, _, (or_ e_dossierref03_File p1.L), _, _, _, _, _, _]⟩
     refine AWops.guard_yes rfl (nl rfl) rfl (by rw [c4] <;> rfl) ?_
     refine cc [1, 4] [(w 0), (o_dossierref03_Disk_0 false (C.own 4 0 p1.L.length 3) p1), (w 2), (w 3), (or_ e_dossierref03_File p1.L), (w 5), (w 6), (w 7), (w 8), (w 9), (w 10)] (si r6) F.ca_52 rfl rfl (ac (.one (.ref rfl)) an) (ac (.cells (ac (.own rfl) (ac .sc (ac .sc (ac .sc an))))) (ac (.cells (lend_row _)) an)) (dossierref03_Disk_Used.meets _ p1 r6 er6) k
    ·intro K _ f w u k
     show Wp K ⟨66, (upd 66 (upd 66 (upd 66 f 21 (si r6)) 19 (si r5)) 17 (sb (!r3))), _⟩
     refine AWops.guard_yes rfl (nl rfl) rfl (by rw [c4] <;> rfl) ?_
     refine s_binI (v := (.bool (r5 != r6))) rfl rfl rfl k
    ·intro K _ f w u k
     show Wp K ⟨66, (upd 66 (upd 66 f 22 (sb (r5 != r6))) 17 (sb (!r3))), _⟩
     refine s_pick_no (d := (sb (r5 != r6))) rfl (by rw [c4] <;> rfl) rfl k
    ·intro K _ f w u k
     show Wp K ⟨66, (upd 66 f 23 (sb (r5 != r6))), _⟩
     refine s_move (d := (sb (r5 != r6))) rfl k
    ·intro K _ f w u k
     show Wp K ⟨66, (upd 66 (upd 66 f 24 (sb (r5 != r6))) 0 (rf 0 0)), _⟩
     refine AWops.guard_no rfl (nl rfl) rfl c7 k
    ·intro K _ f w u k
     show Wp K ⟨66, (upd 66 f 24 (sb (r5 != r6))), _⟩
     refine AWops.guard_no rfl (nl rfl) rfl c7 k
    ·intro K _ f w u k
     show Wp K ⟨66, (upd 66 f 24 (sb (r5 != r6))), _⟩
     refine AWops.guard_no rfl (nl rfl) rfl c7 k
    ·intro K _ f w u k
     show Wp K ⟨66, (upd 66 f 24 (sb (r5 != r6))), _⟩
     refine AWops.guard_no rfl (nl rfl) rfl c7 k
    ·intro K _ f w u k
     show Wp K ⟨66, (upd 66 f 24 (sb (r5 != r6))), _⟩
     refine AWops.guard_no rfl (nl rfl) rfl c7 k
    ·intro K _ f w u k
     show Wp K ⟨66, (upd 66 f 24 (sb (r5 != r6))), _⟩
     refine AWops.guard_no rfl (nl rfl) rfl c7 k
    ·intro K _ f w u k
     show Wp K ⟨66, (upd 66 f 24 (sb (r5 != r6))), _⟩
     refine AWops.guard_no rfl (nl rfl) rfl c7 k
    ·intro K _ f w u k
     show Wp K ⟨66, (upd 66 f 24 (sb (r5 != r6))), _⟩
     refine s_pick_yes (d := (sb true)) rfl c7 rfl k
   ·refine AWops.weak (st' := ⟨66, (upd 66 (upd 66 (upd 66 topF 0 (rf 0 0)) 1 (rf 1 0)) 32 (sb true)), [(o_vdisk_Disk_03 false (C.mp 2) (C.ref 3 0) p0), (o_dossierref03_Disk_0 false (C.own 4 0 p1.L.length 3) p1), (om_ e_vdisk_file p0.files), (bx p3), (or_ e_dossierref03_File p1.L)]⟩) (wg 5 [0, 1, 2, 3, 4] [] hx (le_upd (le_upd (le_upd (le_top _) (o1 (.ref rfl))) (o1 (.ref rfl))) (o1 .sc)) (ac (qr rfl rfl) (ac (qo rfl) (ac .map (ac qb (ac (.cells id (all2_row _)) an)))))) (AWops.nil ?_)
    refine AW.cond_yes rfl rfl (AW.seq (AW.region ?_))
    refine s_assign (d := (sb false)) rfl (AWops.nil (AW.ret ?_))
    obtain rfl := Option.some.inj h
    exact ⟨_, rfl, (wg 5 [0, 1, 2, 3, 4] [] rfl (le_upd (le_top _) (o1 .sc)) (ac (qr rfl rfl) (ac (qo rfl) (ac .map (ac qb (ac (.cells id (all2_row _)) an))))))⟩
  ·obtain ⟨r8, er8, h⟩ := bnd h
   refine AW.draw (n := 66) (L := 11) [(ft 0 11 (rf 0 0) [(0, (rf 0 0))]), (1, ⟨some 12, (D.one (C.own 5 0 r1.length 1)), [(11, (rf 0 0))], [(0, (o_vdisk_Disk_03 false (C.mp 2) (C.ref 3 0) p0)), (2, (om_ e_vdisk_file p0.files)), (3, (bx p3))], [(5, (ow_ e_str r1))], some 5⟩), (ft 2 13 (rf 1 0) [(1, (rf 1 0))]), (3, ⟨some 14, (D.one (C.own 6 0 r2.length 1)), [(13, (rf 1 0))], [(1, (o_dossierref03_Disk_0 false (C.own 4 0 p1.L.length 3) p1)), (4, (or_ e_dossierref03_File p1.L))], [(6, (ow_ e_str r2))], some 6⟩), (4, ⟨some 15, (sb r3), [(12, (D.one (C.own 5 0 r1.length 1))), (14, (D.one (C.own 6 0 r2.length 1)))], [(5, (ow_ e_str r1)), (6, (ow_ e_str r2))], [], none⟩), (ft 5 16 (sb (!r3)) [(15, (sb r3))]), (ft 6 17 (sb (!r3)) [(16, (sb (!r3)))]), (ft 7 18 (rf 0 0) [(0, (rf 0 0)), (17, (sb (!r3)))]), (8, ⟨some 19, (si r5), [(17, (sb (!r3))), (18, (rf 0 0))], [(0, (o_vdisk_Disk_03 false (C.mp 2) (C.ref 3 0) p0)), (2, (om_ e_vdisk_file p0.files)), (3, (bx p3))], [], none⟩), (ft 9 20 (rf 1 0) [(1, (rf 1 0)), (17, (sb (!r3)))]), (10, ⟨some 21, (si r6), [(17, (sb (!r3))), (20, (rf 1 0))], [(1, (o_dossierref03_Disk_0 false (C.own 4 0 p1.L.length 3) p1)), (4, (or_ e_dossierref03_File p1.L))], [], none⟩), (ft 11 22 (sb (r5 != r6)) [(17, (sb (!r3))), (19, (si r5)), (21, (si r6))]), (ft 12 23 (sb (r5 != r6)) [(17, (sb (!r3))), (22, (sb (r5 != r6)))]), (ft 13 24 (sb (r5 != r6)) [(23, (sb (r5 != r6)))]), (ft 14 25 (rf 0 0) [(0, (rf 0 0)), (24, (sb (r5 != r6)))]), (15, ⟨some 26, (sb r8), [(24, (sb (r5 != r6))), (25, (rf 0 0))], [(0, (o_vdisk_Disk_03 false (C.mp 2) (C.ref 3 0) p0)), (2, (om_ e_vdisk_file p0.files)), (3, (bx p3))], [], none⟩), (ft 16 27 (rf 1 0) [(1, (rf 1 0)), (24, (sb (r5 != r6)))]), (ft 17 28 (rf 1 0) [(24, (sb (r5 != r6))), (27, (rf 1 0))]), (ft 18 29 (rf 1 3) [(24, (sb (r5 != r6))), (28, (rf 1 0))]), (19, ⟨some 30, (sb p1.Off), [(24, (sb (r5 != r6))), (29, (rf 1 3))], [(1, (o_dossierref03_Disk_0 false (C.own 4 0 p1.L.length 3) p1))], [], none⟩), (ft 20 31 (sb (!(r8 == p1.Off))) [(24, (sb (r5 != r6))), (26, (sb r8)), (30, (sb p1.Off))]), (ft 21 32 (sb (!(r8 == p1.Off))) [(24, (sb (r5 != r6))), (31, (sb (!(r8 == p1.Off))))])] [[], [0], [], [0, 1, 2], [0, 1, 2, 3], (.range 5), (.range 6), (.range 7), (.range 8), (.range 7), (.range 10), (.range 11), (.range 12), (.range 13), (.range 14), (.range 15), (.range 14), (.range 14 ++ [16]), (.range 14 ++ [16, 17]), (.range 14 ++ [16, 17, 18]), (.range 20), (.range 21)] (nl rfl) [0, 1, 0, 2, 3, 4, 5, 6, 7, 6, 8, 9, 10, 11, 12, 13, 12, 13, 14, 15, 16, 17] rfl (TK := [(1, 5), (3, 6)]) rfl (AllK.cons' ⟨(tk_upd (tk_upd tk_top rfl) rfl), (tC rfl (tC rfl (tC rfl (tC rfl (tC (tkO_row _) AllT.nil'))))), (by repeat (first | refine fC (.inl rfl) ?_ | refine fC (.inr rfl) ?_ | refine fC (.inr (by unfold tkFoot; simp only [List.all_cons, List.all_nil, tkO_row, Bool.and_true, Bool.true_and]; rfl)) ?_ | trivial))⟩ (AllK.cons' ⟨(tk_upd (tk_upd tk_top rfl) rfl), (tC rfl (tC rfl (tC rfl (tC rfl (tC (tkO_row _) AllT.nil'))))), (by repeat (first | refine fC (.inl rfl) ?_ | refine fC (.inr rfl) ?_ | refine fC (.inr (by unfold tkFoot; simp only [List.all_cons, List.all_nil, tkO_row, Bool.and_true, Bool.true_and]; rfl)) ?_ | trivial))⟩ AllK.nil')) (by repeat (first | refine fC ⟨?_, ?_⟩ ?_ | refine sC rfl ?_ | refine hC rfl ?_ | trivial)) ?_ ?_
   ·refine y8 ?_ ?_ ?_ ?_ ?_ ?_ ?_ ?_ (y8 ?_ ?_ ?_ ?_ ?_ ?_ ?_ ?_ (y4 ?_ ?_ ?_ ?_ (y2 ?_ ?_ yN)))
    ·intro K _ f w u k
     show Wp K ⟨66, (upd 66 f 0 (rf 0 0)), _⟩
     refine s_move (d := (rf 0 0)) rfl k
    ·intro K _ f w u k
     show Wp K ⟨66, (upd 66 f 11 (rf 0 0)), [(o_vdisk_Disk_03 false (C.mp 2) (C.ref 3 0) p0), _, (om_ e_vdisk_file p0.files), (bx p3), _, _, _, _, _, _, _]⟩
     refine cc [0, 2, 3] [(o_vdisk_Disk_03 false (C.mp 2) (C.ref 3 0) p0), (w 1), (om_ e_vdisk_file p0.files), (bx p3), (w 4), (w 5), (w 6), (w 7), (w 8), (w 9), (w 10), (ow_ e_str r1)] (D.one (C.own 11 0 r1.length 1)) F.ca_24 rfl rfl (ac (.one (.ref rfl)) an) (ac (.cells (ac (.mp rfl) (ac .sc (ac .sc (ac (.ref rfl) (ac .sc an)))))) (ac .map (ac (.cells (ac .sc an)) an))) (vdisk_Disk_Names_24.meets _ p0 p3 r1 er1) ?_
     refine AWops.weak (st' := ⟨66, (upd 66 (upd 66 f 11 (rf 0 0)) 12 (D.one (C.own 5 0 r1.length 1))), [(o_vdisk_Disk_03 false (C.mp 2) (C.ref 3 0) p0), (w 1), (om_ e_vdisk_file p0.files), (bx p3), (w 4), (ow_ e_str r1), (w 6), (w 7), (w 8), (w 9), (w 10)]⟩) (wg 5 [0, 1, 2, 3, 4, 11, 6, 7, 8, 9, 10] [] hx (le_upd2 (le_ok (p := 5) (L := 11) rfl (u 5 rfl).1) (o1 (.own rfl))) (ac (qr rfl rfl) (ac (oq 5 11 (u 5 rfl) 1) (ac .map (ac qb (ac (oq 5 11 (u 5 rfl) 4) (ac (.cells (fun _ => rfl) (all2_row _)) (ac (oq 5 11 (u 5 rfl) 6) (ac (oq 5 11 (u 5 rfl) 7) (ac (oq 5 11 (u 5 rfl) 8) (ac (oq 5 11 (u 5 rfl) 9) (ac (oq 5 11 (u 5 rfl) 10) an)))))))))))) k
    ·intro K _ f w u k
     show Wp K ⟨66, (upd 66 f 1 (rf 1 0)), _⟩
     refine s_move (d := (rf 1 0)) rfl k
    ·intro K _ f w u k
     show Wp K ⟨66, (upd 66 f 13 (rf 1 0)), [_, (o_dossierref03_Disk_0 false (C.own 4 0 p1.L.length 3) p1), _, _, (or_ e_dossierref03_File p1.L), _, _, _, _, _, _]⟩
     refine cc [1, 4] [(w 0), (o_dossierref03_Disk_0 false (C.own 4 0 p1.L.length 3) p1), (w 2), (w 3), (or_ e_dossierref03_File p1.L), (w 5), (w 6), (w 7), (w 8), (w 9), (w 10), (ow_ e_str r2)] (D.one (C.own 11 0 r2.length 1)) F.ca_51 rfl rfl (ac (.one (.ref rfl)) an) (ac (.cells (ac (.own rfl) (ac .sc (ac .sc (ac .sc an))))) (ac (.cells (lend_row _)) an)) (dossierref03_Disk_Names.meets _ p1 r2 er2) ?_
     refine AWops.weak (st' := ⟨66, (upd 66 (upd 66 f 13 (rf 1 0)) 14 (D.one (C.own 6 0 r2.length 1))), [(w 0), (o_dossierref03_Disk_0 false (C.own 4 0 p1.L.length 3) p1), (w 2), (w 3), (or_ e_dossierref03_File p1.L), (w 5), (ow_ e_str r2), (w 7), (w 8), (w 9), (w 10)]⟩) (wg 5 [0, 1, 2, 3, 4, 5, 11, 7, 8, 9, 10] [] hx (le_upd2 (le_ok (p := 6) (L := 11) rfl (u 6 rfl).1) (o1 (.own rfl))) (ac (oq 6 11 (u 6 rfl) 0) (ac (qo rfl) (ac (oq 6 11 (u 6 rfl) 2) (ac (oq 6 11 (u 6 rfl) 3) (ac (.cells id (all2_row _)) (ac (oq 6 11 (u 6 rfl) 5) (ac (.cells (fun _ => rfl) (all2_row _)) (ac (oq 6 11 (u 6 rfl) 7) (ac (oq 6 11 (u 6 rfl) 8) (ac (oq 6 11 (u 6 rfl) 9) (ac (oq 6 11 (u 6 rfl) 10) an)))))))))))) k
    ·intro K _ f w u k
     show Wp K ⟨66, (upd 66 (upd 66 f 14 (D.one (C.own 6 0 r2.length 1))) 12 (D.one (C.own 5 0 r1.length 1))), [_, _, _, _, _, (ow_ e_str r1), (ow_ e_str r2), _, _, _, _]⟩
     refine s_call2 (ρ := []) (br := true) (H2 := [(w 0), (w 1), (w 2), (w 3), (w 4), (ow_ e_str r1), (ow_ e_str r2), (w 7), (w 8), (w 9), (w 10)]) (d := (sb r3)) F.ca_50 rfl rfl (ac (.one (LendC.bor e_str_len rfl rfl rfl)) (ac (.one (LendC.bor e_str_len rfl rfl rfl)) an)) an (by decide) rfl (slices_Equal_string_string.meets _ r1 r2 r3 er3) (.inr ⟨rfl, rfl⟩) rfl rfl k
    ·intro K _ f w u k
     show Wp K ⟨66, (upd 66 f 15 (sb r3)), [_, _, _, _, _, _, _, _, _, _, _]⟩
     refine s_not rfl k
    ·intro K _ f w u k
     show Wp K ⟨66, (upd 66 f 16 (sb (!r3))), _⟩
     refine s_move (d := (sb (!r3))) rfl k
    ·intro K _ f w u k
     show Wp K ⟨66, (upd 66 (upd 66 f 17 (sb (!r3))) 0 (rf 0 0)), _⟩
     refine AWops.guard_yes rfl (nl rfl) rfl (by rw [c4] <;> rfl) ?_
     refine s_move (d := (rf 0 0)) rfl k
    ·intro K _ f w u k
     show Wp K ⟨66, (upd 66 (upd 66 f 18 (rf 0 0)) 17 (sb (!r3))), [(o_vdisk_Disk_03 false (C.mp 2) (C.ref 3 0) p0), _, (om_ e_vdisk_file p0.files), (bx p3), _, _, _, _, _, _, _]⟩
     refine AWops.guard_yes rfl (nl rfl) rfl (by rw [c4] <;> rfl) ?_
     refine cc [0, 2, 3] [(o_vdisk_Disk_03 false (C.mp 2) (C.ref 3 0) p0), (w 1), (om_ e_vdisk_file p0.files), (bx p3), (w 4), (w 5), (w 6), (w 7), (w 8), (w 9), (w 10)] (si r5) F.ca_17 rfl rfl (ac (.one (.ref rfl)) an) (ac (.cells (ac (.mp rfl) (ac .sc (ac .sc (ac (.ref rfl) (ac .sc an)))))) (ac .map (ac (.cells (ac .sc an)) an))) (vdisk_Disk_Used_17.meets _ p0 p3 r5 er5) k
    ·intro K _ f w u k
     show Wp K ⟨66, (upd 66 (upd 66 f 17 (sb (!r3))) 1 (rf 1 0)), _⟩
     refine AWops.guard_yes rfl (nl rfl) rfl (by rw [c4] <;> rfl) ?_
     refine s_move (d := (rf 1 0)) rfl k
    ·intro K _ f w u k
     show Wp K ⟨66, (upd 66 (upd 66 f 20 (rf 1 0)) 17 (sb (!r3))), [_, (o_dossierref03_Disk_0 false (C.own 4 0 p1.L.length 3) p1), _, _, (or_ e_dossierref03_File p1.L), _, _, _, _, _, _]⟩
     refine AWops.guard_yes rfl (nl rfl) rfl (by rw [c4] <;> rfl) ?_
     refine cc [1, 4] [(w 0), (o_dossierref03_Disk_0 false (C.own 4 0 p1.L.length 3) p1), (w 2), (w 3), (or_ e_dossierref03_File p1.L), (w 5), (w 6), (w 7), (w 8), (w 9), (w 10)] (si r6) F.ca_52 rfl rfl (ac (.one (.ref rfl)) an) (ac (.cells (ac (.own rfl) (ac .sc (ac .sc (ac .sc an))))) (ac (.cells (lend_row _)) an)) (dossierref03_Disk_Used.meets _ p1 r6 er6) k
    ·intro K _ f w u k
     show Wp K ⟨66, (upd 66 (upd 66 (upd 66 f 21 (si r6)) 19 (si r5)) 17 (sb (!r3))), _⟩
     refine AWops.guard_yes rfl (nl rfl) rfl (by rw [c4] <;> rfl) ?_
     refine s_binI (v := (.bool (r5 != r6))) rfl rfl rfl k
    ·intro K _ f w u k
     show Wp K ⟨66, (upd 66 (upd 66 f 22 (sb (r5 != r6))) 17 (sb (!r3))), _⟩
     refine s_pick_no (d := (sb (r5 != r6))) rfl (by rw [c4] <;> rfl) rfl k
    ·intro K _ f w u k
     show Wp K ⟨66, (upd 66 f 23 (sb (r5 != r6))), _⟩
     refine s_move (d := (sb (r5 != r6))) rfl k
    ·intro K _ f w u k
     show Wp K ⟨66, (upd 66 (upd 66 f 24 (sb (r5 != r6))) 0 (rf 0 0)), _⟩
     refine AWops.guard_yes rfl (nl rfl) rfl c7 ?_
     refine s_move (d := (rf 0 0)) rfl k
    ·intro K _ f w u k
     show Wp K ⟨66, (upd 66 (upd 66 f 25 (rf 0 0)) 24 (sb (r5 != r6))), [(o_vdisk_Disk_03 false (C.mp 2) (C.ref 3 0) p0), _, (om_ e_vdisk_file p0.files), (bx p3), _, _, _, _, _, _, _]⟩
     refine AWops.guard_yes rfl (nl rfl) rfl c7 ?_
     refine cc [0, 2, 3] [(o_vdisk_Disk_03 false (C.mp 2) (C.ref 3 0) p0), (w 1), (om_ e_vdisk_file p0.files), (bx p3), (w 4), (w 5), (w 6), (w 7), (w 8), (w 9), (w 10)] (sb r8) F.ca_23 rfl rfl (ac (.one (.ref rfl)) an) (ac (.cells (ac (.mp rfl) (ac .sc (ac .sc (ac (.ref rfl) (ac .sc an)))))) (ac .map (ac (.cells (ac .sc an)) an))) (vdisk_Disk_Dead_23.meets _ p0 p3 r8 er8) k
    ·intro K _ f w u k
     show Wp K ⟨66, (upd 66 (upd 66 f 24 (sb (r5 != r6))) 1 (rf 1 0)), _⟩
     refine AWops.guard_yes rfl (nl rfl) rfl c7 ?_
     refine s_move (d := (rf 1 0)) rfl k
    ·intro K _ f w u k
     show Wp K ⟨66, (upd 66 (upd 66 f 27 (rf 1 0)) 24 (sb (r5 != r6))), [_, _, _, _, _, _, _, _, _, _, _]⟩
     refine AWops.guard_yes rfl (nl rfl) rfl c7 ?_
     refine s_nilCheck (d := (rf 1 0)) rfl (.inl ⟨_, _, rfl⟩) k
    ·intro K _ f w u k
     show Wp K ⟨66, (upd 66 (upd 66 f 28 (rf 1 0)) 24 (sb (r5 != r6))), [_, _, _, _, _, _, _, _, _, _, _]⟩
     refine AWops.guard_yes rfl (nl rfl) rfl c7 ?_
     refine s_fieldRef F.fo_72_3 (by decide) rfl k
    ·intro K _ f w u k
     show Wp K ⟨66, (upd 66 (upd 66 f 29 (rf 1 3)) 24 (sb (r5 != r6))), [_, (o_dossierref03_Disk_0 false (C.own 4 0 p1.L.length 3) p1), _, _, _, _, _, _, _, _, _]⟩
     refine AWops.guard_yes rfl (nl rfl) rfl c7 ?_
     refine s_load1 (c' := (cb p1.Off)) F.ag_4 rfl rfl k
    ·intro K _ f w u k
     show Wp K ⟨66, (upd 66 (upd 66 (upd 66 f 30 (sb p1.Off)) 26 (sb r8)) 24 (sb (r5 != r6))), _⟩
     refine AWops.guard_yes rfl (nl rfl) rfl c7 ?_
     refine s_binB (b := (!(r8 == p1.Off))) F.u_4 rfl rfl (.inr ⟨rfl, rfl⟩) k
    ·intro K _ f w u k
     show Wp K ⟨66, (upd 66 (upd 66 f 31 (sb (!(r8 == p1.Off)))) 24 (sb (r5 != r6))), _⟩
     refine s_pick_no (d := (sb (!(r8 == p1.Off)))) rfl c7 rfl k
   ·refine AWops.weak (st' := ⟨66, (upd 66 (upd 66 (upd 66 topF 0 (rf 0 0)) 1 (rf 1 0)) 32 (sb (!(r8 == p1.Off)))), [(o_vdisk_Disk_03 false (C.mp 2) (C.ref 3 0) p0), (o_dossierref03_Disk_0 false (C.own 4 0 p1.L.length 3) p1), (om_ e_vdisk_file p0.files), (bx p3), (or_ e_dossierref03_File p1.L)]⟩) (wg 5 [0, 1, 2, 3, 4] [] hx (le_upd (le_upd (le_upd (le_top _) (o1 (.ref rfl))) (o1 (.ref rfl))) (o1 .sc)) (ac (qr rfl rfl) (ac (qo rfl) (ac .map (ac qb (ac (.cells id (all2_row _)) an)))))) (AWops.nil ?_)
    rcases itH h with ⟨c9, h⟩ | ⟨c9, h⟩
    ·refine AW.cond_no rfl (by rw [c9] <;> rfl) (AW.skip (AW.seq (AW.seq (AW.region ?_))))
     refine s_move (d := (rf 1 0)) rfl (s_nilCheck (d := (rf 1 0)) rfl (.inl ⟨_, _, rfl⟩) (s_fieldRef F.fo_72_0 (by decide) rfl (s_load1 (c' := (C.own 4 0 p1.L.length 3)) F.ag_70 rfl rfl (s_len (n := p1.L.length) F.u_70 rfl (.inr ⟨(fun _ _ h => by cases h), ⟨_, rfl⟩⟩) (s_move (d := (si 0)) rfl (AWops.nil (AW.block ?_)))))))
     refine AW.loopw (st0 := ⟨66, (upd 66 (upd 66 (upd 66 (upd 66 (upd 66 topF 0 (rf 0 0)) 1 (rf 1 0)) 36 (D.one (C.own 4 0 p1.L.length 3))) 37 (si (p1.L.length : Int))) 38 (si 0)), [(o_vdisk_Disk_03 false (C.mp 2) (C.ref 3 0) p0), (o_dossierref03_Disk_0 false (C.own 4 0 p1.L.length 3) p1), (om_ e_vdisk_file p0.files), (bx p3), (or_ e_dossierref03_File p1.L)]⟩) (fun kv st => kv ≤ k ∧ ∃ (x10 : Int), dossierplain_Same_26.l0 kv x10 p0 p1 p3 = some r ∧ st = ⟨66, (upd 66 (upd 66 (upd 66 (upd 66 (upd 66 topF 0 (rf 0 0)) 1 (rf 1 0)) 36 (D.one (C.own 4 0 p1.L.length 3))) 37 (si (p1.L.length : Int))) 38 (si x10)), [(o_vdisk_Disk_03 false (C.mp 2) (C.ref 3 0) p0), (o_dossierref03_Disk_0 false (C.own 4 0 p1.L.length 3) p1), (om_ e_vdisk_file p0.files), (bx p3), (or_ e_dossierref03_File p1.L)]⟩) (k := k) (wg 5 [0, 1, 2, 3, 4] [] hx (le_upd (le_upd (le_upd (le_upd (le_upd (le_top _) (o1 (.ref rfl))) (o1 (.ref rfl))) (o1 (.own rfl))) (o1 .sc)) (o1 .sc)) (ac (qr rfl rfl) (ac (qo rfl) (ac .map (ac qb (ac (.cells id (all2_row _)) an)))))) ⟨Nat.le_refl _, 0, h, rfl⟩ ?_
     rintro ql0 st ⟨hkl0, x10, h, rfl⟩
     cases ql0 with
     | zero => exact absurd h (by simp [dossierplain_Same_26.l0])
     | succ ql0 =>
      replace h := (dossierplain_Same_26.l0.eq_2 _ _ _ _ _).symm.trans h
      refine AW.seq (AW.region ?_)
      refine s_binI (v := (.bool (decide (x10 < (p1.L.length : Int))))) rfl rfl rfl (AWops.nil (AW.seq ?_))
      rcases itH h with ⟨c11, h⟩ | ⟨c11, h⟩
      ·refine AW.cond_yes rfl c11 (AW.skip (AW.seq (AW.block (AW.seq (AW.region ?_)))))
       obtain ⟨v12, ev12, h⟩ := bnd h
       obtain ⟨pv12, qv12, gv12⟩ := rd_some ev12
       refine s_indexOwn (d := (D.one (C.ref 4 (0 + x10.toNat * 3)))) F.u_70 F.sz_82 rfl rfl pv12 qv12 rfl ?_
       obtain ⟨R13, hR13⟩ := row_at (f := e_dossierref03_File) (sz := 3) (o := 0) e_dossierref03_File_len gv12 (e_dossierref03_File_eq v12) (by decide)
       refine s_loadN (ds := (c_dossierref03_File v12)) F.ag_82 F.sz_82 (congrArg some hR13) rfl rfl (s_alloc (cs := [(ct (⟨#[]⟩ : ByteArray)), (C.p true (.v (.slice none 0 0))), (ci 0)]) F.z_82 rfl rfl (s_store (cs' := (c_dossierref03_File v12)) rfl rfl rfl (List.cons_ne_nil _ _) rfl F.sz_82 (nl rfl) rfl (AWops.nil (AW.seq (AW.region (s_move (d := (rf 0 0)) rfl (s_fieldRef F.fo_82_0 (by decide) rfl (s_load1 (c' := (ct v12.Name)) F.ag_9 rfl rfl ?_))))))))
       obtain ⟨r14, er14, h⟩ := bnd h
       refine cc [0, 2, 3] [(o_vdisk_Disk_03 false (C.mp 2) (C.ref 3 0) p0), (o_dossierref03_Disk_0 false (C.own 4 0 p1.L.length 3) p1), (om_ e_vdisk_file p0.files), (bx p3), (or_ e_dossierref03_File p1.L), (some (AObj.cells true (c_dossierref03_File v12))), (ow_ e_u8 r14.1)] (D.tup [(D.one (C.own 6 0 r14.1.length 1)), (si r14.2)]) F.ca_12 rfl rfl (ac (.one (.ref rfl)) (ac (.one .sc) an)) (ac (.cells (ac (.mp rfl) (ac .sc (ac .sc (ac (.ref rfl) (ac .sc an)))))) (ac .map (ac (.cells (ac .sc an)) an))) (vdisk_Disk_Read_12.meets _ p0 v12.Name p3 r14 er14) (s_move (d := (D.tup [(D.one (C.own 6 0 r14.1.length 1)), (si r14.2)])) rfl (s_extract (d := (D.one (C.own 6 0 r14.1.length 1))) rfl rfl (s_extract (d := (si r14.2)) rfl rfl (s_assign (d := (D.one (C.own 6 0 r14.1.length 1))) rfl (s_assign (d := (si r14.2)) rfl (AWops.nil (AW.seq (AW.region ?_))))))))
       refine s_move (d := (rf 1 0)) rfl (s_fieldRef F.fo_82_0 (by decide) rfl (s_load1 (c' := (ct v12.Name)) F.ag_9 rfl rfl ?_))
       obtain ⟨r15, er15, h⟩ := bnd h
       refine cc [1, 4] [(o_vdisk_Disk_03 false (C.mp 2) (C.ref 3 0) p0), (o_dossierref03_Disk_0 false (C.own 4 0 p1.L.length 3) p1), (om_ e_vdisk_file p0.files), (bx p3), (or_ e_dossierref03_File p1.L), (some (AObj.cells true (c_dossierref03_File v12))), (ow_ e_u8 r14.1)] (D.tup [(D.one (C.p false (.sl r15.1.length (r15.1.flatMap e_u8)))), (si r15.2)]) F.ca_27 rfl rfl (ac (.one (.ref rfl)) (ac (.one .sc) an)) (ac (.cells (ac (.own rfl) (ac .sc (ac .sc (ac .sc an))))) (ac (.cells (lend_row _)) an)) (dossierref03_Disk_Read.meets _ p1 v12.Name r15 er15) (s_move (d := (D.tup [(D.one (C.p false (.sl r15.1.length (r15.1.flatMap e_u8)))), (si r15.2)])) rfl (s_extract (d := (D.one (C.p false (.sl r15.1.length (r15.1.flatMap e_u8))))) rfl rfl (s_extract (d := (si r15.2)) rfl rfl (s_assign (d := (D.one (C.p false (.sl r15.1.length (r15.1.flatMap e_u8))))) rfl (s_assign (d := (si r15.2)) rfl (AWops.nil (AW.seq (AW.region ?_))))))))
       refine s_move (d := (si r14.2)) rfl (s_move (d := (si r15.2)) rfl (s_binI (v := (.bool (r14.2 != r15.2))) rfl rfl rfl (s_move (d := (sb (r14.2 != r15.2))) rfl ?_)))
       rcases itH h with ⟨c16, h⟩ | ⟨c16, h⟩
       ·iterate 4 refine AWops.guard_no rfl (nl rfl) rfl c16 ?_
        refine s_pick_yes (d := (sb true)) rfl c16 rfl (AWops.nil ?_)
        refine AW.cond_yes rfl rfl (AW.seq (AW.region ?_))
        refine s_assign (d := (sb false)) rfl (AWops.nil (AW.ret ?_))
        obtain rfl := Option.some.inj h
        exact ⟨_, rfl, (wg 5 [0, 1, 2, 3, 4] [] rfl (le_upd (le_top _) (o1 .sc)) (ac (qr rfl rfl) (ac (qo rfl) (ac .map (ac qb (ac (.cells id (all2_row _)) an))))))⟩
       ·refine AWops.guard_yes rfl (nl rfl) rfl c16 ?_
        refine s_move (d := (D.one (C.own 6 0 r14.1.length 1))) rfl ?_
        refine AWops.guard_yes rfl (nl rfl) rfl c16 ?_
        refine s_move (d := (D.one (C.p false (.sl r15.1.length (r15.1.flatMap e_u8))))) rfl ?_
        refine AWops.guard_yes rfl (nl rfl) rfl c16 ?_
        obtain ⟨r17, er17, h⟩ := bnd h
        refine s_call2 (ρ := []) (br := true) (H2 := [(o_vdisk_Disk_03 false (C.mp 2) (C.ref 3 0) p0), (o_dossierref03_Disk_0 false (C.own 4 0 p1.L.length 3) p1), (om_ e_vdisk_file p0.files), (bx p3), (or_ e_dossierref03_File p1.L), (some (AObj.cells true (c_dossierref03_File v12))), (ow_ e_u8 r14.1)]) (d := (sb r17)) F.ca_28 rfl rfl (ac (.one (LendC.bor e_u8_len rfl rfl rfl)) (ac (.one .imm) an)) an (by decide) rfl (bytes_Equal.meets _ r14.1 r15.1 r17 er17) (.inr ⟨rfl, rfl⟩) rfl rfl ?_
        refine AWops.guard_yes rfl (nl rfl) rfl c16 ?_
        refine s_not rfl (s_pick_no (d := (sb (!r17))) rfl c16 rfl (AWops.nil ?_))
        rcases itH h with ⟨c18, h⟩ | ⟨c18, h⟩
        ·refine AW.cond_no rfl (by rw [c18] <;> rfl) (AW.skip (AW.region ?_))
         refine s_binI (v := (.int .i64 (IntKind.i64.wrap (x10 + 1)))) rfl rfl rfl (s_move (d := (si (IntKind.i64.wrap (x10 + 1)))) rfl (AWops.nil ?_))
         exact ⟨_, ⟨66, (upd 66 (upd 66 (upd 66 (upd 66 (upd 66 topF 0 (rf 0 0)) 1 (rf 1 0)) 36 (D.one (C.own 4 0 p1.L.length 3))) 37 (si (p1.L.length : Int))) 38 (si (IntKind.i64.wrap (x10 + 1)))), [(o_vdisk_Disk_03 false (C.mp 2) (C.ref 3 0) p0), (o_dossierref03_Disk_0 false (C.own 4 0 p1.L.length 3) p1), (om_ e_vdisk_file p0.files), (bx p3), (or_ e_dossierref03_File p1.L)]⟩, by omega, (wg 5 [0, 1, 2, 3, 4] [] hx (le_upd (le_upd (le_upd (le_upd (le_upd (le_top _) (o1 (.ref rfl))) (o1 (.ref rfl))) (o1 (.own rfl))) (o1 .sc)) (o1 .sc)) (ac (qr rfl rfl) (ac (qo rfl) (ac .map (ac qb (ac (.cells id (all2_row _)) an)))))), by omega, IntKind.i64.wrap (x10 + 1), h, rfl⟩
        ·refine AW.cond_yes rfl (by rw [c18] <;> rfl) (AW.seq (AW.region ?_))
         refine s_assign (d := (sb false)) rfl (AWops.nil (AW.ret ?_))
         obtain rfl := Option.some.inj h
         exact ⟨_, rfl, (wg 5 [0, 1, 2, 3, 4] [] rfl (le_upd (le_top _) (o1 .sc)) (ac (qr rfl rfl) (ac (qo rfl) (ac .map (ac qb (ac (.cells id (all2_row _)) an))))))⟩
      ·refine AW.cond_no rfl c11 (AW.exit (AW.seq (AW.region ?_)))
       refine s_assign (d := (sb true)) rfl (AWops.nil (AW.ret ?_))
       obtain rfl := Option.some.inj h
       exact ⟨_, rfl, (wg 5 [0, 1, 2, 3, 4] [] rfl (le_upd (le_top _) (o1 .sc)) (ac (qr rfl rfl) (ac (qo rfl) (ac .map (ac qb (ac (.cells id (all2_row _)) an))))))⟩
    ·refine AW.cond_yes rfl (by rw [c9] <;> rfl) (AW.seq (AW.region ?_))
     refine s_assign (d := (sb false)) rfl (AWops.nil (AW.ret ?_))
     obtain rfl := Option.some.inj h
     exact ⟨_, rfl, (wg 5 [0, 1, 2, 3, 4] [] rfl (le_upd (le_top _) (o1 .sc)) (ac (qr rfl rfl) (ac (qo rfl) (ac .map (ac qb (ac (.cells id (all2_row _)) an))))))⟩
 ·refine AW.draw (n := 66) (L := 11) [(ft 0 11 (rf 0 0) [(0, (rf 0 0))]), (1, ⟨some 12, (D.one (C.own 5 0 r1.length 1)), [(11, (rf 0 0))], [(0, (o_vdisk_Disk_03 false (C.mp 2) (C.ref 3 0) p0)), (2, (om_ e_vdisk_file p0.files)), (3, (bx p3))], [(5, (ow_ e_str r1))], some 5⟩), (ft 2 13 (rf 1 0) [(1, (rf 1 0))]), (3, ⟨some 14, (D.one (C.own 6 0 r2.length 1)), [(13, (rf 1 0))], [(1, (o_dossierref03_Disk_0 false (C.own 4 0 p1.L.length 3) p1)), (4, (or_ e_dossierref03_File p1.L))], [(6, (ow_ e_str r2))], some 6⟩), (4, ⟨some 15, (sb r3), [(12, (D.one (C.own 5 0 r1.length 1))), (14, (D.one (C.own 6 0 r2.length 1)))], [(5, (ow_ e_str r1)), (6, (ow_ e_str r2))], [], none⟩), (ft 5 16 (sb (!r3)) [(15, (sb r3))]), (ft 6 17 (sb (!r3)) [(16, (sb (!r3)))]), (ft 7 18 (D.tup []) [(0, (rf 0 0)), (17, (sb (!r3)))]), (ft 8 19 (D.tup []) [(17, (sb (!r3)))]), (ft 9 20 (D.tup []) [(17, (sb (!r3)))]), (ft 10 21 (D.tup []) [(17, (sb (!r3)))]), (ft 11 22 (D.tup []) [(17, (sb (!r3)))]), (ft 12 23 (sb true) [(17, (sb (!r3)))]), (ft 13 24 (sb true) [(23, (sb true))]), (ft 14 25 (D.tup []) [(24, (sb true))]), (ft 15 26 (D.tup []) [(24, (sb true))]), (ft 16 27 (D.tup []) [(24, (sb true))]), (ft 17 28 (D.tup []) [(24, (sb true))]), (ft 18 29 (D.tup []) [(24, (sb true))]), (ft 19 30 (D.tup []) [(24, (sb true))]), (ft 20 31 (D.tup []) [(24, (sb true))]), (ft 21 32 (sb true) [(24, (sb true))])] [[], [0], [], [0, 1, 2], [0, 1, 2, 3], (.range 5), (.range 6), (.range 7), (.range 8), (.range 7), (.range 10), (.range 11), (.range 12), (.range 13), (.range 14), (.range 15), (.range 14), (.range 14 ++ [16]), (.range 14 ++ [16, 17]), (.range 14 ++ [16, 17, 18]), (.range 20), (.range 21)] (nl rfl) [0, 1, 0, 2, 3, 4, 5, 6, 7, 6, 8, 9, 10, 11, 12, 13, 12, 13, 14, 15, 16, 17] rfl (TK := [(1, 5), (3, 6)]) rfl (AllK.cons' ⟨(tk_upd (tk_upd tk_top rfl) rfl), (tC rfl (tC rfl (tC rfl (tC rfl (tC (tkO_row _) AllT.nil'))))), (by repeat (first | refine fC (.inl rfl) ?_ | refine fC (.inr rfl) ?_ | refine fC (.inr (by unfold tkFoot; simp only [List.all_cons, List.all_nil, tkO_row, Bool.and_true, Bool.true_and]; rfl)) ?_ | trivial))⟩ (AllK.cons' ⟨(tk_upd (tk_upd tk_top rfl) rfl), (tC rfl (tC rfl (tC rfl (tC rfl (tC (tkO_row _) AllT.nil'))))), (by repeat (first | refine fC (.inl rfl) ?_ | refine fC (.inr rfl) ?_ | refine fC (.inr (by unfold tkFoot; simp only [List.all_cons, List.all_nil, tkO_row, Bool.and_true, Bool.true_and]; rfl)) ?_ | trivial))⟩ AllK.nil')) (by repeat (first | refine fC ⟨?_, ?_⟩ ?_ | refine sC rfl ?_ | refine hC rfl ?_ | trivial)) ?_ ?_
  ·refine y8 ?_ ?_ ?_ ?_ ?_ ?_ ?_ ?_ (y8 ?_ ?_ ?_ ?_ ?_ ?_ ?_ ?_ (y4 ?_ ?_ ?_ ?_ (y2 ?_ ?_ yN)))
   ·intro K _ f w u k
    show Wp K ⟨66, (upd 66 f 0 (rf 0 0)), _⟩
    refine s_move (d := (rf 0 0)) rfl k
   ·intro K _ f w u k
    show Wp K ⟨66, (upd 66 f 11 (rf 0 0)), [(o_vdisk_Disk_03 false (C.mp 2) (C.ref 3 0) p0), _, (om_ e_vdisk_file p0.files), (bx p3), _, _, _, _, _, _, _]⟩
    refine cc [0, 2, 3] [(o_vdisk_Disk_03 false (C.mp 2) (C.ref 3 0) p0), (w 1), (om_ e_vdisk_file p0.files), (bx p3), (w 4), (w 5), (w 6), (w 7), (w 8), (w 9), (w 10), (ow_ e_str r1)] (D.one (C.own 11 0 r1.length 1)) F.ca_24 rfl rfl (ac (.one (.ref rfl)) an) (ac (.cells (ac (.mp rfl) (ac .sc (ac .sc (ac (.ref rfl) (ac .sc an)))))) (ac .map (ac (.cells (ac .sc an)) an))) (vdisk_Disk_Names_24.meets _ p0 p3 r1 er1) ?_
    refine AWops.weak (st' := ⟨66, (upd 66 (upd 66 f 11 (rf 0 0)) 12 (D.one (C.own 5 0 r1.length 1))), [(o_vdisk_Disk_03 false (C.mp 2) (C.ref 3 0) p0), (w 1), (om_ e_vdisk_file p0.files), (bx p3), (w 4), (ow_ e_str r1), (w 6), (w 7), (w 8), (w 9), (w 10)]⟩) (wg 5 [0, 1, 2, 3, 4, 11, 6, 7, 8, 9, 10] [] hx (le_upd2 (le_ok (p := 5) (L := 11) rfl (u 5 rfl).1) (o1 (.own rfl))) (ac (qr rfl rfl) (ac (oq 5 11 (u 5 rfl) 1) (ac .map (ac qb (ac (oq 5 11 (u 5 rfl) 4) (ac (.cells (fun _ => rfl) (all2_row _)) (ac (oq 5 11 (u 5 rfl) 6) (ac (oq 5 11 (u 5 rfl) 7) (ac (oq 5 11 (u 5 rfl) 8) (ac (oq 5 11 (u 5 rfl) 9) (ac (oq 5 11 (u 5 rfl) 10) an)))))))))))) k
   ·intro K _ f w u k
    show Wp K ⟨66, (upd 66 f 1 (rf 1 0)), _⟩
    refine s_move (d := (rf 1 0)) rfl k
   ·intro K _ f w u k
    show Wp K ⟨66, (upd 66 f 13 (rf 1 0)), [_, (o_dossierref03_Disk_0 false (C.own 4 0 p1.L.length 3) p1), _, _, (or_ e_dossierref03_File p1.L), _, _, _, _, _, _]⟩
    refine cc [1, 4] [(w 0), (o_dossierref03_Disk_0 false (C.own 4 0 p1.L.length 3) p1), (w 2), (w 3), (or_ e_dossierref03_File p1.L), (w 5), (w 6), (w 7), (w 8), (w 9), (w 10), (ow_ e_str r2)] (D.one (C.own 11 0 r2.length 1)) F.ca_51 rfl rfl (ac (.one (.ref rfl)) an) (ac (.cells (ac (.own rfl) (ac .sc (ac .sc (ac .sc an))))) (ac (.cells (lend_row _)) an)) (dossierref03_Disk_Names.meets _ p1 r2 er2) ?_
    refine AWops.weak (st' := ⟨66, (upd 66 (upd 66 f 13 (rf 1 0)) 14 (D.one (C.own 6 0 r2.length 1))), [(w 0), (o_dossierref03_Disk_0 false (C.own 4 0 p1.L.length 3) p1), (w 2), (w 3), (or_ e_dossierref03_File p1.L), (w 5), (ow_ e_str r2), (w 7), (w 8), (w 9), (w 10)]⟩) (wg 5 [0, 1, 2, 3, 4, 5, 11, 7, 8, 9, 10] [] hx (le_upd2 (le_ok (p := 6) (L := 11) rfl (u 6 rfl).1) (o1 (.own rfl))) (ac (oq 6 11 (u 6 rfl) 0) (ac (qo rfl) (ac (oq 6 11 (u 6 rfl) 2) (ac (oq 6 11 (u 6 rfl) 3) (ac (.cells id (all2_row _)) (ac (oq 6 11 (u 6 rfl) 5) (ac (.cells (fun _ => rfl) (all2_row _)) (ac (oq 6 11 (u 6 rfl) 7) (ac (oq 6 11 (u 6 rfl) 8) (ac (oq 6 11 (u 6 rfl) 9) (ac (oq 6 11 (u 6 rfl) 10) an)))))))))))) k
   ·intro K _ f w u k
    show Wp K ⟨66, (upd 66 (upd 66 f 14 (D.one (C.own 6 0 r2.length 1))) 12 (D.one (C.own 5 0 r1.length 1))), [_, _, _, _, _, (ow_ e_str r1), (ow_ e_str r2), _, _, _, _]⟩
    refine s_call2 (ρ := []) (br := true) (H2 := [(w 0), (w 1), (w 2), (w 3), (w 4), (ow_ e_str r1), (ow_ e_str r2), (w 7), (w 8), (w 9), (w 10)]) (d := (sb r3)) F.ca_50 rfl rfl (ac (.one (LendC.bor e_str_len rfl rfl rfl)) (ac (.one (LendC.bor e_str_len rfl rfl rfl)) an)) an (by decide) rfl (slices_Equal_string_string.meets _ r1 r2 r3 er3) (.inr ⟨rfl, rfl⟩) rfl rfl k
   ·intro K _ f w u k
    show Wp K ⟨66, (upd 66 f 15 (sb r3)), [_, _, _, _, _, _, _, _, _, _, _]⟩
    refine s_not rfl k
   ·intro K _ f w u k
    show Wp K ⟨66, (upd 66 f 16 (sb (!r3))), _⟩
    refine s_move (d := (sb (!r3))) rfl k
   ·intro K _ f w u k
    show Wp K ⟨66, (upd 66 (upd 66 f 17 (sb (!r3))) 0 (rf 0 0)), _⟩
    refine AWops.guard_no rfl (nl rfl) rfl (by rw [c4] <;> rfl) k
   ·intro K _ f w u k
    show Wp K ⟨66, (upd 66 f 17 (sb (!r3))), _⟩
    refine AWops.guard_no rfl (nl rfl) rfl (by rw [c4] <;> rfl) k
   ·intro K _ f w u k
    show Wp K ⟨66, (upd 66 f 17 (sb (!r3))), _⟩
    refine AWops.guard_no rfl (nl rfl) rfl (by rw [c4] <;> rfl) k
   ·intro K _ f w u k
    show Wp K ⟨66, (upd 66 f 17 (sb (!r3))), _⟩
    refine AWops.guard_no rfl (nl rfl) rfl (by rw [c4] <;> rfl) k
   ·intro K _ f w u k
    show Wp K ⟨66, (upd 66 f 17 (sb (!r3))), _⟩
    refine AWops.guard_no rfl (nl rfl) rfl (by rw [c4] <;> rfl) k
   ·intro K _ f w u k
    show Wp K ⟨66, (upd 66 f 17 (sb (!r3))), _⟩
    refine s_pick_yes (d := (sb true)) rfl (by rw [c4] <;> rfl) rfl k
   ·intro K _ f w u k
    show Wp K ⟨66, (upd 66 f 23 (sb true)), _⟩
    refine s_move (d := (sb true)) rfl k
   ·intro K _ f w u k
    show Wp K ⟨66, (upd 66 f 24 (sb true)), _⟩
    refine AWops.guard_no rfl (nl rfl) rfl rfl k
   ·intro K _ f w u k
    show Wp K ⟨66, (upd 66 f 24 (sb true)), _⟩
    refine AWops.guard_no rfl (nl rfl) rfl rfl k
   ·intro K _ f w u k
    show Wp K ⟨66, (upd 66 f 24 (sb true)), _⟩
    refine AWops.guard_no rfl (nl rfl) rfl rfl k
   ·intro K _ f w u k
    show Wp K ⟨66, (upd 66 f 24 (sb true)), _⟩
    refine AWops.guard_no rfl (nl rfl) rfl rfl k
   ·intro K _ f w u k
    show Wp K ⟨66, (upd 66 f 24 (sb true)), _⟩
    refine AWops.guard_no rfl (nl rfl) rfl rfl k
   ·intro K _ f w u k
    show Wp K ⟨66, (upd 66 f 24 (sb true)), _⟩
    refine AWops.guard_no rfl (nl rfl) rfl rfl k
   ·intro K _ f w u k
    show Wp K ⟨66, (upd 66 f 24 (sb true)), _⟩
    refine AWops.guard_no rfl (nl rfl) rfl rfl k
   ·intro K _ f w u k
    show Wp K ⟨66, (upd 66 f 24 (sb true)), _⟩
    refine s_pick_yes (d := (sb true)) rfl rfl rfl k
  ·refine AWops.weak (st' := ⟨66, (upd 66 (upd 66 (upd 66 topF 0 (rf 0 0)) 1 (rf 1 0)) 32 (sb true)), [(o_vdisk_Disk_03 false (C.mp 2) (C.ref 3 0) p0), (o_dossierref03_Disk_0 false (C.own 4 0 p1.L.length 3) p1), (om_ e_vdisk_file p0.files), (bx p3), (or_ e_dossierref03_File p1.L)]⟩) (wg 5 [0, 1, 2, 3, 4] [] hx (le_upd (le_upd (le_upd (le_top _) (o1 (.ref rfl))) (o1 (.ref rfl))) (o1 .sc)) (ac (qr rfl rfl) (ac (qo rfl) (ac .map (ac qb (ac (.cells id (all2_row _)) an)))))) (AWops.nil ?_)
   refine AW.cond_yes rfl rfl (AW.seq (AW.region ?_))
   refine s_assign (d := (sb false)) rfl (AWops.nil (AW.ret ?_))
   obtain rfl := Option.some.inj h
   exact ⟨_, rfl, (wg 5 [0, 1, 2, 3, 4] [] rfl (le_upd (le_top _) (o1 .sc)) (ac (qr rfl rfl) (ac (qo rfl) (ac .map (ac qb (ac (.cells id (all2_row _)) an))))))⟩
def vdisk_Disk_Copy_25.f (k : Nat) (p0 : vdisk_Disk) (p2 : Int) : Option (vdisk_Disk × Int) := (vdisk_Disk_none_35.f k p0 p2).bind fun r1 => some (p0, p2)
theorem vdisk_Disk_Copy_25.meets (k : Nat) (p0 : vdisk_Disk) (p2 : Int) (r : vdisk_Disk × Int) (h : vdisk_Disk_Copy_25.f k p0 p2 = some r) : Meets Try.prog 25 [(rf 0 0)] [(o_vdisk_Disk_03 false (C.mp 1) (C.ref 2 0) p0), (om_ e_vdisk_file p0.files), (bx p2)] (rf 3 0) [(o_vdisk_Disk_03 false (C.mp 1) (C.ref 2 0) p0), (om_ e_vdisk_file p0.files), (bx p2), (o_vdisk_Disk_03 true (C.mp 4) (C.ref 5 0) r.1), (om_ e_vdisk_file r.1.files), (bx r.2)] := by
 unfold vdisk_Disk_Copy_25.f at h
 refine Meets.of_body (n := 28) Try.func25 rfl rfl (nl rfl) fun x hx => ?_
 replace hx : x.k = 3 := hx
 show AW _ x _ _ ⟨28, fr0 [(rf 0 0)], [(o_vdisk_Disk_03 false (C.mp 1) (C.ref 2 0) p0), (om_ e_vdisk_file p0.files), (bx p2)]⟩
 refine AW.seq (AW.region ?_)
 refine s_assign (d := (sc (.pointer none))) rfl (AWops.nil (AW.seq (AW.seq (AW.region ?_))))
 refine s_move (d := (rf 0 0)) rfl ?_
 obtain ⟨r1, er1, h⟩ := bnd h
 have kr1 := vdisk_Disk_none_35.const er1
 subst kr1
 refine cc [0, 1, 2] [(o_vdisk_Disk_03 false (C.mp 1) (C.ref 2 0) p0), (om_ e_vdisk_file p0.files), (bx p2)] (sb false) F.ca_35 rfl rfl (ac (.one (.ref rfl)) an) (ac (.cells (ac (.mp rfl) (ac .sc (ac .sc (ac (.ref rfl) (ac .sc an)))))) (ac .map (ac (.cells (ac .sc an)) an))) (vdisk_Disk_none_35.meets _ p0 p2 false er1) (AWops.nil ?_)
 refine AW.cond_no rfl rfl (AW.skip (AW.seq (AW.region ?_)))
 refine s_move (d := (rf 0 0)) rfl (s_nilCheck (d := (rf 0 0)) rfl (.inl ⟨_, _, rfl⟩) (s_loadN (ds := [(C.mp 1), (ci p0.room), (ci p0.used), (C.ref 2 0), (cb p0.dead)]) F.ag_50 F.sz_50 rfl rfl rfl (s_alloc (cs := [(C.p true (.v (.map none))), (ci 0), (ci 0), (C.p true (.v (.pointer none))), (cb false)]) F.z_50 rfl rfl (s_store (cs' := [(C.mp 1), (ci p0.room), (ci p0.used), (C.ref 2 0), (cb p0.dead)]) rfl rfl rfl (List.cons_ne_nil _ _) rfl F.sz_50 (nl rfl) rfl (AWops.nil (AW.seq (AW.region (s_move (d := (rf 0 0)) rfl ?_))))))))
 refine s_nilCheck (d := (rf 0 0)) rfl (.inl ⟨_, _, rfl⟩) (s_fieldRef F.fo_50_0 (by decide) rfl (s_load1 (c' := (C.mp 1)) F.ag_47 rfl rfl (cc [1] [(o_vdisk_Disk_03 false (C.mp 1) (C.ref 2 0) p0), (om_ e_vdisk_file p0.files), (bx p2), (o_vdisk_Disk_03 true (C.mp 1) (C.ref 2 0) p0), (om_ e_vdisk_file p0.files)] (D.one (C.mp 4)) F.ca_49 rfl rfl (ac (.one (.mp rfl)) an) (ac .map an) (SK.clone _) (s_fieldRef F.fo_50_0 (by decide) rfl (s_store (cs' := [(C.mp 4), (ci p0.room), (ci p0.used), (C.ref 2 0), (cb p0.dead)]) rfl rfl rfl (List.cons_ne_nil _ _) rfl F.sz_47 (nl rfl) rfl (AWops.nil (AW.seq (AW.seq (AW.region ?_)))))))))
 refine s_move (d := (rf 0 0)) rfl (s_nilCheck (d := (rf 0 0)) rfl (.inl ⟨_, _, rfl⟩) (s_fieldRef F.fo_50_3 (by decide) rfl (s_load1 (c' := (C.ref 2 0)) F.ag_48 rfl rfl (s_ptrNil (b := false) F.u_48 rfl (.inl ⟨⟨_, _, rfl⟩, rfl⟩) (.inr rfl) (AWops.nil ?_)))))
 refine AW.cond_yes rfl rfl (AW.seq (AW.region ?_))
 refine s_move (d := (rf 0 0)) rfl (s_nilCheck (d := (rf 0 0)) rfl (.inl ⟨_, _, rfl⟩) (s_fieldRef F.fo_50_3 (by decide) rfl (s_load1 (c' := (C.ref 2 0)) F.ag_48 rfl rfl (s_nilCheck (d := (rf 2 0)) rfl (.inl ⟨_, _, rfl⟩) (s_load1 (c' := (ci p2)) F.ag_3 rfl rfl ?_)))))
 refine s_alloc (cs := [(ci 0)]) F.z_3 rfl rfl (s_store (cs' := [(ci p2)]) rfl rfl rfl (List.cons_ne_nil _ _) rfl F.sz_3 (nl rfl) rfl (AWops.nil (AW.region (s_fieldRef F.fo_50_3 (by decide) rfl (s_store (cs' := [(C.mp 4), (ci p0.room), (ci p0.used), (C.ref 5 0), (cb p0.dead)]) rfl rfl rfl (List.cons_ne_nil _ _) rfl F.sz_48 (nl rfl) rfl (AWops.nil (AW.seq (AW.region (s_assign (d := (rf 3 0)) rfl (AWops.nil (AW.ret ?_)))))))))))
 obtain rfl := Option.some.inj h
 exact ⟨_, rfl, (wg 3 [0, 1, 2, 3, 4, 5] [] rfl (le_upd (le_top _) (o1 (.ref rfl))) (ac (qr rfl rfl) (ac .map (ac qb (ac (.cells (fun _ => rfl) (ac (.mp rfl) (ac .sc (ac .sc (ac (.ref rfl) (ac .sc an)))))) (ac .map (ac (.cells (fun _ => rfl) (ac .sc an)) an)))))))⟩
end Go.Abs.GenRd
