import Derived.Test.YtgeieafnnlmfdaaGenOc
set_option linter.unusedVariables false
set_option linter.unusedSimpArgs false
set_option maxRecDepth 100000
set_option maxHeartbeats 4000000
namespace Go.Abs.GenO
open Go.Abs Go.Proofs
mutual
def dossierref03_Disk_Truncate_45.j0 : Nat → Int → Int → Bool → (List dossierref03_File) → Int → Int → (dossierref03_File × Int) → Option (Int × dossierref03_Disk)
 | 0, _, _, _, _, _, _, _ => none
 | k + 1, x5, x6, x7, x8, x9, a2, r2 => if (x9 == 0) = true then (if (decide (0 ≤ 0 ∧ 0 ≤ (if (r2.1.B.length : Int) < a2 then (r2.1.B.length : Int) else a2) ∧ (if (r2.1.B.length : Int) < a2 then (r2.1.B.length : Int) else a2) ≤ (r2.1.B.length : Int))) = true then (if (decide (([] : List Int).length + (sub r2.1.B 0 (if (r2.1.B.length : Int) < a2 then (r2.1.B.length : Int) else a2)).length ≤ 140737488355328)) = true then ((dossierref03_Disk_set_67.f k (⟨x8, x5, x6, x7⟩ : dossierref03_Disk) (⟨r2.1.Name, sub r2.1.B 0 (if (r2.1.B.length : Int) < a2 then (r2.1.B.length : Int) else a2), (if ((sub r2.1.B 0 (if (r2.1.B.length : Int) < a2 then (r2.1.B.length : Int) else a2)).length : Int) < r2.1.Sure then ((sub r2.1.B 0 (if (r2.1.B.length : Int) < a2 then (r2.1.B.length : Int) else a2)).length : Int) else r2.1.Sure)⟩ : dossierref03_File)).bind fun r13 => some (x9, r13)) else none) else none) else (some (x9, (⟨x8, x5, x6, x7⟩ : dossierref03_Disk)))
end
def dossierref03_Disk_Truncate_45.f (k : Nat) (p0 : dossierref03_Disk) (a1 : ByteArray) (a2 : Int) : Option (Int × dossierref03_Disk) := if (decide (a2 < 0)) = true then (some (1, p0)) else ((dossierref03_Disk_there.f k p0 a1).bind fun r2 => if (r2.2 == 0) = true then ((dossierref03_Disk_burn.f k p0).bind fun r4 => dossierref03_Disk_Truncate_45.j0 k r4.2.Most r4.2.Burns r4.2.Off r4.2.L r4.1 a2 r2) else (dossierref03_Disk_Truncate_45.j0 k p0.Most p0.Burns p0.Off p0.L r2.2 a2 r2))
theorem dossierref03_Disk_Truncate_45.meets (k : Nat) (p0 : dossierref03_Disk) (a1 : ByteArray) (a2 : Int) (r : Int × dossierref03_Disk) (h : dossierref03_Disk_Truncate_45.f k p0 a1 a2 = some r) : Meets Try.prog 45 [(rf 0 0), (st_ a1), (si a2)] [(o_dossierref03_Disk_0 false (C.own 1 0 p0.L.length 3) p0), (or_ e_dossierref03_File p0.L)] (si r.1) [(o_dossierref03_Disk_0 false (C.own 2 0 r.2.L.length 3) r.2), none, (or_ e_dossierref03_File r.2.L)] := by
 unfold dossierref03_Disk_Truncate_45.f at h
 refine Meets.of_body (n := 45) Try.func45 rfl rfl (nl rfl) fun x hx => ?_
 replace hx : x.k = 2 := hx
 show AW _ x _ _ ⟨45, fr0 [(rf 0 0), (st_ a1), (si a2)], [(o_dossierref03_Disk_0 false (C.own 1 0 p0.L.length 3) p0), (or_ e_dossierref03_File p0.L)]⟩
 refine AW.weak (st' := ⟨45, (upd 45 (upd 45 (upd 45 topF 0 (rf 0 0)) 1 (st_ a1)) 2 (si a2)), [(o_dossierref03_Disk_0 false (C.own 2 0 p0.L.length 3) p0), none, (or_ e_dossierref03_File p0.L)]⟩) (Weak.genL (kk := 2) [0, 1, 1] [] hx rfl (by decide) rfl rfl rfl rfl (le_upd (le_upd (le_upd (le_top _) (o1 (.ref rfl))) (o1 .sc)) (o1 .sc)) (ac (qo rfl) (ac (.none _) (ac (.cells id (all2_row _)) an)))) (AW.seq (AW.region ?_))
 refine s_assign (d := (si 0)) rfl (AWops.nil (AW.seq (AW.seq (AW.region ?_))))
 refine s_move (d := (si a2)) rfl (s_binI (v := (.bool (decide (a2 < 0)))) rfl rfl rfl (AWops.nil ?_))
 rcases itH h with ⟨c1, h⟩ | ⟨c1, h⟩
 ·refine AW.cond_yes rfl c1 (AW.seq (AW.region ?_))
  refine s_assign (d := (si 1)) rfl (AWops.nil (AW.ret ?_))
  obtain rfl := Option.some.inj h
  exact ⟨_, rfl, (wg 2 [0, 1, 2] [] rfl (le_upd (le_top _) (o1 .sc)) (ac (qo rfl) (ac (.none _) (ac (.cells id (all2_row _)) an))))⟩
 ·refine AW.cond_no rfl c1 (AW.skip (AW.seq (AW.region ?_)))
  refine s_move (d := (rf 0 0)) rfl (s_move (d := (st_ a1)) rfl ?_)
  obtain ⟨r2, er2, h⟩ := bnd h
  refine cc [0, 2] [(o_dossierref03_Disk_0 false (C.own 2 0 p0.L.length 3) p0), none, (or_ e_dossierref03_File p0.L)] (D.tup [(D.agg (c_dossierref03_File r2.1)), (si r2.2)]) F.ca_68 rfl rfl (ac (.one (.ref rfl)) (ac (.one .sc) an)) (ac (.cells (ac (.own rfl) (ac .sc (ac .sc (ac .sc an))))) (ac (.cells (lend_row _)) an)) (dossierref03_Disk_there.meets _ p0 a1 r2 er2) (s_move (d := (D.tup [(D.agg (c_dossierref03_File r2.1)), (si r2.2)])) rfl (s_extract (d := (D.agg (c_dossierref03_File r2.1))) rfl rfl (s_extract (d := (si r2.2)) rfl rfl (s_alloc (cs := [(ct (⟨#[]⟩ : ByteArray)), (C.p true (.v (.slice none 0 0))), (ci 0)]) F.z_109 rfl rfl (s_store (cs' := (c_dossierref03_File r2.1)) rfl rfl rfl (List.cons_ne_nil _ _) rfl F.sz_109 (nl rfl) rfl ?_)))))
  refine s_assign (d := (si r2.2)) rfl (AWops.nil ?_)
  refine AW.seqJ (fun st => ∃ (x5 : Int) (x6 : Int) (x7 : Bool) (x8 : List dossierref03_File) (x9 : Int), dossierref03_Disk_Truncate_45.j0 k x5 x6 x7 x8 x9 a2 r2 = some r ∧ st = ⟨45, (upd 45 (upd 45 (upd 45 (upd 45 topF 0 (rf 0 0)) 2 (si a2)) 7 (rf 2 0)) 8 (si x9)), [(some (AObj.cells false [(C.own 3 0 x8.length 3), (ci x5), (ci x6), (cb x7)])), none, (some (AObj.cells true (c_dossierref03_File r2.1))), (or_ e_dossierref03_File x8)]⟩) ?_ ?_
  ·refine AW.seq (AW.region ?_)
   refine s_move (d := (si r2.2)) rfl (s_binI (v := (.bool (r2.2 == 0))) rfl rfl rfl (AWops.nil ?_))
   rcases itH h with ⟨c3, h⟩ | ⟨c3, h⟩
   ·refine AW.cond_yes rfl c3 (AW.region ?_)
    refine s_move (d := (rf 0 0)) rfl ?_
    obtain ⟨r4, er4, h⟩ := bnd h
    refine cc [0, 2] [(o_dossierref03_Disk_0 false (C.own 2 0 r4.2.L.length 3) r4.2), none, (or_ e_dossierref03_File r4.2.L), (some (AObj.cells true (c_dossierref03_File r2.1)))] (si r4.1) F.ca_65 rfl rfl (ac (.one (.ref rfl)) an) (ac (.cells (ac (.own rfl) (ac .sc (ac .sc (ac .sc an))))) (ac (.cells (lend_row _)) an)) (dossierref03_Disk_burn.meets _ p0 r4 er4) (s_assign (d := (si r4.1)) rfl (AWops.nil ?_))
    exact ⟨⟨45, (upd 45 (upd 45 (upd 45 (upd 45 topF 0 (rf 0 0)) 2 (si a2)) 7 (rf 2 0)) 8 (si r4.1)), [(some (AObj.cells false [(C.own 3 0 r4.2.L.length 3), (ci r4.2.Most), (ci r4.2.Burns), (cb r4.2.Off)])), none, (some (AObj.cells true (c_dossierref03_File r2.1))), (or_ e_dossierref03_File r4.2.L)]⟩, (wg 2 [0, 1, 3, 2] [] hx (le_upd (le_upd (le_upd (le_upd (le_top _) (o1 (.ref rfl))) (o1 .sc)) (o1 (.ref rfl))) (o1 .sc)) (ac (qo rfl) (ac (.none _) (ac (.cells (fun _ => rfl) (ac .sc (ac .same (ac .sc an)))) (ac (.cells id (all2_row _)) an))))), r4.2.Most, r4.2.Burns, r4.2.Off, r4.2.L, r4.1, h, rfl⟩
   ·refine AW.cond_no rfl c3 (AW.skip ?_)
    exact ⟨⟨45, (upd 45 (upd 45 (upd 45 (upd 45 topF 0 (rf 0 0)) 2 (si a2)) 7 (rf 2 0)) 8 (si r2.2)), [(some (AObj.cells false [(C.own 3 0 p0.L.length 3), (ci p0.Most), (ci p0.Burns), (cb p0.Off)])), none, (some (AObj.cells true (c_dossierref03_File r2.1))), (or_ e_dossierref03_File p0.L)]⟩, (wg 2 [0, 1, 3, 2] [] hx (le_upd (le_upd (le_upd (le_upd (le_top _) (o1 (.ref rfl))) (o1 .sc)) (o1 (.ref rfl))) (o1 .sc)) (ac (qo rfl) (ac (.none _) (ac (.cells (fun _ => rfl) (ac .sc (ac .same (ac .sc an)))) (ac (.cells id (all2_row _)) an))))), p0.Most, p0.Burns, p0.Off, p0.L, r2.2, h, rfl⟩
  ·rintro st ⟨x5, x6, x7, x8, x9, h, rfl⟩
   cases k with
   | zero => exact absurd h (by simp [dossierref03_Disk_Truncate_45.j0])
   | succ qj0 =>
    replace h := (dossierref03_Disk_Truncate_45.j0.eq_2 _ _ _ _ _ _ _ _).symm.trans h
    refine AW.seq (AW.seq (AW.region ?_))
    refine s_move (d := (si x9)) rfl (s_binI (v := (.bool (x9 == 0))) rfl rfl rfl (AWops.nil ?_))
    rcases itH h with ⟨c10, h⟩ | ⟨c10, h⟩
    ·refine AW.cond_yes rfl c10 (AW.seq (AW.region ?_))
     refine s_buildSlice (n := 0) (ps := []) (cs := rowC e_u8 ([] : List Int)) F.u_22 F.sz_5 F.z_5 rfl rfl (by decide) (by decide) rfl rfl (s_fieldRef F.fo_109_1 (by decide) rfl (s_load1 (c' := (cl_ e_u8 r2.1.B)) F.ag_22 rfl rfl (s_move (d := (si a2)) rfl (s_fieldRef F.fo_109_1 (by decide) rfl (s_load1 (c' := (cl_ e_u8 r2.1.B)) F.ag_22 rfl rfl ?_)))))
     refine s_len (n := r2.1.B.length) F.u_22 rfl (.inr ⟨(fun _ _ h => by cases h), ⟨_, rfl⟩⟩) (s_min2 (r := (if (r2.1.B.length : Int) < a2 then (r2.1.B.length : Int) else a2)) rfl rfl rfl ?_)
     obtain ⟨c11, h⟩ := gdH h
     have dc11 := of_decide_eq_true c11
     refine t_sliceImm (a := 0) (b := (if (r2.1.B.length : Int) < a2 then (r2.1.B.length : Int) else a2)) F.u_22 F.sz_5 e_u8_len rfl (by omega) (by omega) (by omega) .no (.yes rfl (by omega) rfl) ?_
     obtain ⟨c12, h⟩ := gdH h
     have dc12 := of_decide_eq_true c12
     refine t_append (xs := ([] : List Int)) (ys := sub r2.1.B 0 (if (r2.1.B.length : Int) < a2 then (r2.1.B.length : Int) else a2)) (zs := sub r2.1.B 0 (if (r2.1.B.length : Int) < a2 then (r2.1.B.length : Int) else a2)) (H' := [(some (AObj.cells false [(C.own 3 0 x8.length 3), (ci x5), (ci x6), (cb x7)])), none, (some (AObj.cells true (c_dossierref03_File r2.1))), (or_ e_dossierref03_File x8), none, (some (AObj.cells true (rowC e_u8 (sub r2.1.B 0 (if (r2.1.B.length : Int) < a2 then (r2.1.B.length : Int) else a2)))))]) F.u_22 F.in_5 rfl e_u8_len (.own rfl rfl) .imm F.u_22 (by omega) (by omega) rfl rfl (s_fieldRef F.fo_109_1 (by decide) rfl (s_store (cs' := [(ct r2.1.Name), (C.own 5 0 ((sub r2.1.B 0 (if (r2.1.B.length : Int) < a2 then (r2.1.B.length : Int) else a2)).length) 1), (ci r2.1.Sure)]) rfl rfl rfl (List.cons_ne_nil _ _) rfl F.sz_22 (nl rfl) rfl (AWops.nil (AW.seq (AW.region (s_fieldRef F.fo_109_2 (by decide) rfl (s_load1 (c' := (ci r2.1.Sure)) F.ag_3 rfl rfl (s_fieldRef F.fo_109_1 (by decide) rfl ?_))))))))
     refine s_load1 (c' := (C.own 5 0 ((sub r2.1.B 0 (if (r2.1.B.length : Int) < a2 then (r2.1.B.length : Int) else a2)).length) 1)) F.ag_22 rfl rfl (s_len (n := (sub r2.1.B 0 (if (r2.1.B.length : Int) < a2 then (r2.1.B.length : Int) else a2)).length) F.u_22 rfl (.inr ⟨(fun _ _ h => by cases h), ⟨_, rfl⟩⟩) (s_min2 (r := (if ((sub r2.1.B 0 (if (r2.1.B.length : Int) < a2 then (r2.1.B.length : Int) else a2)).length : Int) < r2.1.Sure then ((sub r2.1.B 0 (if (r2.1.B.length : Int) < a2 then (r2.1.B.length : Int) else a2)).length : Int) else r2.1.Sure)) rfl rfl rfl (s_fieldRef F.fo_109_2 (by decide) rfl (s_store (cs' := [(ct r2.1.Name), (C.own 5 0 ((sub r2.1.B 0 (if (r2.1.B.length : Int) < a2 then (r2.1.B.length : Int) else a2)).length) 1), (ci (if ((sub r2.1.B 0 (if (r2.1.B.length : Int) < a2 then (r2.1.B.length : Int) else a2)).length : Int) < r2.1.Sure then ((sub r2.1.B 0 (if (r2.1.B.length : Int) < a2 then (r2.1.B.length : Int) else a2)).length : Int) else r2.1.Sure))]) rfl rfl rfl (List.cons_ne_nil _ _) rfl F.sz_3 (nl rfl) rfl (AWops.nil (AW.region (s_move (d := (rf 0 0)) rfl ?_)))))))
     refine s_loadN (ds := [(ct r2.1.Name), (C.own 5 0 ((sub r2.1.B 0 (if (r2.1.B.length : Int) < a2 then (r2.1.B.length : Int) else a2)).length) 1), (ci (if ((sub r2.1.B 0 (if (r2.1.B.length : Int) < a2 then (r2.1.B.length : Int) else a2)).length : Int) < r2.1.Sure then ((sub r2.1.B 0 (if (r2.1.B.length : Int) < a2 then (r2.1.B.length : Int) else a2)).length : Int) else r2.1.Sure))]) F.ag_109 F.sz_109 rfl rfl rfl ?_
     obtain ⟨r13, er13, h⟩ := bnd h
     refine AWops.weak (st' := ⟨45, (upd 45 (upd 45 (upd 45 (upd 45 (upd 45 (upd 45 (upd 45 (upd 45 (upd 45 (upd 45 (upd 45 (upd 45 (upd 45 (upd 45 (upd 45 (upd 45 (upd 45 (upd 45 (upd 45 (upd 45 (upd 45 (upd 45 (upd 45 (upd 45 (upd 45 topF 0 (rf 0 0)) 2 (si a2)) 7 (rf 2 0)) 8 (si x9)) 21 (si x9)) 22 (sb (x9 == 0))) 24 (rf 2 1)) 25 (ds_ e_u8 r2.1.B)) 26 (si a2)) 27 (rf 2 1)) 28 (ds_ e_u8 r2.1.B)) 29 (si (r2.1.B.length : Int))) 30 (si (if (r2.1.B.length : Int) < a2 then (r2.1.B.length : Int) else a2))) 31 (D.one (C.p false (.sl (sub r2.1.B 0 (if (r2.1.B.length : Int) < a2 then (r2.1.B.length : Int) else a2)).length ((sub r2.1.B 0 (if (r2.1.B.length : Int) < a2 then (r2.1.B.length : Int) else a2)).flatMap e_u8))))) 32 (D.one (C.p false (.sl (sub r2.1.B 0 (if (r2.1.B.length : Int) < a2 then (r2.1.B.length : Int) else a2)).length ((sub r2.1.B 0 (if (r2.1.B.length : Int) < a2 then (r2.1.B.length : Int) else a2)).flatMap e_u8))))) 33 (rf 2 1)) 34 (rf 2 2)) 35 (si r2.1.Sure)) 36 (rf 2 1)) 37 (D.one (C.p false (.sl (sub r2.1.B 0 (if (r2.1.B.length : Int) < a2 then (r2.1.B.length : Int) else a2)).length ((sub r2.1.B 0 (if (r2.1.B.length : Int) < a2 then (r2.1.B.length : Int) else a2)).flatMap e_u8))))) 38 (si ((sub r2.1.B 0 (if (r2.1.B.length : Int) < a2 then (r2.1.B.length : Int) else a2)).length : Int))) 39 (si (if ((sub r2.1.B 0 (if (r2.1.B.length : Int) < a2 then (r2.1.B.length : Int) else a2)).length : Int) < r2.1.Sure then ((sub r2.1.B 0 (if (r2.1.B.length : Int) < a2 then (r2.1.B.length : Int) else a2)).length : Int) else r2.1.Sure))) 40 (rf 2 2)) 41 (rf 0 0)) 42 (D.agg [(ct r2.1.Name), (C.p false (.sl (sub r2.1.B 0 (if (r2.1.B.length : Int) < a2 then (r2.1.B.length : Int) else a2)).length ((sub r2.1.B 0 (if (r2.1.B.length : Int) < a2 then (r2.1.B.length : Int) else a2)).flatMap e_u8))), (ci (if ((sub r2.1.B 0 (if (r2.1.B.length : Int) < a2 then (r2.1.B.length : Int) else a2)).length : Int) < r2.1.Sure then ((sub r2.1.B 0 (if (r2.1.B.length : Int) < a2 then (r2.1.B.length : Int) else a2)).length : Int) else r2.1.Sure))])), [(some (AObj.cells false [(C.own 3 0 x8.length 3), (ci x5), (ci x6), (cb x7)])), none, (some (AObj.cells true [(ct r2.1.Name), (C.p false (.sl (sub r2.1.B 0 (if (r2.1.B.length : Int) < a2 then (r2.1.B.length : Int) else a2)).length ((sub r2.1.B 0 (if (r2.1.B.length : Int) < a2 then (r2.1.B.length : Int) else a2)).flatMap e_u8))), (ci (if ((sub r2.1.B 0 (if (r2.1.B.length : Int) < a2 then (r2.1.B.length : Int) else a2)).length : Int) < r2.1.Sure then ((sub r2.1.B 0 (if (r2.1.B.length : Int) < a2 then (r2.1.B.length : Int) else a2)).length : Int) else r2.1.Sure))])), (or_ e_dossierref03_File x8)]⟩) (wg 2 [0, 1, 2, 3] [5] hx (le_upd (le_upd (le_upd (le_upd (le_upd (le_upd (le_upd (le_upd (le_upd (le_upd (le_upd (le_upd (le_upd (le_upd (le_upd (le_upd (le_upd (le_upd (le_upd (le_upd (le_upd (le_upd (le_upd (le_upd (le_upd (le_top _) (o1 (.ref rfl))) (o1 .sc)) (o1 (.ref rfl))) (o1 .sc)) (o1 .sc)) (o1 .sc)) (o1 (.ref rfl))) (o1 .same)) (o1 .sc)) (o1 (.ref rfl))) (o1 .same)) (o1 .sc)) (o1 .sc)) (o1 .same)) (o1 (CLe.frz e_u8_len rfl rfl rfl))) (o1 (.ref rfl))) (o1 (.ref rfl))) (o1 .sc)) (o1 (.ref rfl))) (o1 (CLe.frz e_u8_len rfl rfl rfl))) (o1 .sc)) (o1 .sc)) (o1 (.ref rfl))) (o1 (.ref rfl))) (.t (.agg (ac .sc (ac (CLe.frz e_u8_len rfl rfl rfl) (ac .sc an)))))) (ac (qo rfl) (ac (.none _) (ac (.cells (fun _ => rfl) (ac .sc (ac (CLe.frz e_u8_len rfl rfl rfl) (ac .sc an)))) (ac (.cells id (all2_row _)) an))))) ?_
     refine cc [0, 3] [(o_dossierref03_Disk_0 false (C.own 4 0 r13.L.length 3) r13), none, (some (AObj.cells true [(ct r2.1.Name), (C.p false (.sl (sub r2.1.B 0 (if (r2.1.B.length : Int) < a2 then (r2.1.B.length : Int) else a2)).length ((sub r2.1.B 0 (if (r2.1.B.length : Int) < a2 then (r2.1.B.length : Int) else a2)).flatMap e_u8))), (ci (if ((sub r2.1.B 0 (if (r2.1.B.length : Int) < a2 then (r2.1.B.length : Int) else a2)).length : Int) < r2.1.Sure then ((sub r2.1.B 0 (if (r2.1.B.length : Int) < a2 then (r2.1.B.length : Int) else a2)).length : Int) else r2.1.Sure))])), none, (or_ e_dossierref03_File r13.L)] (D.tup []) F.ca_67 rfl rfl (ac (.one (.ref rfl)) (ac (LendT.aggL (ac .sc (ac .imm (ac .sc an)))) an)) (ac (.cells (ac (.own rfl) (ac .sc (ac .sc (ac .sc an))))) (ac (.cells (lend_row _)) an)) (dossierref03_Disk_set_67.meets _ (⟨x8, x5, x6, x7⟩ : dossierref03_Disk) (⟨r2.1.Name, sub r2.1.B 0 (if (r2.1.B.length : Int) < a2 then (r2.1.B.length : Int) else a2), (if ((sub r2.1.B 0 (if (r2.1.B.length : Int) < a2 then (r2.1.B.length : Int) else a2)).length : Int) < r2.1.Sure then ((sub r2.1.B 0 (if (r2.1.B.length : Int) < a2 then (r2.1.B.length : Int) else a2)).length : Int) else r2.1.Sure)⟩ : dossierref03_File) r13 er13) (AWops.nil (AW.seq (AW.region ?_)))
     refine s_move (d := (si x9)) rfl (s_assign (d := (si x9)) rfl (AWops.nil (AW.ret ?_)))
     obtain rfl := Option.some.inj h
     exact ⟨_, rfl, (wg 2 [0, 1, 4] [] rfl (le_upd (le_top _) (o1 .sc)) (ac (qo rfl) (ac (.none _) (ac (.cells id (all2_row _)) an))))⟩
    ·refine AW.cond_no rfl c10 (AW.skip (AW.seq (AW.region ?_)))
     refine s_move (d := (si x9)) rfl (s_assign (d := (si x9)) rfl (AWops.nil (AW.ret ?_)))
     obtain rfl := Option.some.inj h
     exact ⟨_, rfl, (wg 2 [0, 1, 3] [] rfl (le_upd (le_top _) (o1 .sc)) (ac (qo rfl) (ac (.none _) (ac (.cells id (all2_row _)) an))))⟩
mutual
def dossierref04_Open_51.j0 : Nat → Int → Int → Bool → (List dossierref03_File) → (List Int) → Option ((Option dossierref04_Journal) × Int × dossierref03_Disk)
 | 0, _, _, _, _, _ => none
 | k + 1, x6, x7, x8, x9, a1 => (dossierref03_Disk_Read.f k (⟨x9, x6, x7, x8⟩ : dossierref03_Disk) (⟨#[106, 111, 117, 114, 110, 97, 108]⟩ : ByteArray)).bind fun r10 => if (r10.2 != 0) = true then (if (decide ((a1.length : Int) > 4194304)) = true then (some ((none : Option dossierref04_Journal), 1, (⟨x9, x6, x7, x8⟩ : dossierref03_Disk))) else ((dossierref04_fresh_71.f k (⟨x9, x6, x7, x8⟩ : dossierref03_Disk) a1).bind fun r13 => if (r13.1 != 0) = true then (some ((none : Option dossierref04_Journal), r13.1, r13.2)) else (if (decide (([] : List Int).length + a1.length ≤ 140737488355328)) = true then (some (some (⟨(), a1, ([] : List (List Int)), false⟩ : dossierref04_Journal), 0, r13.2)) else none))) else ((dossierref04_frames.f k r10.1).bind fun r16 => if ((r16.1.length : Int) == 0) = true then (some ((none : Option dossierref04_Journal), 72, (⟨x9, x6, x7, x8⟩ : dossierref03_Disk))) else (if (decide (r16.2 < (r10.1.length : Int))) = true then ((dossierref03_Disk_Truncate_45.f k (⟨x9, x6, x7, x8⟩ : dossierref03_Disk) (⟨#[106, 111, 117, 114, 110, 97, 108]⟩ : ByteArray) r16.2).bind fun r19 => if (r19.1 != 0) = true then (some ((none : Option dossierref04_Journal), r19.1, r19.2)) else ((rd r16.1 0).bind fun v21 => if (decide (0 ≤ 1 ∧ 1 ≤ (r16.1.length : Int) ∧ (r16.1.length : Int) ≤ (r16.1.length : Int))) = true then (some (some (⟨(), v21, sub r16.1 1 (r16.1.length : Int), false⟩ : dossierref04_Journal), 0, r19.2)) else none)) else ((rd r16.1 0).bind fun v23 => if (decide (0 ≤ 1 ∧ 1 ≤ (r16.1.length : Int) ∧ (r16.1.length : Int) ≤ (r16.1.length : Int))) = true then (some (some (⟨(), v23, sub r16.1 1 (r16.1.length : Int), false⟩ : dossierref04_Journal), 0, (⟨x9, x6, x7, x8⟩ : dossierref03_Disk))) else none)))
end
def dossierref04_Open_51.f (k : Nat) (p0 : dossierref03_Disk) (a1 : List Int) : Option ((Option dossierref04_Journal) × Int × dossierref03_Disk) := if p0.Off = true then (some ((none : Option dossierref04_Journal), 70, p0)) else ((dossierref03_Disk_Read.f k p0 (⟨#[106, 111, 117, 114, 110, 97, 108, 46, 110, 101, 119]⟩ : ByteArray)).bind fun r2 => if (r2.2 == 0) = true then ((dossierref03_Disk_Remove_46.f k p0 (⟨#[106, 111, 117, 114, 110, 97, 108, 46, 110, 101, 119]⟩ : ByteArray)).bind fun r4 => if (r4.1 != 0) = true then (some ((none : Option dossierref04_Journal), r4.1, r4.2)) else (dossierref04_Open_51.j0 k r4.2.Most r4.2.Burns r4.2.Off r4.2.L a1)) else (dossierref04_Open_51.j0 k p0.Most p0.Burns p0.Off p0.L a1))
theorem dossierref04_Open_51.meets (k : Nat) (p0 : dossierref03_Disk) (a1 : List Int) (r : (Option dossierref04_Journal) × Int × dossierref03_Disk) (h : dossierref04_Open_51.f k p0 a1 = some r) : Meets Try.prog 51 [(rf 0 0), (ds_ e_u8 a1)] [(o_dossierref03_Disk_0 false (C.own 1 0 p0.L.length 3) p0), (or_ e_dossierref03_File p0.L)] (optE r.1 (D.tup [(sc (.pointer none)), (si r.2.1)]) (fun z1 : dossierref04_Journal => (D.tup [(rf 3 0), (si r.2.1)]))) (optE r.1 [(o_dossierref03_Disk_0 false (C.own 2 0 r.2.2.L.length 3) r.2.2), none, (or_ e_dossierref03_File r.2.2.L)] (fun z1 : dossierref04_Journal => [(o_dossierref03_Disk_0 false (C.own 2 0 r.2.2.L.length 3) r.2.2), none, (or_ e_dossierref03_File r.2.2.L), (o_dossierref04_Journal_0 true (C.ref 0 0) z1)])) := by
 unfold dossierref04_Open_51.f at h
 refine Meets.of_body (n := 79) Try.func51 rfl rfl (nl rfl) fun x hx => ?_
 replace hx : x.k = 2 := hx
 show AW _ x _ _ ⟨79, fr0 [(rf 0 0), (ds_ e_u8 a1)], [(o_dossierref03_Disk_0 false (C.own 1 0 p0.L.length 3) p0), (or_ e_dossierref03_File p0.L)]⟩
 refine AW.weak (st' := ⟨79, (upd 79 (upd 79 topF 0 (rf 0 0)) 1 (ds_ e_u8 a1)), [(o_dossierref03_Disk_0 false (C.own 2 0 p0.L.length 3) p0), none, (or_ e_dossierref03_File p0.L)]⟩) (Weak.genL (kk := 2) [0, 1, 1] [] hx rfl (by decide) rfl rfl rfl rfl (le_upd (le_upd (le_top _) (o1 (.ref rfl))) (o1 .same)) (ac (qo rfl) (ac (.none _) (ac (.cells id (all2_row _)) an)))) (AW.seq (AW.region ?_))
 refine s_assign (d := (sc (.pointer none))) rfl (s_assign (d := (si 0)) rfl (AWops.nil (AW.seq (AW.seq (AW.region (s_move (d := (rf 0 0)) rfl (s_nilCheck (d := (rf 0 0)) rfl (.inl ⟨_, _, rfl⟩) (s_fieldRef F.fo_84_3 (by decide) rfl (s_load1 (c' := (cb p0.Off)) F.ag_4 rfl rfl (AWops.nil ?_))))))))))
 rcases itH h with ⟨c1, h⟩ | ⟨c1, h⟩
 ·refine AW.cond_yes rfl c1 (AW.seq (AW.region ?_))
  refine s_assign (d := (sc (.pointer none))) rfl (s_assign (d := (si 70)) rfl (AWops.nil (AW.ret ?_)))
  obtain rfl := Option.some.inj h
  exact ⟨_, rfl, (wg 2 [0, 1, 2] [] rfl (le_upd (le_top _) (DLe.tup (ac (TLe.one .sc) (ac (TLe.one .sc) an)))) (ac (qo rfl) (ac (.none _) (ac (.cells id (all2_row _)) an))))⟩
 ·refine AW.cond_no rfl c1 (AW.skip ?_)
  refine AW.seqJ (fun st => ∃ (x6 : Int) (x7 : Int) (x8 : Bool) (x9 : List dossierref03_File), dossierref04_Open_51.j0 k x6 x7 x8 x9 a1 = some r ∧ st = ⟨79, (upd 79 (upd 79 topF 0 (rf 0 0)) 1 (ds_ e_u8 a1)), [(some (AObj.cells false [(C.own 2 0 x9.length 3), (ci x6), (ci x7), (cb x8)])), none, (or_ e_dossierref03_File x9)]⟩) ?_ ?_
  ·refine AW.seq (AW.region ?_)
   refine s_move (d := (rf 0 0)) rfl ?_
   obtain ⟨r2, er2, h⟩ := bnd h
   refine cc [0, 2] [(o_dossierref03_Disk_0 false (C.own 2 0 p0.L.length 3) p0), none, (or_ e_dossierref03_File p0.L)] (D.tup [(ds_ e_u8 r2.1), (si r2.2)]) F.ca_70 rfl rfl (ac (.one (.ref rfl)) (ac (.one .sc) an)) (ac (.cells (ac (.own rfl) (ac .sc (ac .sc (ac .sc an))))) (ac (.cells (lend_row _)) an)) (dossierref03_Disk_Read.meets _ p0 (⟨#[106, 111, 117, 114, 110, 97, 108, 46, 110, 101, 119]⟩ : ByteArray) r2 er2) (s_move (d := (D.tup [(ds_ e_u8 r2.1), (si r2.2)])) rfl (s_extract (d := (ds_ e_u8 r2.1)) rfl rfl (s_extract (d := (si r2.2)) rfl rfl (s_assign (d := (ds_ e_u8 r2.1)) rfl (s_assign (d := (si r2.2)) rfl (AWops.nil (AW.seq (AW.region ?_))))))))
   refine s_move (d := (si r2.2)) rfl (s_binI (v := (.bool (r2.2 == 0))) rfl rfl rfl (AWops.nil ?_))
   rcases itH h with ⟨c3, h⟩ | ⟨c3, h⟩
   ·refine AW.cond_yes rfl c3 (AW.seq (AW.region ?_))
    refine s_move (d := (rf 0 0)) rfl ?_
    obtain ⟨r4, er4, h⟩ := bnd h
    refine cc [0, 2] [(o_dossierref03_Disk_0 false (C.own 3 0 r4.2.L.length 3) r4.2), none, none, (or_ e_dossierref03_File r4.2.L)] (si r4.1) F.ca_46 rfl rfl (ac (.one (.ref rfl)) (ac (.one .sc) an)) (ac (.cells (ac (.own rfl) (ac .sc (ac .sc (ac .sc an))))) (ac (.cells (lend_row _)) an)) (dossierref03_Disk_Remove_46.meets _ p0 (⟨#[106, 111, 117, 114, 110, 97, 108, 46, 110, 101, 119]⟩ : ByteArray) r4 er4) (s_assign (d := (si r4.1)) rfl (AWops.nil (AW.seq (AW.region (s_move (d := (si r4.1)) rfl (s_binI (v := (.bool (r4.1 != 0))) rfl rfl rfl (AWops.nil ?_)))))))
    rcases itH h with ⟨c5, h⟩ | ⟨c5, h⟩
    ·refine AW.cond_yes rfl c5 (AW.seq (AW.region ?_))
     refine s_move (d := (si r4.1)) rfl (s_assign (d := (sc (.pointer none))) rfl (s_assign (d := (si r4.1)) rfl (AWops.nil (AW.ret ?_))))
     obtain rfl := Option.some.inj h
     exact ⟨_, rfl, (wg 2 [0, 1, 3] [] rfl (le_upd (le_top _) (DLe.tup (ac (TLe.one .sc) (ac (TLe.one .sc) an)))) (ac (qo rfl) (ac (.none _) (ac (.cells id (all2_row _)) an))))⟩
    ·refine AW.cond_no rfl c5 (AW.skip ?_)
     exact ⟨⟨79, (upd 79 (upd 79 topF 0 (rf 0 0)) 1 (ds_ e_u8 a1)), [(some (AObj.cells false [(C.own 2 0 r4.2.L.length 3), (ci r4.2.Most), (ci r4.2.Burns), (cb r4.2.Off)])), none, (or_ e_dossierref03_File r4.2.L)]⟩, (wg 2 [0, 1, 3] [] hx (le_upd (le_upd (le_top _) (o1 (.ref rfl))) (o1 .same)) (ac (qo rfl) (ac (.none _) (ac (.cells id (all2_row _)) an)))), r4.2.Most, r4.2.Burns, r4.2.Off, r4.2.L, h, rfl⟩
   ·refine AW.cond_no rfl c3 (AW.skip ?_)
    exact ⟨⟨79, (upd 79 (upd 79 topF 0 (rf 0 0)) 1 (ds_ e_u8 a1)), [(some (AObj.cells false [(C.own 2 0 p0.L.length 3), (ci p0.Most), (ci p0.Burns), (cb p0.Off)])), none, (or_ e_dossierref03_File p0.L)]⟩, (wg 2 [0, 1, 2] [] hx (le_upd (le_upd (le_top _) (o1 (.ref rfl))) (o1 .same)) (ac (qo rfl) (ac (.none _) (ac (.cells id (all2_row _)) an)))), p0.Most, p0.Burns, p0.Off, p0.L, h, rfl⟩
  ·rintro st ⟨x6, x7, x8, x9, h, rfl⟩
   cases k with
   | zero => exact absurd h (by simp [dossierref04_Open_51.j0])
   | succ qj0 =>
    replace h := (dossierref04_Open_51.j0.eq_2 _ _ _ _ _ _).symm.trans h
    refine AW.seq (AW.region ?_)
    refine s_move (d := (rf 0 0)) rfl ?_
    obtain ⟨r10, er10, h⟩ := bnd h
    refine cc [0, 2] [(some (AObj.cells false [(C.own 2 0 x9.length 3), (ci x6), (ci x7), (cb x8)])), none, (or_ e_dossierref03_File x9)] (D.tup [(ds_ e_u8 r10.1), (si r10.2)]) F.ca_70 rfl rfl (ac (.one (.ref rfl)) (ac (.one .sc) an)) (ac (.cells (ac (.own rfl) (ac .sc (ac .sc (ac .sc an))))) (ac (.cells (lend_row _)) an)) (dossierref03_Disk_Read.meets _ (⟨x9, x6, x7, x8⟩ : dossierref03_Disk) (⟨#[106, 111, 117, 114, 110, 97, 108]⟩ : ByteArray) r10 er10) (s_move (d := (D.tup [(ds_ e_u8 r10.1), (si r10.2)])) rfl (s_extract (d := (ds_ e_u8 r10.1)) rfl rfl (s_extract (d := (si r10.2)) rfl rfl (s_assign (d := (ds_ e_u8 r10.1)) rfl (s_assign (d := (si r10.2)) rfl (AWops.nil (AW.seq (AW.seq (AW.region ?_)))))))))
    refine s_move (d := (si r10.2)) rfl (s_binI (v := (.bool (r10.2 != 0))) rfl rfl rfl (AWops.nil ?_))
    rcases itH h with ⟨c11, h⟩ | ⟨c11, h⟩
    ·refine AW.cond_yes rfl c11 (AW.seq (AW.seq (AW.region ?_)))
     refine s_move (d := (ds_ e_u8 a1)) rfl (s_len (n := a1.length) F.u_22 rfl (.inr ⟨(fun _ _ h => by cases h), ⟨_, rfl⟩⟩) (s_binI (v := (.bool (decide ((a1.length : Int) > 4194304)))) rfl rfl rfl (AWops.nil ?_)))
     rcases itH h with ⟨c12, h⟩ | ⟨c12, h⟩
     ·refine AW.cond_yes rfl c12 (AW.seq (AW.region ?_))
      refine s_assign (d := (sc (.pointer none))) rfl (s_assign (d := (si 1)) rfl (AWops.nil (AW.ret ?_)))
      obtain rfl := Option.some.inj h
      exact ⟨_, rfl, (wg 2 [0, 1, 2] [] rfl (le_upd (le_top _) (DLe.tup (ac (TLe.one .sc) (ac (TLe.one .sc) an)))) (ac (qo rfl) (ac (.none _) (ac (.cells id (all2_row _)) an))))⟩
     ·refine AW.cond_no rfl c12 (AW.skip (AW.seq (AW.seq (AW.region ?_))))
      refine s_move (d := (rf 0 0)) rfl (s_move (d := (ds_ e_u8 a1)) rfl ?_)
      obtain ⟨r13, er13, h⟩ := bnd h
      refine cc [0, 2] [(o_dossierref03_Disk_0 false (C.own 3 0 r13.2.L.length 3) r13.2), none, none, (or_ e_dossierref03_File r13.2.L)] (si r13.1) F.ca_71 rfl rfl (ac (.one (.ref rfl)) (ac (.one .imm) an)) (ac (.cells (ac (.own rfl) (ac .sc (ac .sc (ac .sc an))))) (ac (.cells (lend_row _)) an)) (dossierref04_fresh_71.meets _ (⟨x9, x6, x7, x8⟩ : dossierref03_Disk) a1 r13 er13) (s_assign (d := (si r13.1)) rfl (AWops.nil (AW.seq (AW.region (s_move (d := (si r13.1)) rfl (s_binI (v := (.bool (r13.1 != 0))) rfl rfl rfl (AWops.nil ?_)))))))
      rcases itH h with ⟨c14, h⟩ | ⟨c14, h⟩
      ·refine AW.cond_yes rfl c14 (AW.seq (AW.region ?_))
       refine s_move (d := (si r13.1)) rfl (s_assign (d := (sc (.pointer none))) rfl (s_assign (d := (si r13.1)) rfl (AWops.nil (AW.ret ?_))))
       obtain rfl := Option.some.inj h
       exact ⟨_, rfl, (wg 2 [0, 1, 3] [] rfl (le_upd (le_top _) (DLe.tup (ac (TLe.one .sc) (ac (TLe.one .sc) an)))) (ac (qo rfl) (ac (.none _) (ac (.cells id (all2_row _)) an))))⟩
      ·refine AW.cond_no rfl c14 (AW.skip (AW.seq (AW.region ?_)))
       refine s_move (d := (rf 0 0)) rfl (s_buildSlice (n := 0) (ps := []) (cs := rowC e_u8 ([] : List Int)) F.u_22 F.sz_5 F.z_5 rfl rfl (by decide) (by decide) rfl rfl (s_move (d := (ds_ e_u8 a1)) rfl ?_))
       obtain ⟨c15, h⟩ := gdH h
       have dc15 := of_decide_eq_true c15
       refine t_append (xs := ([] : List Int)) (ys := a1) (zs := a1) (H' := [(o_dossierref03_Disk_0 false (C.own 3 0 r13.2.L.length 3) r13.2), none, none, (or_ e_dossierref03_File r13.2.L), none, (ow_ e_u8 a1)]) F.u_22 F.in_5 rfl e_u8_len (.own rfl rfl) .imm F.u_22 (by omega) (by omega) rfl rfl (s_build (ps := [(0, (rf 0 0)), (1, (D.one (C.own 5 0 a1.length 1)))]) (cs := [(C.ref 0 0), (C.own 5 0 a1.length 1), (C.p true (.v (.slice none 0 0))), (cb false)]) F.z_92 rfl F.so_92 rfl rfl (s_box (cs := [(C.ref 0 0), (C.own 5 0 a1.length 1), (C.p true (.v (.slice none 0 0))), (cb false)]) rfl (List.cons_ne_nil _ _) rfl (s_assign (d := (rf 6 0)) rfl (s_assign (d := (si 0)) rfl (AWops.nil (AW.ret ?_))))))
       obtain rfl := Option.some.inj h
       exact ⟨_, rfl, (wg 2 [0, 1, 3, 6] [5] rfl (le_upd (le_top _) (DLe.tup (ac (TLe.one (.ref rfl)) (ac (TLe.one .sc) an)))) (ac (qo rfl) (ac (.none _) (ac (.cells id (all2_row _)) (ac (.cells (fun _ => rfl) (ac (.ref rfl) (ac (CLe.frz e_u8_len rfl rfl rfl) (ac .nil (ac .sc an))))) an)))))⟩
    ·refine AW.cond_no rfl c11 (AW.skip (AW.seq (AW.region ?_)))
     refine s_move (d := (ds_ e_u8 r10.1)) rfl ?_
     obtain ⟨r16, er16, h⟩ := bnd h
     refine cc [] [(some (AObj.cells false [(C.own 2 0 x9.length 3), (ci x6), (ci x7), (cb x8)])), none, (or_ e_dossierref03_File x9), (some (AObj.cells true (rowC (e_sl e_u8) r16.1)))] (D.tup [(D.one (C.own 3 0 r16.1.length 1)), (si r16.2)]) F.ca_72 rfl rfl (ac (.one .imm) an) an (dossierref04_frames.meets _ r10.1 r16 er16) (s_move (d := (D.tup [(D.one (C.own 3 0 r16.1.length 1)), (si r16.2)])) rfl (s_extract (d := (D.one (C.own 3 0 r16.1.length 1))) rfl rfl (s_extract (d := (si r16.2)) rfl rfl (s_assign (d := (D.one (C.own 3 0 r16.1.length 1))) rfl (s_assign (d := (si r16.2)) rfl (AWops.nil (AW.seq (AW.seq (AW.region ?_)))))))))
     refine s_move (d := (D.one (C.own 3 0 r16.1.length 1))) rfl (s_len (n := r16.1.length) F.u_25 rfl (.inr ⟨(fun _ _ h => by cases h), ⟨_, rfl⟩⟩) (s_binI (v := (.bool ((r16.1.length : Int) == 0))) rfl rfl rfl (AWops.nil ?_)))
     rcases itH h with ⟨c17, h⟩ | ⟨c17, h⟩
     ·refine AW.cond_yes rfl c17 (AW.seq (AW.region ?_))
      refine s_assign (d := (sc (.pointer none))) rfl (s_assign (d := (si 72)) rfl (AWops.nil (AW.ret ?_)))
      obtain rfl := Option.some.inj h
      exact ⟨_, rfl, (wg 2 [0, 1, 2] [] rfl (le_upd (le_top _) (DLe.tup (ac (TLe.one .sc) (ac (TLe.one .sc) an)))) (ac (qo rfl) (ac (.none _) (ac (.cells id (all2_row _)) an))))⟩
     ·refine AW.cond_no rfl c17 (AW.skip (AW.seq (AW.seq (AW.region ?_))))
      refine s_move (d := (si r16.2)) rfl (s_move (d := (ds_ e_u8 r10.1)) rfl (s_len (n := r10.1.length) F.u_22 rfl (.inr ⟨(fun _ _ h => by cases h), ⟨_, rfl⟩⟩) (s_binI (v := (.bool (decide (r16.2 < (r10.1.length : Int))))) rfl rfl rfl (AWops.nil ?_))))
      rcases itH h with ⟨c18, h⟩ | ⟨c18, h⟩
      ·refine AW.cond_yes rfl c18 (AW.seq (AW.region ?_))
       refine s_move (d := (rf 0 0)) rfl (s_move (d := (si r16.2)) rfl ?_)
       obtain ⟨r19, er19, h⟩ := bnd h
       refine cc [0, 2] [(o_dossierref03_Disk_0 false (C.own 4 0 r19.2.L.length 3) r19.2), none, none, (some (AObj.cells true (rowC (e_sl e_u8) r16.1))), (or_ e_dossierref03_File r19.2.L)] (si r19.1) F.ca_45 rfl rfl (ac (.one (.ref rfl)) (ac (.one .sc) (ac (.one .sc) an))) (ac (.cells (ac (.own rfl) (ac .sc (ac .sc (ac .sc an))))) (ac (.cells (lend_row _)) an)) (dossierref03_Disk_Truncate_45.meets _ (⟨x9, x6, x7, x8⟩ : dossierref03_Disk) (⟨#[106, 111, 117, 114, 110, 97, 108]⟩ : ByteArray) r16.2 r19 er19) (s_assign (d := (si r19.1)) rfl (AWops.nil (AW.seq (AW.region (s_move (d := (si r19.1)) rfl (s_binI (v := (.bool (r19.1 != 0))) rfl rfl rfl (AWops.nil ?_)))))))
       rcases itH h with ⟨c20, h⟩ | ⟨c20, h⟩
       ·refine AW.cond_yes rfl c20 (AW.seq (AW.region ?_))
        refine s_move (d := (si r19.1)) rfl (s_assign (d := (sc (.pointer none))) rfl (s_assign (d := (si r19.1)) rfl (AWops.nil (AW.ret ?_))))
        obtain rfl := Option.some.inj h
        exact ⟨_, rfl, (wg 2 [0, 1, 4] [] rfl (le_upd (le_top _) (DLe.tup (ac (TLe.one .sc) (ac (TLe.one .sc) an)))) (ac (qo rfl) (ac (.none _) (ac (.cells id (all2_row _)) an))))⟩
       ·refine AW.cond_no rfl c20 (AW.skip (AW.seq ?_))
        refine AW.weak (st' := ⟨79, (upd 79 (upd 79 (upd 79 (upd 79 (upd 79 (upd 79 (upd 79 (upd 79 (upd 79 (upd 79 (upd 79 (upd 79 (upd 79 (upd 79 (upd 79 (upd 79 (upd 79 (upd 79 (upd 79 (upd 79 (upd 79 (upd 79 (upd 79 (upd 79 (upd 79 (upd 79 (upd 79 (upd 79 (upd 79 (upd 79 (upd 79 topF 0 (rf 0 0)) 1 (ds_ e_u8 a1)) 9 (ds_ e_u8 r10.1)) 10 (si r10.2)) 12 (D.one (C.p false (.sl r16.1.length (r16.1.flatMap (e_sl e_u8)))))) 13 (si r16.2)) 14 (si r19.1)) 31 (D.tup [(ds_ e_u8 r10.1), (si r10.2)])) 32 (rf 0 0)) 33 (D.tup [(ds_ e_u8 r10.1), (si r10.2)])) 34 (ds_ e_u8 r10.1)) 35 (si r10.2)) 36 (si r10.2)) 37 (sb (r10.2 != 0))) 53 (D.tup [(D.one (C.p false (.sl r16.1.length (r16.1.flatMap (e_sl e_u8))))), (si r16.2)])) 54 (ds_ e_u8 r10.1)) 55 (D.tup [(D.one (C.p false (.sl r16.1.length (r16.1.flatMap (e_sl e_u8))))), (si r16.2)])) 56 (D.one (C.p false (.sl r16.1.length (r16.1.flatMap (e_sl e_u8)))))) 57 (si r16.2)) 58 (D.one (C.p false (.sl r16.1.length (r16.1.flatMap (e_sl e_u8)))))) 59 (si (r16.1.length : Int))) 60 (sb ((r16.1.length : Int) == 0))) 61 (si r16.2)) 62 (ds_ e_u8 r10.1)) 63 (si (r10.1.length : Int))) 64 (sb (decide (r16.2 < (r10.1.length : Int))))) 65 (rf 0 0)) 66 (si r16.2)) 67 (si r19.1)) 68 (si r19.1)) 69 (sb (r19.1 != 0))), [(o_dossierref03_Disk_0 false (C.own 2 0 r19.2.L.length 3) r19.2), none, (or_ e_dossierref03_File r19.2.L)]⟩) (wg 2 [0, 1, 4] [3] hx (le_upd (le_upd (le_upd (le_upd (le_upd (le_upd (le_upd (le_upd (le_upd (le_upd (le_upd (le_upd (le_upd (le_upd (le_upd (le_upd (le_upd (le_upd (le_upd (le_upd (le_upd (le_upd (le_upd (le_upd (le_upd (le_upd (le_upd (le_upd (le_upd (le_upd (le_upd (le_top _) (o1 (.ref rfl))) (o1 .same)) (o1 .same)) (o1 .sc)) (o1 (CLe.frz (e_sl_len _) rfl rfl rfl))) (o1 .sc)) (o1 .sc)) (DLe.tup (ac (TLe.one .same) (ac (TLe.one .sc) an)))) (o1 (.ref rfl))) (DLe.tup (ac (TLe.one .same) (ac (TLe.one .sc) an)))) (o1 .same)) (o1 .sc)) (o1 .sc)) (o1 .sc)) (DLe.tup (ac (TLe.one (CLe.frz (e_sl_len _) rfl rfl rfl)) (ac (TLe.one .sc) an)))) (o1 .same)) (DLe.tup (ac (TLe.one (CLe.frz (e_sl_len _) rfl rfl rfl)) (ac (TLe.one .sc) an)))) (o1 (CLe.frz (e_sl_len _) rfl rfl rfl))) (o1 .sc)) (o1 (CLe.frz (e_sl_len _) rfl rfl rfl))) (o1 .sc)) (o1 .sc)) (o1 .sc)) (o1 .same)) (o1 .sc)) (o1 .sc)) (o1 (.ref rfl))) (o1 .sc)) (o1 .sc)) (o1 .sc)) (o1 .sc)) (ac (qo rfl) (ac (.none _) (ac (.cells id (all2_row _)) an)))) ?_
        refine AW.weak (st' := ⟨79, (upd 79 (upd 79 topF 0 (rf 0 0)) 12 (D.one (C.p false (.sl r16.1.length (r16.1.flatMap (e_sl e_u8)))))), [(o_dossierref03_Disk_0 false (C.own 2 0 r19.2.L.length 3) r19.2), none, (or_ e_dossierref03_File r19.2.L)]⟩) (wg 2 [0, 1, 2] [] hx (le_upd (le_upd (le_top _) (o1 (.ref rfl))) (o1 .same)) (ac (qo rfl) (ac (.none _) (ac (.cells id (all2_row _)) an)))) ?_
        obtain ⟨v21, ev21, h⟩ := bnd h
        obtain ⟨pv21, qv21, gv21⟩ := rd_some ev21
        obtain ⟨c22, h⟩ := gdH h
        have dc22 := of_decide_eq_true c22
        refine AW.draw (n := 79) (L := 4) [(ft 0 71 (rf 0 0) [(0, (rf 0 0))]), (ft 1 72 (D.one (C.p false (.sl r16.1.length (r16.1.flatMap (e_sl e_u8))))) [(12, (D.one (C.p false (.sl r16.1.length (r16.1.flatMap (e_sl e_u8))))))]), (ft 2 73 (D.one (C.peek false [P.sl v21.length (v21.flatMap e_u8)])) [(72, (D.one (C.p false (.sl r16.1.length (r16.1.flatMap (e_sl e_u8))))))]), (ft 3 74 (ds_ e_u8 v21) [(73, (D.one (C.peek false [P.sl v21.length (v21.flatMap e_u8)])))]), (ft 4 75 (D.one (C.p false (.sl r16.1.length (r16.1.flatMap (e_sl e_u8))))) [(12, (D.one (C.p false (.sl r16.1.length (r16.1.flatMap (e_sl e_u8))))))]), (ft 5 76 (D.one (C.p false (.sl (sub r16.1 1 (r16.1.length : Int)).length ((sub r16.1 1 (r16.1.length : Int)).flatMap (e_sl e_u8))))) [(75, (D.one (C.p false (.sl r16.1.length (r16.1.flatMap (e_sl e_u8))))))]), (ft 6 77 (D.agg [(C.ref 0 0), (cl_ e_u8 v21), (C.p false (.sl (sub r16.1 1 (r16.1.length : Int)).length ((sub r16.1 1 (r16.1.length : Int)).flatMap (e_sl e_u8)))), (cb false)]) [(71, (rf 0 0)), (74, (ds_ e_u8 v21)), (76, (D.one (C.p false (.sl (sub r16.1 1 (r16.1.length : Int)).length ((sub r16.1 1 (r16.1.length : Int)).flatMap (e_sl e_u8))))))]), (7, ⟨some 78, (rf 3 0), [(77, (D.agg [(C.ref 0 0), (cl_ e_u8 v21), (C.p false (.sl (sub r16.1 1 (r16.1.length : Int)).length ((sub r16.1 1 (r16.1.length : Int)).flatMap (e_sl e_u8)))), (cb false)]))], [], [(3, (some (AObj.cells true [(C.ref 0 0), (cl_ e_u8 v21), (C.p false (.sl (sub r16.1 1 (r16.1.length : Int)).length ((sub r16.1 1 (r16.1.length : Int)).flatMap (e_sl e_u8)))), (cb false)])))], some 3⟩), (ft 8 4 (rf 3 0) [(78, (rf 3 0))]), (ft 9 5 (si 0) [])] [[], [], [1], [1, 2], [], [4], (.range 6), (.range 7), (.range 8), (.range 9)] (nl rfl) [0, 0, 1, 2, 0, 1, 3, 4, 5, 6] rfl (TK := [(7, 3)]) rfl (AllK.cons' ⟨(tk_upd (tk_upd tk_top rfl) rfl), (tC rfl (tC rfl (tC (tkO_row _) AllT.nil'))), (fC (.inr rfl) (fC (.inr rfl) (fC (.inr rfl) (fC (.inr rfl) (fC (.inr rfl) (fC (.inr rfl) (fC (.inr rfl) (fC (.inl rfl) (fC (.inl rfl) (fC (.inl rfl) AllF.nil'))))))))))⟩ AllK.nil') (by repeat (first | refine fC ⟨?_, ?_⟩ ?_ | refine sC rfl ?_ | refine hC rfl ?_ | trivial)) ?_ ?_
        ·refine y8 ?_ ?_ ?_ ?_ ?_ ?_ ?_ ?_ (y2 ?_ ?_ yN)
         ·intro K _ f w u k
          show Wp K ⟨79, (upd 79 f 0 (rf 0 0)), _⟩
          refine s_move (d := (rf 0 0)) rfl k
         ·intro K _ f w u k
          show Wp K ⟨79, (upd 79 f 12 (D.one (C.p false (.sl r16.1.length (r16.1.flatMap (e_sl e_u8)))))), _⟩
          refine s_move (d := (D.one (C.p false (.sl r16.1.length (r16.1.flatMap (e_sl e_u8)))))) rfl k
         ·intro K _ f w u k
          show Wp K ⟨79, (upd 79 f 72 (D.one (C.p false (.sl r16.1.length (r16.1.flatMap (e_sl e_u8)))))), [_, _, _, _]⟩
          refine s_indexImm (ps := [P.sl v21.length (v21.flatMap e_u8)]) F.u_25 F.sz_22 rfl rfl pv21 qv21 (flat_at (e_sl_len _) gv21 (e_sl_eq _ v21)) k
         ·intro K _ f w u k
          show Wp K ⟨79, (upd 79 f 73 (D.one (C.peek false [P.sl v21.length (v21.flatMap e_u8)]))), [_, _, _, _]⟩
          refine s_load1 (c' := (cl_ e_u8 v21)) F.ag_22 rfl rfl k
         ·intro K _ f w u k
          show Wp K ⟨79, (upd 79 f 12 (D.one (C.p false (.sl r16.1.length (r16.1.flatMap (e_sl e_u8)))))), _⟩
          refine s_move (d := (D.one (C.p false (.sl r16.1.length (r16.1.flatMap (e_sl e_u8)))))) rfl k
         ·intro K _ f w u k
          show Wp K ⟨79, (upd 79 f 75 (D.one (C.p false (.sl r16.1.length (r16.1.flatMap (e_sl e_u8)))))), [_, _, _, _]⟩
          refine t_sliceImm (a := 1) (b := (r16.1.length : Int)) F.u_25 F.sz_22 (e_sl_len _) rfl (by omega) (by omega) (by omega) (.yes rfl (by omega) rfl) .no k
         ·intro K _ f w u k
          show Wp K ⟨79, (upd 79 (upd 79 (upd 79 f 76 (D.one (C.p false (.sl (sub r16.1 1 (r16.1.length : Int)).length ((sub r16.1 1 (r16.1.length : Int)).flatMap (e_sl e_u8)))))) 74 (ds_ e_u8 v21)) 71 (rf 0 0)), [_, _, _, _]⟩
          refine s_build (ps := [(0, (rf 0 0)), (1, (ds_ e_u8 v21)), (2, (D.one (C.p false (.sl (sub r16.1 1 (r16.1.length : Int)).length ((sub r16.1 1 (r16.1.length : Int)).flatMap (e_sl e_u8))))))]) (cs := [(C.ref 0 0), (cl_ e_u8 v21), (C.p false (.sl (sub r16.1 1 (r16.1.length : Int)).length ((sub r16.1 1 (r16.1.length : Int)).flatMap (e_sl e_u8)))), (cb false)]) F.z_92 rfl F.so_92 rfl rfl k
         ·intro K _ f w u k
          show Wp K ⟨79, (upd 79 f 77 (D.agg [(C.ref 0 0), (cl_ e_u8 v21), (C.p false (.sl (sub r16.1 1 (r16.1.length : Int)).length ((sub r16.1 1 (r16.1.length : Int)).flatMap (e_sl e_u8)))), (cb false)])), [_, _, _, _]⟩
          refine s_box (cs := [(C.ref 0 0), (cl_ e_u8 v21), (C.p false (.sl (sub r16.1 1 (r16.1.length : Int)).length ((sub r16.1 1 (r16.1.length : Int)).flatMap (e_sl e_u8)))), (cb false)]) rfl (List.cons_ne_nil _ _) rfl ?_
          refine AWops.weak (st' := ⟨79, (upd 79 (upd 79 f 77 (D.agg [(C.ref 0 0), (cl_ e_u8 v21), (C.p false (.sl (sub r16.1 1 (r16.1.length : Int)).length ((sub r16.1 1 (r16.1.length : Int)).flatMap (e_sl e_u8)))), (cb false)])) 78 (rf 3 0)), [(w 0), (w 1), (w 2), (some (AObj.cells true [(C.ref 0 0), (cl_ e_u8 v21), (C.p false (.sl (sub r16.1 1 (r16.1.length : Int)).length ((sub r16.1 1 (r16.1.length : Int)).flatMap (e_sl e_u8)))), (cb false)]))]⟩) (wg 2 [0, 1, 2, 4] [] hx (le_upd2 (le_ok (p := 3) (L := 4) rfl (u 3 rfl).1) (o1 (.ref rfl))) (ac (oq 3 4 (u 3 rfl) 0) (ac (oq 3 4 (u 3 rfl) 1) (ac (oq 3 4 (u 3 rfl) 2) (ac (.cells (fun _ => rfl) (ac (.ref rfl) (ac .same (ac .same (ac .sc an))))) an))))) k
         ·intro K _ f w u k
          show Wp K ⟨79, (upd 79 f 78 (rf 3 0)), _⟩
          refine s_assign (d := (rf 3 0)) rfl k
         ·intro K _ f w u k
          show Wp K ⟨79, f, _⟩
          refine s_assign (d := (si 0)) rfl k
        ·refine AWops.weak (st' := ⟨79, (upd 79 (upd 79 topF 4 (rf 2 0)) 5 (si 0)), [(o_dossierref03_Disk_0 false (C.own 3 0 r19.2.L.length 3) r19.2), none, (some (AObj.cells true [(C.ref 0 0), (cl_ e_u8 v21), (C.p false (.sl (sub r16.1 1 (r16.1.length : Int)).length ((sub r16.1 1 (r16.1.length : Int)).flatMap (e_sl e_u8)))), (cb false)])), (or_ e_dossierref03_File r19.2.L)]⟩) (wg 2 [0, 1, 3, 2] [] hx (le_upd (le_upd (le_top _) (o1 (.ref rfl))) (o1 .sc)) (ac (qo rfl) (ac (.none _) (ac (.cells (fun _ => rfl) (ac (.ref rfl) (ac .same (ac .same (ac .sc an))))) (ac (.cells id (all2_row _)) an))))) (AWops.nil (AW.ret ?_))
         obtain rfl := Option.some.inj h
         exact ⟨_, rfl, (wg 2 [0, 1, 3, 2] [] rfl (le_upd (le_top _) (DLe.tup (ac (TLe.one (.ref rfl)) (ac (TLe.one .sc) an)))) (ac (qo rfl) (ac (.none _) (ac (.cells id (all2_row _)) (ac (.cells (fun _ => rfl) (ac (.ref rfl) (ac .same (ac .same (ac .sc an))))) an)))))⟩
      ·refine AW.cond_no rfl c18 (AW.skip (AW.seq ?_))
       refine AW.weak (st' := ⟨79, (upd 79 (upd 79 (upd 79 (upd 79 (upd 79 (upd 79 (upd 79 (upd 79 (upd 79 (upd 79 (upd 79 (upd 79 (upd 79 (upd 79 (upd 79 (upd 79 (upd 79 (upd 79 (upd 79 (upd 79 (upd 79 (upd 79 (upd 79 (upd 79 (upd 79 topF 0 (rf 0 0)) 1 (ds_ e_u8 a1)) 9 (ds_ e_u8 r10.1)) 10 (si r10.2)) 12 (D.one (C.p false (.sl r16.1.length (r16.1.flatMap (e_sl e_u8)))))) 13 (si r16.2)) 31 (D.tup [(ds_ e_u8 r10.1), (si r10.2)])) 32 (rf 0 0)) 33 (D.tup [(ds_ e_u8 r10.1), (si r10.2)])) 34 (ds_ e_u8 r10.1)) 35 (si r10.2)) 36 (si r10.2)) 37 (sb (r10.2 != 0))) 53 (D.tup [(D.one (C.p false (.sl r16.1.length (r16.1.flatMap (e_sl e_u8))))), (si r16.2)])) 54 (ds_ e_u8 r10.1)) 55 (D.tup [(D.one (C.p false (.sl r16.1.length (r16.1.flatMap (e_sl e_u8))))), (si r16.2)])) 56 (D.one (C.p false (.sl r16.1.length (r16.1.flatMap (e_sl e_u8)))))) 57 (si r16.2)) 58 (D.one (C.p false (.sl r16.1.length (r16.1.flatMap (e_sl e_u8)))))) 59 (si (r16.1.length : Int))) 60 (sb ((r16.1.length : Int) == 0))) 61 (si r16.2)) 62 (ds_ e_u8 r10.1)) 63 (si (r10.1.length : Int))) 64 (sb (decide (r16.2 < (r10.1.length : Int))))), [(some (AObj.cells false [(C.own 2 0 x9.length 3), (ci x6), (ci x7), (cb x8)])), none, (or_ e_dossierref03_File x9)]⟩) (wg 2 [0, 1, 2] [3] hx (le_upd (le_upd (le_upd (le_upd (le_upd (le_upd (le_upd (le_upd (le_upd (le_upd (le_upd (le_upd (le_upd (le_upd (le_upd (le_upd (le_upd (le_upd (le_upd (le_upd (le_upd (le_upd (le_upd (le_upd (le_upd (le_top _) (o1 (.ref rfl))) (o1 .same)) (o1 .same)) (o1 .sc)) (o1 (CLe.frz (e_sl_len _) rfl rfl rfl))) (o1 .sc)) (DLe.tup (ac (TLe.one .same) (ac (TLe.one .sc) an)))) (o1 (.ref rfl))) (DLe.tup (ac (TLe.one .same) (ac (TLe.one .sc) an)))) (o1 .same)) (o1 .sc)) (o1 .sc)) (o1 .sc)) (DLe.tup (ac (TLe.one (CLe.frz (e_sl_len _) rfl rfl rfl)) (ac (TLe.one .sc) an)))) (o1 .same)) (DLe.tup (ac (TLe.one (CLe.frz (e_sl_len _) rfl rfl rfl)) (ac (TLe.one .sc) an)))) (o1 (CLe.frz (e_sl_len _) rfl rfl rfl))) (o1 .sc)) (o1 (CLe.frz (e_sl_len _) rfl rfl rfl))) (o1 .sc)) (o1 .sc)) (o1 .sc)) (o1 .same)) (o1 .sc)) (o1 .sc)) (ac (qo rfl) (ac (.none _) (ac (.cells id (all2_row _)) an)))) ?_
       refine AW.weak (st' := ⟨79, (upd 79 (upd 79 topF 0 (rf 0 0)) 12 (D.one (C.p false (.sl r16.1.length (r16.1.flatMap (e_sl e_u8)))))), [(some (AObj.cells false [(C.own 2 0 x9.length 3), (ci x6), (ci x7), (cb x8)])), none, (or_ e_dossierref03_File x9)]⟩) (wg 2 [0, 1, 2] [] hx (le_upd (le_upd (le_top _) (o1 (.ref rfl))) (o1 .same)) (ac (qo rfl) (ac (.none _) (ac (.cells id (all2_row _)) an)))) ?_
       obtain ⟨v23, ev23, h⟩ := bnd h
       obtain ⟨pv23, qv23, gv23⟩ := rd_some ev23
       obtain ⟨c24, h⟩ := gdH h
       have dc24 := of_decide_eq_true c24
       refine AW.draw (n := 79) (L := 4) [(ft 0 71 (rf 0 0) [(0, (rf 0 0))]), (ft 1 72 (D.one (C.p false (.sl r16.1.length (r16.1.flatMap (e_sl e_u8))))) [(12, (D.one (C.p false (.sl r16.1.length (r16.1.flatMap (e_sl e_u8))))))]), (ft 2 73 (D.one (C.peek false [P.sl v23.length (v23.flatMap e_u8)])) [(72, (D.one (C.p false (.sl r16.1.length (r16.1.flatMap (e_sl e_u8))))))]), (ft 3 74 (ds_ e_u8 v23) [(73, (D.one (C.peek false [P.sl v23.length (v23.flatMap e_u8)])))]), (ft 4 75 (D.one (C.p false (.sl r16.1.length (r16.1.flatMap (e_sl e_u8))))) [(12, (D.one (C.p false (.sl r16.1.length (r16.1.flatMap (e_sl e_u8))))))]), (ft 5 76 (D.one (C.p false (.sl (sub r16.1 1 (r16.1.length : Int)).length ((sub r16.1 1 (r16.1.length : Int)).flatMap (e_sl e_u8))))) [(75, (D.one (C.p false (.sl r16.1.length (r16.1.flatMap (e_sl e_u8))))))]), (ft 6 77 (D.agg [(C.ref 0 0), (cl_ e_u8 v23), (C.p false (.sl (sub r16.1 1 (r16.1.length : Int)).length ((sub r16.1 1 (r16.1.length : Int)).flatMap (e_sl e_u8)))), (cb false)]) [(71, (rf 0 0)), (74, (ds_ e_u8 v23)), (76, (D.one (C.p false (.sl (sub r16.1 1 (r16.1.length : Int)).length ((sub r16.1 1 (r16.1.length : Int)).flatMap (e_sl e_u8))))))]), (7, ⟨some 78, (rf 3 0), [(77, (D.agg [(C.ref 0 0), (cl_ e_u8 v23), (C.p false (.sl (sub r16.1 1 (r16.1.length : Int)).length ((sub r16.1 1 (r16.1.length : Int)).flatMap (e_sl e_u8)))), (cb false)]))], [], [(3, (some (AObj.cells true [(C.ref 0 0), (cl_ e_u8 v23), (C.p false (.sl (sub r16.1 1 (r16.1.length : Int)).length ((sub r16.1 1 (r16.1.length : Int)).flatMap (e_sl e_u8)))), (cb false)])))], some 3⟩), (ft 8 4 (rf 3 0) [(78, (rf 3 0))]), (ft 9 5 (si 0) [])] [[], [], [1], [1, 2], [], [4], (.range 6), (.range 7), (.range 8), (.range 9)] (nl rfl) [0, 0, 1, 2, 0, 1, 3, 4, 5, 6] rfl (TK := [(7, 3)]) rfl (AllK.cons' ⟨(tk_upd (tk_upd tk_top rfl) rfl), (tC rfl (tC rfl (tC (tkO_row _) AllT.nil'))), (fC (.inr rfl) (fC (.inr rfl) (fC (.inr rfl) (fC (.inr rfl) (fC (.inr rfl) (fC (.inr rfl) (fC (.inr rfl) (fC (.inl rfl) (fC (.inl rfl) (fC (.inl rfl) AllF.nil'))))))))))⟩ AllK.nil') (by repeat (first | refine fC ⟨?_, ?_⟩ ?_ | refine sC rfl ?_ | refine hC rfl ?_ | trivial)) ?_ ?_
       ·refine y8 ?_ ?_ ?_ ?_ ?_ ?_ ?_ ?_ (y2 ?_ ?_ yN)
        ·intro K _ f w u k
         show Wp K ⟨79, (upd 79 f 0 (rf 0 0)), _⟩
         refine s_move (d := (rf 0 0)) rfl k
        ·intro K _ f w u k
         show Wp K ⟨79, (upd 79 f 12 (D.one (C.p false (.sl r16.1.length (r16.1.flatMap (e_sl e_u8)))))), _⟩
         refine s_move (d := (D.one (C.p false (.sl r16.1.length (r16.1.flatMap (e_sl e_u8)))))) rfl k
        ·intro K _ f w u k
         show Wp K ⟨79, (upd 79 f 72 (D.one (C.p false (.sl r16.1.length (r16.1.flatMap (e_sl e_u8)))))), [_, _, _, _]⟩
         refine s_indexImm (ps := [P.sl v23.length (v23.flatMap e_u8)]) F.u_25 F.sz_22 rfl rfl pv23 qv23 (flat_at (e_sl_len _) gv23 (e_sl_eq _ v23)) k
        ·intro K _ f w u k
         show Wp K ⟨79, (upd 79 f 73 (D.one (C.peek false [P.sl v23.length (v23.flatMap e_u8)]))), [_, _, _, _]⟩
         refine s_load1 (c' := (cl_ e_u8 v23)) F.ag_22 rfl rfl k
        ·intro K _ f w u k
         show Wp K ⟨79, (upd 79 f 12 (D.one (C.p false (.sl r16.1.length (r16.1.flatMap (e_sl e_u8)))))), _⟩
         refine s_move (d := (D.one (C.p false (.sl r16.1.length (r16.1.flatMap (e_sl e_u8)))))) rfl k
        ·intro K _ f w u k
         show Wp K ⟨79, (upd 79 f 75 (D.one (C.p false (.sl r16.1.length (r16.1.flatMap (e_sl e_u8)))))), [_, _, _, _]⟩
         refine t_sliceImm (a := 1) (b := (r16.1.length : Int)) F.u_25 F.sz_22 (e_sl_len _) rfl (by omega) (by omega) (by omega) (.yes rfl (by omega) rfl) .no k
        ·intro K _ f w u k
         show Wp K ⟨79, (upd 79 (upd 79 (upd 79 f 76 (D.one (C.p false (.sl (sub r16.1 1 (r16.1.length : Int)).length ((sub r16.1 1 (r16.1.length : Int)).flatMap (e_sl e_u8)))))) 74 (ds_ e_u8 v23)) 71 (rf 0 0)), [_, _, _, _]⟩
         refine s_build (ps := [(0, (rf 0 0)), (1, (ds_ e_u8 v23)), (2, (D.one (C.p false (.sl (sub r16.1 1 (r16.1.length : Int)).length ((sub r16.1 1 (r16.1.length : Int)).flatMap (e_sl e_u8))))))]) (cs := [(C.ref 0 0), (cl_ e_u8 v23), (C.p false (.sl (sub r16.1 1 (r16.1.length : Int)).length ((sub r16.1 1 (r16.1.length : Int)).flatMap (e_sl e_u8)))), (cb false)]) F.z_92 rfl F.so_92 rfl rfl k
        ·intro K _ f w u k
         show Wp K ⟨79, (upd 79 f 77 (D.agg [(C.ref 0 0), (cl_ e_u8 v23), (C.p false (.sl (sub r16.1 1 (r16.1.length : Int)).length ((sub r16.1 1 (r16.1.length : Int)).flatMap (e_sl e_u8)))), (cb false)])), [_, _, _, _]⟩
         refine s_box (cs := [(C.ref 0 0), (cl_ e_u8 v23), (C.p false (.sl (sub r16.1 1 (r16.1.length : Int)).length ((sub r16.1 1 (r16.1.length : Int)).flatMap (e_sl e_u8)))), (cb false)]) rfl (List.cons_ne_nil _ _) rfl ?_
         refine AWops.weak (st' := ⟨79, (upd 79 (upd 79 f 77 (D.agg [(C.ref 0 0), (cl_ e_u8 v23), (C.p false (.sl (sub r16.1 1 (r16.1.length : Int)).length ((sub r16.1 1 (r16.1.length : Int)).flatMap (e_sl e_u8)))), (cb false)])) 78 (rf 3 0)), [(w 0), (w 1), (w 2), (some (AObj.cells true [(C.ref 0 0), (cl_ e_u8 v23), (C.p false (.sl (sub r16.1 1 (r16.1.length : Int)).length ((sub r16.1 1 (r16.1.length : Int)).flatMap (e_sl e_u8)))), (cb false)]))]⟩) (wg 2 [0, 1, 2, 4] [] hx (le_upd2 (le_ok (p := 3) (L := 4) rfl (u 3 rfl).1) (o1 (.ref rfl))) (ac (oq 3 4 (u 3 rfl) 0) (ac (oq 3 4 (u 3 rfl) 1) (ac (oq 3 4 (u 3 rfl) 2) (ac (.cells (fun _ => rfl) (ac (.ref rfl) (ac .same (ac .same (ac .sc an))))) an))))) k
        ·intro K _ f w u k
         show Wp K ⟨79, (upd 79 f 78 (rf 3 0)), _⟩
         refine s_assign (d := (rf 3 0)) rfl k
        ·intro K _ f w u k
         show Wp K ⟨79, f, _⟩
         refine s_assign (d := (si 0)) rfl k
       ·refine AWops.weak (st' := ⟨79, (upd 79 (upd 79 topF 4 (rf 2 0)) 5 (si 0)), [(some (AObj.cells false [(C.own 3 0 x9.length 3), (ci x6), (ci x7), (cb x8)])), none, (some (AObj.cells true [(C.ref 0 0), (cl_ e_u8 v23), (C.p false (.sl (sub r16.1 1 (r16.1.length : Int)).length ((sub r16.1 1 (r16.1.length : Int)).flatMap (e_sl e_u8)))), (cb false)])), (or_ e_dossierref03_File x9)]⟩) (wg 2 [0, 1, 3, 2] [] hx (le_upd (le_upd (le_top _) (o1 (.ref rfl))) (o1 .sc)) (ac (qo rfl) (ac (.none _) (ac (.cells (fun _ => rfl) (ac (.ref rfl) (ac .same (ac .same (ac .sc an))))) (ac (.cells id (all2_row _)) an))))) (AWops.nil (AW.ret ?_))
        obtain rfl := Option.some.inj h
        exact ⟨_, rfl, (wg 2 [0, 1, 3, 2] [] rfl (le_upd (le_top _) (DLe.tup (ac (TLe.one (.ref rfl)) (ac (TLe.one .sc) an)))) (ac (qo rfl) (ac (.none _) (ac (.cells id (all2_row _)) (ac (.cells (fun _ => rfl) (ac (.ref rfl) (ac .same (ac .same (ac .sc an))))) an)))))⟩
def dossierlaw04_pair_open_21.f (k : Nat) (p0 : dossierlaw04_pair) (a1 : List Int) (p1 : vdisk_Disk) (p2 : dossierref03_Disk) : Option (Bool × dossierlaw04_pair × vdisk_Disk × dossierref03_Disk × (Option journal_Journal) × (Option dossierref04_Journal)) := (journal_Open.f k p1 a1).bind fun r1 => optE r1.1 ((dossierref04_Open_51.f k p2 a1).bind fun r4 => optE r4.1 (some ((r1.2.1 == r4.2.1), (⟨(), (), (), ()⟩ : dossierlaw04_pair), r1.2.2, r4.2.2, (none : Option journal_Journal), (none : Option dossierref04_Journal))) (fun y6 => some ((r1.2.1 == r4.2.1), (⟨(), (), (), ()⟩ : dossierlaw04_pair), r1.2.2, r4.2.2, (none : Option journal_Journal), some (⟨(), y6.Snap, y6.L, y6.Stop⟩ : dossierref04_Journal)))) (fun y3 => (dossierref04_Open_51.f k p2 a1).bind fun r7 => optE r7.1 (some ((r1.2.1 == r7.2.1), (⟨(), (), (), ()⟩ : dossierlaw04_pair), r1.2.2, r7.2.2, some (⟨(), y3.snap, y3.l, y3.stopped⟩ : journal_Journal), (none : Option dossierref04_Journal))) (fun y9 => some ((r1.2.1 == r7.2.1), (⟨(), (), (), ()⟩ : dossierlaw04_pair), r1.2.2, r7.2.2, some (⟨(), y3.snap, y3.l, y3.stopped⟩ : journal_Journal), some (⟨(), y9.Snap, y9.L, y9.Stop⟩ : dossierref04_Journal))))
theorem dossierlaw04_pair_open_21.meets (k : Nat) (p0 : dossierlaw04_pair) (a1 : List Int) (p1 : vdisk_Disk) (p2 : dossierref03_Disk) (r : Bool × dossierlaw04_pair × vdisk_Disk × dossierref03_Disk × (Option journal_Journal) × (Option dossierref04_Journal)) (h : dossierlaw04_pair_open_21.f k p0 a1 p1 p2 = some r) : Meets Try.prog 21 [(rf 0 0), (ds_ e_u8 a1)] [(some (AObj.cells false [np, np, (C.ref 1 0), (C.ref 2 0)])), (o_vdisk_Disk_03 false (C.mp 3) np p1), (o_dossierref03_Disk_0 false (C.own 4 0 p2.L.length 3) p2), (om_ e_vdisk_file p1.files), (or_ e_dossierref03_File p2.L)] (optE r.2.2.2.2.1 (optE r.2.2.2.2.2 (sb r.1) (fun z1 : dossierref04_Journal => (sb r.1))) (fun z2 : journal_Journal => (optE r.2.2.2.2.2 (sb r.1) (fun z1 : dossierref04_Journal => (sb r.1))))) (optE r.2.2.2.2.1 (optE r.2.2.2.2.2 [(some (AObj.cells false [np, np, (C.ref 1 0), (C.ref 2 0)])), (o_vdisk_Disk_03 false (C.mp 3) np r.2.2.1), (o_dossierref03_Disk_0 false (C.own 5 0 r.2.2.2.1.L.length 3) r.2.2.2.1), (om_ e_vdisk_file r.2.2.1.files), none, (or_ e_dossierref03_File r.2.2.2.1.L)] (fun z1 : dossierref04_Journal => [(some (AObj.cells false [np, (C.ref 5 0), (C.ref 1 0), (C.ref 2 0)])), (o_vdisk_Disk_03 false (C.mp 3) np r.2.2.1), (o_dossierref03_Disk_0 false (C.own 6 0 r.2.2.2.1.L.length 3) r.2.2.2.1), (om_ e_vdisk_file r.2.2.1.files), none, (o_dossierref04_Journal_0 false (C.ref 2 0) z1), (or_ e_dossierref03_File r.2.2.2.1.L)])) (fun z2 : journal_Journal => (optE r.2.2.2.2.2 [(some (AObj.cells false [(C.ref 5 0), np, (C.ref 1 0), (C.ref 2 0)])), (o_vdisk_Disk_03 false (C.mp 3) np r.2.2.1), (o_dossierref03_Disk_0 false (C.own 6 0 r.2.2.2.1.L.length 3) r.2.2.2.1), (om_ e_vdisk_file r.2.2.1.files), none, (o_journal_Journal_0 false (C.ref 1 0) z2), (or_ e_dossierref03_File r.2.2.2.1.L)] (fun z1 : dossierref04_Journal => [(some (AObj.cells false [(C.ref 5 0), (C.ref 6 0), (C.ref 1 0), (C.ref 2 0)])), (o_vdisk_Disk_03 false (C.mp 3) np r.2.2.1), (o_dossierref03_Disk_0 false (C.own 7 0 r.2.2.2.1.L.length 3) r.2.2.2.1), (om_ e_vdisk_file r.2.2.1.files), none, (o_journal_Journal_0 false (C.ref 1 0) z2), (o_dossierref04_Journal_0 false (C.ref 2 0) z1), (or_ e_dossierref03_File r.2.2.2.1.L)])))) := by
 unfold dossierlaw04_pair_open_21.f at h
 refine Meets.of_body (n := 38) Try.func21 rfl rfl (nl rfl) fun x hx => ?_
 replace hx : x.k = 5 := hx
 show AW _ x _ _ ⟨38, fr0 [(rf 0 0), (ds_ e_u8 a1)], [(some (AObj.cells false [np, np, (C.ref 1 0), (C.ref 2 0)])), (o_vdisk_Disk_03 false (C.mp 3) np p1), (o_dossierref03_Disk_0 false (C.own 4 0 p2.L.length 3) p2), (om_ e_vdisk_file p1.files), (or_ e_dossierref03_File p2.L)]⟩
 refine AW.weak (st' := ⟨38, (upd 38 (upd 38 topF 0 (rf 0 0)) 1 (ds_ e_u8 a1)), [(some (AObj.cells false [np, np, (C.ref 1 0), (C.ref 2 0)])), (o_vdisk_Disk_03 false (C.mp 3) np p1), (o_dossierref03_Disk_0 false (C.own 5 0 p2.L.length 3) p2), (om_ e_vdisk_file p1.files), none, (or_ e_dossierref03_File p2.L)]⟩) (Weak.genL (kk := 5) [0, 1, 2, 3, 4, 4] [] hx rfl (by decide) rfl rfl rfl rfl (le_upd (le_upd (le_top _) (o1 (.ref rfl))) (o1 .same)) (ac (.cells id (ac .sc (ac .sc (ac (.ref rfl) (ac (.ref rfl) an))))) (ac (qs rfl) (ac (qo rfl) (ac .map (ac (.none _) (ac (.cells id (all2_row _)) an))))))) (AW.seq (AW.region ?_))
 refine s_assign (d := (sb false)) rfl (AWops.nil (AW.seq (AW.region ?_)))
 refine s_move (d := (rf 0 0)) rfl (s_nilCheck (d := (rf 0 0)) rfl (.inl ⟨_, _, rfl⟩) (s_fieldRef F.fo_57_2 (by decide) rfl (s_load1 (c' := (C.ref 1 0)) F.ag_24 rfl rfl (s_move (d := (ds_ e_u8 a1)) rfl ?_))))
 obtain ⟨r1, er1, h⟩ := bnd h
 rcases optH h with ⟨c2, h⟩ | ⟨y3, c2, h⟩
 ·refine cc [1, 3] [(some (AObj.cells false [np, np, (C.ref 1 0), (C.ref 2 0)])), (o_vdisk_Disk_03 false (C.mp 3) np r1.2.2), (o_dossierref03_Disk_0 false (C.own 5 0 p2.L.length 3) p2), (om_ e_vdisk_file r1.2.2.files), none, (or_ e_dossierref03_File p2.L)] (D.tup [(sc (.pointer none)), (si r1.2.1)]) F.ca_12 rfl rfl (ac (.one (.ref rfl)) (ac (.one .imm) an)) (ac (.cells (ac (.mp rfl) (ac .sc (ac .sc (ac .sc (ac .sc an)))))) (ac .map an)) (Meets.eqs (optE_none c2) (optE_none c2) (journal_Open.meets _ p1 a1 r1 er1)) (s_move (d := (D.tup [(sc (.pointer none)), (si r1.2.1)])) rfl (s_extract (d := (sc (.pointer none))) rfl rfl (s_extract (d := (si r1.2.1)) rfl rfl (s_assign (d := (sc (.pointer none))) rfl (s_assign (d := (si r1.2.1)) rfl (AWops.nil (AW.seq (AW.region ?_))))))))
  refine s_move (d := (rf 0 0)) rfl (s_nilCheck (d := (rf 0 0)) rfl (.inl ⟨_, _, rfl⟩) (s_fieldRef F.fo_57_3 (by decide) rfl (s_load1 (c' := (C.ref 2 0)) F.ag_51 rfl rfl (s_move (d := (ds_ e_u8 a1)) rfl ?_))))
  obtain ⟨r4, er4, h⟩ := bnd h
  rcases optH h with ⟨c5, h⟩ | ⟨y6, c5, h⟩
  ·refine cc [2, 5] [(some (AObj.cells false [np, np, (C.ref 1 0), (C.ref 2 0)])), (o_vdisk_Disk_03 false (C.mp 3) np r1.2.2), (o_dossierref03_Disk_0 false (C.own 6 0 r4.2.2.L.length 3) r4.2.2), (om_ e_vdisk_file r1.2.2.files), none, none, (or_ e_dossierref03_File r4.2.2.L)] (D.tup [(sc (.pointer none)), (si r4.2.1)]) F.ca_51 rfl rfl (ac (.one (.ref rfl)) (ac (.one .imm) an)) (ac (.cells (ac (.own rfl) (ac .sc (ac .sc (ac .sc an))))) (ac (.cells (lend_row _)) an)) (Meets.eqs (optE_none c5) (optE_none c5) (dossierref04_Open_51.meets _ p2 a1 r4 er4)) (s_move (d := (D.tup [(sc (.pointer none)), (si r4.2.1)])) rfl (s_extract (d := (sc (.pointer none))) rfl rfl (s_extract (d := (si r4.2.1)) rfl rfl (s_assign (d := (sc (.pointer none))) rfl (s_assign (d := (si r4.2.1)) rfl (AWops.nil (AW.seq (AW.region ?_))))))))
   refine s_move (d := (rf 0 0)) rfl (s_move (d := (rf 0 0)) rfl (s_move (d := (sc (.pointer none))) rfl (s_move (d := (sc (.pointer none))) rfl (s_nilCheck (d := (rf 0 0)) rfl (.inl ⟨_, _, rfl⟩) (s_fieldRef F.fo_57_0 (by decide) rfl ?_)))))
   refine s_store (cs' := [np, np, (C.ref 1 0), (C.ref 2 0)]) rfl rfl rfl (List.cons_ne_nil _ _) rfl F.sz_23 (nl rfl) rfl (s_nilCheck (d := (rf 0 0)) rfl (.inl ⟨_, _, rfl⟩) (s_fieldRef F.fo_57_1 (by decide) rfl (s_store (cs' := [np, np, (C.ref 1 0), (C.ref 2 0)]) rfl rfl rfl (List.cons_ne_nil _ _) rfl F.sz_55 (nl rfl) rfl (AWops.nil (AW.seq (AW.region (s_move (d := (si r1.2.1)) rfl (s_move (d := (si r4.2.1)) rfl ?_))))))))
   refine s_binI (v := (.bool (r1.2.1 == r4.2.1))) rfl rfl rfl (s_assign (d := (sb (r1.2.1 == r4.2.1))) rfl (AWops.nil (AW.ret ?_)))
   obtain rfl := Option.some.inj h
   exact ⟨_, rfl, (wg 5 [0, 1, 2, 3, 4, 6] [] rfl (le_upd (le_top _) (o1 .sc)) (ac (.cells id (ac .sc (ac .sc (ac (.ref rfl) (ac (.ref rfl) an))))) (ac (qs rfl) (ac (qo rfl) (ac .map (ac (.none _) (ac (.cells id (all2_row _)) an)))))))⟩
  ·refine cc [2, 5] [(some (AObj.cells false [np, np, (C.ref 1 0), (C.ref 2 0)])), (o_vdisk_Disk_03 false (C.mp 3) np r1.2.2), (o_dossierref03_Disk_0 false (C.own 6 0 r4.2.2.L.length 3) r4.2.2), (om_ e_vdisk_file r1.2.2.files), none, none, (or_ e_dossierref03_File r4.2.2.L), (o_dossierref04_Journal_0 true (C.ref 2 0) y6)] (D.tup [(rf 7 0), (si r4.2.1)]) F.ca_51 rfl rfl (ac (.one (.ref rfl)) (ac (.one .imm) an)) (ac (.cells (ac (.own rfl) (ac .sc (ac .sc (ac .sc an))))) (ac (.cells (lend_row _)) an)) (Meets.eqs (optE_some c5) (optE_some c5) (dossierref04_Open_51.meets _ p2 a1 r4 er4)) (s_move (d := (D.tup [(rf 7 0), (si r4.2.1)])) rfl (s_extract (d := (rf 7 0)) rfl rfl (s_extract (d := (si r4.2.1)) rfl rfl (s_assign (d := (rf 7 0)) rfl (s_assign (d := (si r4.2.1)) rfl (AWops.nil (AW.seq (AW.region ?_))))))))
   refine s_move (d := (rf 0 0)) rfl (s_move (d := (rf 0 0)) rfl (s_move (d := (sc (.pointer none))) rfl (s_move (d := (rf 7 0)) rfl (s_nilCheck (d := (rf 0 0)) rfl (.inl ⟨_, _, rfl⟩) (s_fieldRef F.fo_57_0 (by decide) rfl ?_)))))
   refine s_store (cs' := [np, np, (C.ref 1 0), (C.ref 2 0)]) rfl rfl rfl (List.cons_ne_nil _ _) rfl F.sz_23 (nl rfl) rfl (s_nilCheck (d := (rf 0 0)) rfl (.inl ⟨_, _, rfl⟩) (s_fieldRef F.fo_57_1 (by decide) rfl (s_store (cs' := [np, (C.ref 7 0), (C.ref 1 0), (C.ref 2 0)]) rfl rfl rfl (List.cons_ne_nil _ _) rfl F.sz_55 (nl rfl) rfl (AWops.nil (AW.seq (AW.region (s_move (d := (si r1.2.1)) rfl (s_move (d := (si r4.2.1)) rfl ?_))))))))
   refine s_binI (v := (.bool (r1.2.1 == r4.2.1))) rfl rfl rfl (s_assign (d := (sb (r1.2.1 == r4.2.1))) rfl (AWops.nil (AW.ret ?_)))
   obtain rfl := Option.some.inj h
   exact ⟨_, rfl, (wg 5 [0, 1, 2, 3, 4, 7, 6] [] rfl (le_upd (le_top _) (o1 .sc)) (ac (.cells id (ac .sc (ac (.ref rfl) (ac (.ref rfl) (ac (.ref rfl) an))))) (ac (qs rfl) (ac (qo rfl) (ac .map (ac (.none _) (ac (.cells (fun _ => rfl) (ac (.ref rfl) (ac .same (ac .same (ac .sc an))))) (ac (.cells id (all2_row _)) an))))))))⟩
 ·refine cc [1, 3] [(some (AObj.cells false [np, np, (C.ref 1 0), (C.ref 2 0)])), (o_vdisk_Disk_03 false (C.mp 3) np r1.2.2), (o_dossierref03_Disk_0 false (C.own 5 0 p2.L.length 3) p2), (om_ e_vdisk_file r1.2.2.files), none, (or_ e_dossierref03_File p2.L), (o_journal_Journal_0 true (C.ref 1 0) y3)] (D.tup [(rf 6 0), (si r1.2.1)]) F.ca_12 rfl rfl (ac (.one (.ref rfl)) (ac (.one .imm) an)) (ac (.cells (ac (.mp rfl) (ac .sc (ac .sc (ac .sc (ac .sc an)))))) (ac .map an)) (Meets.eqs (optE_some c2) (optE_some c2) (journal_Open.meets _ p1 a1 r1 er1)) (s_move (d := (D.tup [(rf 6 0), (si r1.2.1)])) rfl (s_extract (d := (rf 6 0)) rfl rfl (s_extract (d := (si r1.2.1)) rfl rfl (s_assign (d := (rf 6 0)) rfl (s_assign (d := (si r1.2.1)) rfl (AWops.nil (AW.seq (AW.region ?_))))))))
  refine s_move (d := (rf 0 0)) rfl (s_nilCheck (d := (rf 0 0)) rfl (.inl ⟨_, _, rfl⟩) (s_fieldRef F.fo_57_3 (by decide) rfl (s_load1 (c' := (C.ref 2 0)) F.ag_51 rfl rfl (s_move (d := (ds_ e_u8 a1)) rfl ?_))))
  obtain ⟨r7, er7, h⟩ := bnd h
  rcases optH h with ⟨c8, h⟩ | ⟨y9, c8, h⟩
  ·refine cc [2, 5] [(some (AObj.cells false [np, np, (C.ref 1 0), (C.ref 2 0)])), (o_vdisk_Disk_03 false (C.mp 3) np r1.2.2), (o_dossierref03_Disk_0 false (C.own 7 0 r7.2.2.L.length 3) r7.2.2), (om_ e_vdisk_file r1.2.2.files), none, none, (o_journal_Journal_0 true (C.ref 1 0) y3), (or_ e_dossierref03_File r7.2.2.L)] (D.tup [(sc (.pointer none)), (si r7.2.1)]) F.ca_51 rfl rfl (ac (.one (.ref rfl)) (ac (.one .imm) an)) (ac (.cells (ac (.own rfl) (ac .sc (ac .sc (ac .sc an))))) (ac (.cells (lend_row _)) an)) (Meets.eqs (optE_none c8) (optE_none c8) (dossierref04_Open_51.meets _ p2 a1 r7 er7)) (s_move (d := (D.tup [(sc (.pointer none)), (si r7.2.1)])) rfl (s_extract (d := (sc (.pointer none))) rfl rfl (s_extract (d := (si r7.2.1)) rfl rfl (s_assign (d := (sc (.pointer none))) rfl (s_assign (d := (si r7.2.1)) rfl (AWops.nil (AW.seq (AW.region ?_))))))))
   refine s_move (d := (rf 0 0)) rfl (s_move (d := (rf 0 0)) rfl (s_move (d := (rf 6 0)) rfl (s_move (d := (sc (.pointer none))) rfl (s_nilCheck (d := (rf 0 0)) rfl (.inl ⟨_, _, rfl⟩) (s_fieldRef F.fo_57_0 (by decide) rfl ?_)))))
   refine s_store (cs' := [(C.ref 6 0), np, (C.ref 1 0), (C.ref 2 0)]) rfl rfl rfl (List.cons_ne_nil _ _) rfl F.sz_23 (nl rfl) rfl (s_nilCheck (d := (rf 0 0)) rfl (.inl ⟨_, _, rfl⟩) (s_fieldRef F.fo_57_1 (by decide) rfl (s_store (cs' := [(C.ref 6 0), np, (C.ref 1 0), (C.ref 2 0)]) rfl rfl rfl (List.cons_ne_nil _ _) rfl F.sz_55 (nl rfl) rfl (AWops.nil (AW.seq (AW.region (s_move (d := (si r1.2.1)) rfl (s_move (d := (si r7.2.1)) rfl ?_))))))))
   refine s_binI (v := (.bool (r1.2.1 == r7.2.1))) rfl rfl rfl (s_assign (d := (sb (r1.2.1 == r7.2.1))) rfl (AWops.nil (AW.ret ?_)))
   obtain rfl := Option.some.inj h
   exact ⟨_, rfl, (wg 5 [0, 1, 2, 3, 4, 6, 7] [] rfl (le_upd (le_top _) (o1 .sc)) (ac (.cells id (ac (.ref rfl) (ac .sc (ac (.ref rfl) (ac (.ref rfl) an))))) (ac (qs rfl) (ac (qo rfl) (ac .map (ac (.none _) (ac (.cells (fun _ => rfl) (ac (.ref rfl) (ac .same (ac .same (ac .sc an))))) (ac (.cells id (all2_row _)) an))))))))⟩
  ·refine cc [2, 5] [(some (AObj.cells false [np, np, (C.ref 1 0), (C.ref 2 0)])), (o_vdisk_Disk_03 false (C.mp 3) np r1.2.2), (o_dossierref03_Disk_0 false (C.own 7 0 r7.2.2.L.length 3) r7.2.2), (om_ e_vdisk_file r1.2.2.files), none, none, (o_journal_Journal_0 true (C.ref 1 0) y3), (or_ e_dossierref03_File r7.2.2.L), (o_dossierref04_Journal_0 true (C.ref 2 0) y9)] (D.tup [(rf 8 0), (si r7.2.1)]) F.ca_51 rfl rfl (ac (.one (.ref rfl)) (ac (.one .imm) an)) (ac (.cells (ac (.own rfl) (ac .sc (ac .sc (ac .sc an))))) (ac (.cells (lend_row _)) an)) (Meets.eqs (optE_some c8) (optE_some c8) (dossierref04_Open_51.meets _ p2 a1 r7 er7)) (s_move (d := (D.tup [(rf 8 0), (si r7.2.1)])) rfl (s_extract (d := (rf 8 0)) rfl rfl (s_extract (d := (si r7.2.1)) rfl rfl (s_assign (d := (rf 8 0)) rfl (s_assign (d := (si r7.2.1)) rfl (AWops.nil (AW.seq (AW.region ?_))))))))
   refine s_move (d := (rf 0 0)) rfl (s_move (d := (rf 0 0)) rfl (s_move (d := (rf 6 0)) rfl (s_move (d := (rf 8 0)) rfl (s_nilCheck (d := (rf 0 0)) rfl (.inl ⟨_, _, rfl⟩) (s_fieldRef F.fo_57_0 (by decide) rfl ?_)))))
   refine s_store (cs' := [(C.ref 6 0), np, (C.ref 1 0), (C.ref 2 0)]) rfl rfl rfl (List.cons_ne_nil _ _) rfl F.sz_23 (nl rfl) rfl (s_nilCheck (d := (rf 0 0)) rfl (.inl ⟨_, _, rfl⟩) (s_fieldRef F.fo_57_1 (by decide) rfl (s_store (cs' := [(C.ref 6 0), (C.ref 8 0), (C.ref 1 0), (C.ref 2 0)]) rfl rfl rfl (List.cons_ne_nil _ _) rfl F.sz_55 (nl rfl) rfl (AWops.nil (AW.seq (AW.region (s_move (d := (si r1.2.1)) rfl (s_move (d := (si r7.2.1)) rfl ?_))))))))
   refine s_binI (v := (.bool (r1.2.1 == r7.2.1))) rfl rfl rfl (s_assign (d := (sb (r1.2.1 == r7.2.1))) rfl (AWops.nil (AW.ret ?_)))
   obtain rfl := Option.some.inj h
   exact ⟨_, rfl, (wg 5 [0, 1, 2, 3, 4, 6, 8, 7] [] rfl (le_upd (le_top _) (o1 .sc)) (ac (.cells id (ac (.ref rfl) (ac (.ref rfl) (ac (.ref rfl) (ac (.ref rfl) an))))) (ac (qs rfl) (ac (qo rfl) (ac .map (ac (.none _) (ac (.cells (fun _ => rfl) (ac (.ref rfl) (ac .same (ac .same (ac .sc an))))) (ac (.cells (fun _ => rfl) (ac (.ref rfl) (ac .same (ac .same (ac .sc an))))) (ac (.cells id (all2_row _)) an)))))))))⟩
def vdisk_Disk_Names.f (k : Nat) (p0 : vdisk_Disk) : Option (List ByteArray) := (vdisk_Disk_none.f k p0).bind fun r1 => if (okK p0.files) = true then (some (sortK p0.files)) else none
theorem vdisk_Disk_Names.meets (k : Nat) (p0 : vdisk_Disk) (r : (List ByteArray)) (h : vdisk_Disk_Names.f k p0 = some r) : Meets Try.prog 35 [(rf 0 0)] [(o_vdisk_Disk_03 false (C.mp 1) np p0), (om_ e_vdisk_file p0.files)] (D.one (C.own 2 0 r.length 1)) [(o_vdisk_Disk_03 false (C.mp 1) np p0), (om_ e_vdisk_file p0.files), (ow_ e_str r)] := by
 unfold vdisk_Disk_Names.f at h
 refine Meets.of_body (n := 11) Try.func35 rfl rfl (nl rfl) fun x hx => ?_
 replace hx : x.k = 2 := hx
 show AW _ x _ _ ⟨11, fr0 [(rf 0 0)], [(o_vdisk_Disk_03 false (C.mp 1) np p0), (om_ e_vdisk_file p0.files)]⟩
 refine AW.seq (AW.region ?_)
 refine s_assign (d := (sc (.slice none 0 0))) rfl (AWops.nil (AW.seq (AW.seq (AW.region ?_))))
 refine s_move (d := (rf 0 0)) rfl ?_
 obtain ⟨r1, er1, h⟩ := bnd h
 have kr1 := vdisk_Disk_none.const er1
 subst kr1
 refine cc [0, 1] [(o_vdisk_Disk_03 false (C.mp 1) np p0), (om_ e_vdisk_file p0.files)] (sb false) F.ca_34 rfl rfl (ac (.one (.ref rfl)) an) (ac (.cells (ac (.mp rfl) (ac .sc (ac .sc (ac .sc (ac .sc an)))))) (ac .map an)) (vdisk_Disk_none.meets _ p0 false er1) (AWops.nil ?_)
 refine AW.cond_no rfl rfl (AW.skip (AW.seq (AW.region ?_)))
 refine s_move (d := (rf 0 0)) rfl (s_nilCheck (d := (rf 0 0)) rfl (.inl ⟨_, _, rfl⟩) (s_fieldRef F.fo_37_0 (by decide) rfl (s_load1 (c' := (C.mp 1)) F.ag_34 rfl rfl (cc [1] [(o_vdisk_Disk_03 false (C.mp 1) np p0), (om_ e_vdisk_file p0.files), (some (AObj.cells true [(C.mp 1)]))] (D.one (C.clo 82 [(C.ref 2 0)])) F.ca_62 rfl rfl (ac (.one (.mp rfl)) an) (ac .map an) (SK.keys _) ?_))))
 obtain ⟨c2, h⟩ := gdH h
 refine cc [2, 1] [(o_vdisk_Disk_03 false (C.mp 1) np p0), (om_ e_vdisk_file p0.files), (some (AObj.cells true [(C.mp 1)])), (some (AObj.cells true (rowC e_str (sortK p0.files))))] (D.one (C.own 3 0 ((sortK p0.files).length) 1)) F.ca_61 rfl rfl (ac (.one (LendC.cloL (ac (.ref rfl) an))) an) (ac (.cells (ac (.mp rfl) an)) (ac .map an)) (SK.sorted (b := true) (f := e_vdisk_file) c2) (s_assign (d := (D.one (C.own 3 0 ((sortK p0.files).length) 1))) rfl (AWops.nil (AW.ret ?_)))
 obtain rfl := Option.some.inj h
 exact ⟨_, rfl, (wg 2 [0, 1, 3] [] rfl (le_upd (le_top _) (o1 (.own rfl))) (ac (qs rfl) (ac .map (ac (.cells (fun _ => rfl) (all2_row _)) an))))⟩
mutual
def dossierref03_Disk_Names.l0 : Nat → (List ByteArray) → Int → dossierref03_Disk → Option (List ByteArray)
 | 0, _, _, _ => none
 | k + 1, x1, x2, p0 => if (decide (x2 < (p0.L.length : Int))) = true then ((rd p0.L x2).bind fun v4 => if (decide (x1.length + ([v4.Name] : List ByteArray).length ≤ 8796093022208)) = true then (dossierref03_Disk_Names.l0 k (x1 ++ ([v4.Name] : List ByteArray)) (IntKind.i64.wrap (x2 + 1)) p0) else none) else (some x1)
end
def dossierref03_Disk_Names.f (k : Nat) (p0 : dossierref03_Disk) : Option (List ByteArray) := dossierref03_Disk_Names.l0 k ([] : List ByteArray) 0 p0
theorem dossierref03_Disk_Names.meets (k : Nat) (p0 : dossierref03_Disk) (r : (List ByteArray)) (h : dossierref03_Disk_Names.f k p0 = some r) : Meets Try.prog 74 [(rf 0 0)] [(o_dossierref03_Disk_0 false (C.own 1 0 p0.L.length 3) p0), (or_ e_dossierref03_File p0.L)] (D.one (C.own 2 0 r.length 1)) [(o_dossierref03_Disk_0 false (C.own 1 0 p0.L.length 3) p0), (or_ e_dossierref03_File p0.L), (ow_ e_str r)] := by
 unfold dossierref03_Disk_Names.f at h
 refine Meets.of_body (n := 22) Try.func74 rfl rfl (nl rfl) fun x hx => ?_
 replace hx : x.k = 2 := hx
 show AW _ x _ _ ⟨22, fr0 [(rf 0 0)], [(o_dossierref03_Disk_0 false (C.own 1 0 p0.L.length 3) p0), (or_ e_dossierref03_File p0.L)]⟩
 refine AW.seq (AW.region ?_)
 refine s_assign (d := (sc (.slice none 0 0))) rfl (AWops.nil (AW.seq (AW.region ?_)))
 refine s_assign (d := (sc (.slice none 0 0))) rfl (AWops.nil (AW.seq (AW.seq (AW.region ?_))))
 refine s_move (d := (rf 0 0)) rfl (s_nilCheck (d := (rf 0 0)) rfl (.inl ⟨_, _, rfl⟩) (s_fieldRef F.fo_84_0 (by decide) rfl (s_load1 (c' := (C.own 1 0 p0.L.length 3)) F.ag_82 rfl rfl (s_len (n := p0.L.length) F.u_82 rfl (.inr ⟨(fun _ _ h => by cases h), ⟨_, rfl⟩⟩) (s_move (d := (si 0)) rfl (AWops.nil (AW.block ?_)))))))
 refine AW.loopw (st0 := ⟨22, (upd 22 (upd 22 (upd 22 (upd 22 topF 3 (D.one (C.own 2 0 ([] : List ByteArray).length 1))) 9 (D.one (C.own 1 0 p0.L.length 3))) 10 (si (p0.L.length : Int))) 11 (si 0)), [(o_dossierref03_Disk_0 false (C.own 1 0 p0.L.length 3) p0), (or_ e_dossierref03_File p0.L), (some (AObj.cells true (rowC e_str ([] : List ByteArray))))]⟩) (fun kv st => kv ≤ k ∧ ∃ (x1 : List ByteArray) (x2 : Int), dossierref03_Disk_Names.l0 kv x1 x2 p0 = some r ∧ st = ⟨22, (upd 22 (upd 22 (upd 22 (upd 22 topF 3 (D.one (C.own 2 0 x1.length 1))) 9 (D.one (C.own 1 0 p0.L.length 3))) 10 (si (p0.L.length : Int))) 11 (si x2)), [(o_dossierref03_Disk_0 false (C.own 1 0 p0.L.length 3) p0), (or_ e_dossierref03_File p0.L), (ow_ e_str x1)]⟩) (k := k) (Weak.trans (Weak.nil (sz := 1) (i := 3) rfl) (wg 2 [0, 1, 2] [] hx (le_upd (le_upd (le_upd (le_upd (le_top _) (o1 (.own rfl))) (o1 (.own rfl))) (o1 .sc)) (o1 .sc)) (ac (qo rfl) (ac (.cells id (all2_row _)) (ac (.cells (fun _ => rfl) an) an))))) ⟨Nat.le_refl _, ([] : List ByteArray), 0, h, rfl⟩ ?_
 rintro ql0 st ⟨hkl0, x1, x2, h, rfl⟩
 cases ql0 with
 | zero => exact absurd h (by simp [dossierref03_Disk_Names.l0])
 | succ ql0 =>
  replace h := (dossierref03_Disk_Names.l0.eq_2 _ _ _ _).symm.trans h
  refine AW.seq (AW.region ?_)
  refine s_binI (v := (.bool (decide (x2 < (p0.L.length : Int))))) rfl rfl rfl (AWops.nil (AW.seq ?_))
  rcases itH h with ⟨c3, h⟩ | ⟨c3, h⟩
  ·refine AW.cond_yes rfl c3 (AW.skip (AW.seq (AW.block (AW.seq (AW.region ?_)))))
   obtain ⟨v4, ev4, h⟩ := bnd h
   obtain ⟨pv4, qv4, gv4⟩ := rd_some ev4
   refine s_indexOwn (d := (D.one (C.ref 1 (0 + x2.toNat * 3)))) F.u_82 F.sz_109 rfl rfl pv4 qv4 rfl ?_
   obtain ⟨R5, hR5⟩ := row_at (f := e_dossierref03_File) (sz := 3) (o := 0) e_dossierref03_File_len gv4 (e_dossierref03_File_eq v4) (by decide)
   refine s_loadN (ds := (c_dossierref03_File v4)) F.ag_109 F.sz_109 (congrArg some hR5) rfl rfl (s_alloc (cs := [(ct (⟨#[]⟩ : ByteArray)), (C.p true (.v (.slice none 0 0))), (ci 0)]) F.z_109 rfl rfl (s_store (cs' := (c_dossierref03_File v4)) rfl rfl rfl (List.cons_ne_nil _ _) rfl F.sz_109 (nl rfl) rfl (AWops.nil (AW.region (s_move (d := (D.one (C.own 2 0 x1.length 1))) rfl (s_fieldRef F.fo_109_0 (by decide) rfl (s_load1 (c' := (ct v4.Name)) F.ag_9 rfl rfl ?_)))))))
   refine s_buildSlice (n := 1) (ps := [(0, (st_ v4.Name))]) (cs := rowC e_str ([v4.Name] : List ByteArray)) F.u_76 F.sz_9 F.z_9 rfl rfl (by decide) (by decide) rfl rfl ?_
   obtain ⟨c6, h⟩ := gdH h
   have dc6 := of_decide_eq_true c6
   refine t_append (xs := x1) (ys := ([v4.Name] : List ByteArray)) (zs := x1 ++ ([v4.Name] : List ByteArray)) (H' := [(o_dossierref03_Disk_0 false (C.own 1 0 p0.L.length 3) p0), (or_ e_dossierref03_File p0.L), none, (some (AObj.cells true (c_dossierref03_File v4))), (some (AObj.cells true (rowC e_str ([v4.Name] : List ByteArray)))), (some (AObj.cells true (rowC e_str (x1 ++ ([v4.Name] : List ByteArray)))))]) F.u_76 F.in_9 rfl e_str_len (.own rfl rfl) (.own rfl rfl) F.u_76 (by omega) (by omega) rfl rfl (s_assign (d := (D.one (C.own 5 0 ((x1 ++ ([v4.Name] : List ByteArray)).length) 1))) rfl (AWops.nil (AW.region (s_binI (v := (.int .i64 (IntKind.i64.wrap (x2 + 1)))) rfl rfl rfl (s_move (d := (si (IntKind.i64.wrap (x2 + 1)))) rfl (AWops.nil ?_))))))
   exact ⟨_, ⟨22, (upd 22 (upd 22 (upd 22 (upd 22 topF 3 (D.one (C.own 2 0 (x1 ++ ([v4.Name] : List ByteArray)).length 1))) 9 (D.one (C.own 1 0 p0.L.length 3))) 10 (si (p0.L.length : Int))) 11 (si (IntKind.i64.wrap (x2 + 1)))), [(o_dossierref03_Disk_0 false (C.own 1 0 p0.L.length 3) p0), (or_ e_dossierref03_File p0.L), (some (AObj.cells true (rowC e_str (x1 ++ ([v4.Name] : List ByteArray)))))]⟩, by omega, (wg 2 [0, 1, 5] [] hx (le_upd (le_upd (le_upd (le_upd (le_top _) (o1 (.own rfl))) (o1 (.own rfl))) (o1 .sc)) (o1 .sc)) (ac (qo rfl) (ac (.cells id (all2_row _)) (ac (.cells (fun _ => rfl) (all2_row _)) an)))), by omega, x1 ++ ([v4.Name] : List ByteArray), IntKind.i64.wrap (x2 + 1), h, rfl⟩
  ·refine AW.cond_no rfl c3 (AW.exit (AW.seq (AW.region ?_)))
   refine s_move (d := (D.one (C.own 2 0 x1.length 1))) rfl (s_assign (d := (D.one (C.own 2 0 x1.length 1))) rfl (AWops.nil (AW.ret ?_)))
   obtain rfl := Option.some.inj h
   exact ⟨_, rfl, (wg 2 [0, 1, 2] [] rfl (le_upd (le_top _) (o1 (.own rfl))) (ac (qo rfl) (ac (.cells id (all2_row _)) (ac (.cells (fun _ => rfl) (all2_row _)) an))))⟩
mutual
def slices_Equal_string_string.l0 : Nat → Int → (List ByteArray) → (List ByteArray) → Option Bool
 | 0, _, _, _ => none
 | k + 1, x2, a0, a1 => if (decide (x2 < (a0.length : Int))) = true then ((rd a0 x2).bind fun v4 => (rd a1 x2).bind fun v5 => if (v4.toList == v5.toList) = true then (slices_Equal_string_string.l0 k (IntKind.i64.wrap (x2 + 1)) a0 a1) else (some false)) else (some true)
end
def slices_Equal_string_string.f (k : Nat) (a0 : List ByteArray) (a1 : List ByteArray) : Option Bool := if ((a0.length : Int) != (a1.length : Int)) = true then (some false) else (slices_Equal_string_string.l0 k 0 a0 a1)
theorem slices_Equal_string_string.meets (k : Nat) (a0 : List ByteArray) (a1 : List ByteArray) (r : Bool) (h : slices_Equal_string_string.f k a0 a1 = some r) : Meets Try.prog 73 [(ds_ e_str a0), (ds_ e_str a1)] [] (sb r) [] := by
 unfold slices_Equal_string_string.f at h
 refine Meets.of_body (n := 26) Try.func73 rfl rfl (nl rfl) fun x hx => ?_
 replace hx : x.k = 0 := hx
 show AW _ x _ _ ⟨26, fr0 [(ds_ e_str a0), (ds_ e_str a1)], []⟩
 refine AW.seq (AW.region ?_)
 refine s_assign (d := (sb false)) rfl (AWops.nil (AW.seq (AW.seq (AW.region ?_))))
 refine s_move (d := (ds_ e_str a0)) rfl (s_len (n := a0.length) F.u_76 rfl (.inr ⟨(fun _ _ h => by cases h), ⟨_, rfl⟩⟩) (s_move (d := (ds_ e_str a1)) rfl (s_len (n := a1.length) F.u_76 rfl (.inr ⟨(fun _ _ h => by cases h), ⟨_, rfl⟩⟩) (s_binI (v := (.bool ((a0.length : Int) != (a1.length : Int)))) rfl rfl rfl (AWops.nil ?_)))))
 rcases itH h with ⟨c1, h⟩ | ⟨c1, h⟩
 ·refine AW.cond_yes rfl c1 (AW.seq (AW.region ?_))
  refine s_assign (d := (sb false)) rfl (AWops.nil (AW.ret ?_))
  obtain rfl := Option.some.inj h
  exact ⟨_, rfl, (wg 0 [] [] rfl (le_upd (le_top _) (o1 .sc)) an)⟩
 ·refine AW.cond_no rfl c1 (AW.skip (AW.seq (AW.seq (AW.region ?_))))
  refine s_move (d := (ds_ e_str a0)) rfl (s_len (n := a0.length) F.u_76 rfl (.inr ⟨(fun _ _ h => by cases h), ⟨_, rfl⟩⟩) (s_move (d := (si 0)) rfl (AWops.nil (AW.block ?_))))
  refine AW.loopw (st0 := ⟨26, (upd 26 (upd 26 (upd 26 (upd 26 topF 0 (ds_ e_str a0)) 1 (ds_ e_str a1)) 12 (si (a0.length : Int))) 13 (si 0)), []⟩) (fun kv st => kv ≤ k ∧ ∃ (x2 : Int), slices_Equal_string_string.l0 kv x2 a0 a1 = some r ∧ st = ⟨26, (upd 26 (upd 26 (upd 26 (upd 26 topF 0 (ds_ e_str a0)) 1 (ds_ e_str a1)) 12 (si (a0.length : Int))) 13 (si x2)), []⟩) (k := k) (wg 0 [] [] hx (le_upd (le_upd (le_upd (le_upd (le_top _) (o1 .same)) (o1 .same)) (o1 .sc)) (o1 .sc)) an) ⟨Nat.le_refl _, 0, h, rfl⟩ ?_
  rintro ql0 st ⟨hkl0, x2, h, rfl⟩
  cases ql0 with
  | zero => exact absurd h (by simp [slices_Equal_string_string.l0])
  | succ ql0 =>
   replace h := (slices_Equal_string_string.l0.eq_2 _ _ _ _).symm.trans h
   refine AW.seq (AW.region ?_)
   refine s_binI (v := (.bool (decide (x2 < (a0.length : Int))))) rfl rfl rfl (AWops.nil (AW.seq ?_))
   rcases itH h with ⟨c3, h⟩ | ⟨c3, h⟩
   ·refine AW.cond_yes rfl c3 (AW.skip (AW.seq (AW.block (AW.seq (AW.region ?_)))))
    refine s_move (d := (si x2)) rfl (s_assign (d := (si x2)) rfl (AWops.nil (AW.seq ?_)))
    refine AW.weak (st' := ⟨26, (upd 26 (upd 26 (upd 26 (upd 26 (upd 26 topF 0 (ds_ e_str a0)) 1 (ds_ e_str a1)) 5 (si x2)) 12 (si (a0.length : Int))) 13 (si x2)), []⟩) (wg 0 [] [] hx (le_upd (le_upd (le_upd (le_upd (le_upd (le_top _) (o1 .same)) (o1 .same)) (o1 .sc)) (o1 .sc)) (o1 .sc)) an) ?_
    obtain ⟨v4, ev4, h⟩ := bnd h
    obtain ⟨pv4, qv4, gv4⟩ := rd_some ev4
    obtain ⟨v5, ev5, h⟩ := bnd h
    obtain ⟨pv5, qv5, gv5⟩ := rd_some ev5
    refine AW.draw (n := 26) (L := 0) [(ft 0 16 (ds_ e_str a0) [(0, (ds_ e_str a0))]), (ft 1 17 (si x2) [(5, (si x2))]), (ft 2 18 (D.one (C.peek false [P.v (.string v4)])) [(16, (ds_ e_str a0)), (17, (si x2))]), (ft 3 19 (st_ v4) [(18, (D.one (C.peek false [P.v (.string v4)])))]), (ft 4 20 (ds_ e_str a1) [(1, (ds_ e_str a1))]), (ft 5 21 (si x2) [(5, (si x2))]), (ft 6 22 (D.one (C.peek false [P.v (.string v5)])) [(20, (ds_ e_str a1)), (21, (si x2))]), (ft 7 23 (st_ v5) [(22, (D.one (C.peek false [P.v (.string v5)])))]), (ft 8 24 (sb (!(v4.toList == v5.toList))) [(19, (st_ v4)), (23, (st_ v5))])] [[], [], [0, 1], [0, 1, 2], [], [], [4, 5], [4, 5, 6], (.range 8)] (nl rfl) [0, 0, 1, 2, 0, 0, 1, 2, 3] rfl (TK := []) rfl AllK.nil' (by repeat (first | refine fC ⟨?_, ?_⟩ ?_ | refine sC rfl ?_ | refine hC rfl ?_ | trivial)) ?_ ?_
    ·refine y8 ?_ ?_ ?_ ?_ ?_ ?_ ?_ ?_ (pC ?_ yN)
     ·intro K _ f w u k
      show Wp K ⟨26, (upd 26 f 0 (ds_ e_str a0)), _⟩
      refine s_move (d := (ds_ e_str a0)) rfl k
     ·intro K _ f w u k
      show Wp K ⟨26, (upd 26 f 5 (si x2)), _⟩
      refine s_move (d := (si x2)) rfl k
     ·intro K _ f w u k
      show Wp K ⟨26, (upd 26 (upd 26 f 17 (si x2)) 16 (ds_ e_str a0)), []⟩
      refine s_indexImm (ps := [P.v (.string v4)]) F.u_76 F.sz_9 rfl rfl pv4 qv4 (flat_at e_str_len gv4 (e_str_eq v4)) k
     ·intro K _ f w u k
      show Wp K ⟨26, (upd 26 f 18 (D.one (C.peek false [P.v (.string v4)]))), []⟩
      refine s_load1 (c' := (ct v4)) F.ag_9 rfl rfl k
     ·intro K _ f w u k
      show Wp K ⟨26, (upd 26 f 1 (ds_ e_str a1)), _⟩
      refine s_move (d := (ds_ e_str a1)) rfl k
     ·intro K _ f w u k
      show Wp K ⟨26, (upd 26 f 5 (si x2)), _⟩
      refine s_move (d := (si x2)) rfl k
     ·intro K _ f w u k
      show Wp K ⟨26, (upd 26 (upd 26 f 21 (si x2)) 20 (ds_ e_str a1)), []⟩
      refine s_indexImm (ps := [P.v (.string v5)]) F.u_76 F.sz_9 rfl rfl pv5 qv5 (flat_at e_str_len gv5 (e_str_eq v5)) k
     ·intro K _ f w u k
      show Wp K ⟨26, (upd 26 f 22 (D.one (C.peek false [P.v (.string v5)]))), []⟩
      refine s_load1 (c' := (ct v5)) F.ag_9 rfl rfl k
     ·intro K _ f w u k
      show Wp K ⟨26, (upd 26 (upd 26 f 23 (st_ v5)) 19 (st_ v4)), []⟩
      refine s_binS (v := (.bool (!(v4.toList == v5.toList)))) rfl rfl rfl k
    ·refine AWops.weak (st' := ⟨26, (upd 26 (upd 26 (upd 26 (upd 26 (upd 26 topF 0 (ds_ e_str a0)) 1 (ds_ e_str a1)) 12 (si (a0.length : Int))) 13 (si x2)) 24 (sb (!(v4.toList == v5.toList)))), []⟩) (wg 0 [] [] hx (le_upd (le_upd (le_upd (le_upd (le_upd (le_top _) (o1 .same)) (o1 .same)) (o1 .sc)) (o1 .sc)) (o1 .sc)) an) (AWops.nil ?_)
     rcases itH h with ⟨c6, h⟩ | ⟨c6, h⟩
     ·refine AW.cond_no rfl (by rw [c6] <;> rfl) (AW.skip (AW.region ?_))
      refine s_binI (v := (.int .i64 (IntKind.i64.wrap (x2 + 1)))) rfl rfl rfl (s_move (d := (si (IntKind.i64.wrap (x2 + 1)))) rfl (AWops.nil ?_))
      exact ⟨_, ⟨26, (upd 26 (upd 26 (upd 26 (upd 26 topF 0 (ds_ e_str a0)) 1 (ds_ e_str a1)) 12 (si (a0.length : Int))) 13 (si (IntKind.i64.wrap (x2 + 1)))), []⟩, by omega, (wg 0 [] [] hx (le_upd (le_upd (le_upd (le_upd (le_top _) (o1 .same)) (o1 .same)) (o1 .sc)) (o1 .sc)) an), by omega, IntKind.i64.wrap (x2 + 1), h, rfl⟩
     ·refine AW.cond_yes rfl (by rw [c6] <;> rfl) (AW.seq (AW.region ?_))
      refine s_assign (d := (sb false)) rfl (AWops.nil (AW.ret ?_))
      obtain rfl := Option.some.inj h
      exact ⟨_, rfl, (wg 0 [] [] rfl (le_upd (le_top _) (o1 .sc)) an)⟩
   ·refine AW.cond_no rfl c3 (AW.exit (AW.seq (AW.region ?_)))
    refine s_assign (d := (sb true)) rfl (AWops.nil (AW.ret ?_))
    obtain rfl := Option.some.inj h
    exact ⟨_, rfl, (wg 0 [] [] rfl (le_upd (le_top _) (o1 .sc)) an)⟩
def vdisk_Disk_Used.f (k : Nat) (p0 : vdisk_Disk) : Option Int := (vdisk_Disk_none.f k p0).bind fun r1 => some p0.used
theorem vdisk_Disk_Used.meets (k : Nat) (p0 : vdisk_Disk) (r : Int) (h : vdisk_Disk_Used.f k p0 = some r) : Meets Try.prog 75 [(rf 0 0)] [(o_vdisk_Disk_03 false (C.mp 1) np p0), (om_ e_vdisk_file p0.files)] (si r) [(o_vdisk_Disk_03 false (C.mp 1) np p0), (om_ e_vdisk_file p0.files)] := by
 unfold vdisk_Disk_Used.f at h
 refine Meets.of_body (n := 9) Try.func75 rfl rfl (nl rfl) fun x hx => ?_
 replace hx : x.k = 2 := hx
 show AW _ x _ _ ⟨9, fr0 [(rf 0 0)], [(o_vdisk_Disk_03 false (C.mp 1) np p0), (om_ e_vdisk_file p0.files)]⟩
 refine AW.seq (AW.region ?_)
 refine s_assign (d := (si 0)) rfl (AWops.nil (AW.seq (AW.seq (AW.region ?_))))
 refine s_move (d := (rf 0 0)) rfl ?_
 obtain ⟨r1, er1, h⟩ := bnd h
 have kr1 := vdisk_Disk_none.const er1
 subst kr1
 refine cc [0, 1] [(o_vdisk_Disk_03 false (C.mp 1) np p0), (om_ e_vdisk_file p0.files)] (sb false) F.ca_34 rfl rfl (ac (.one (.ref rfl)) an) (ac (.cells (ac (.mp rfl) (ac .sc (ac .sc (ac .sc (ac .sc an)))))) (ac .map an)) (vdisk_Disk_none.meets _ p0 false er1) (AWops.nil ?_)
 refine AW.cond_no rfl rfl (AW.skip (AW.seq (AW.region ?_)))
 refine s_move (d := (rf 0 0)) rfl (s_nilCheck (d := (rf 0 0)) rfl (.inl ⟨_, _, rfl⟩) (s_fieldRef F.fo_37_2 (by decide) rfl (s_load1 (c' := (ci p0.used)) F.ag_3 rfl rfl (s_assign (d := (si p0.used)) rfl (AWops.nil (AW.ret ?_))))))
 obtain rfl := Option.some.inj h
 exact ⟨_, rfl, (wg 2 [0, 1] [] rfl (le_upd (le_top _) (o1 .sc)) (ac (qs rfl) (ac .map an)))⟩
def vdisk_Disk_Dead.f (k : Nat) (p0 : vdisk_Disk) : Option Bool := (vdisk_Disk_none.f k p0).bind fun r1 => some p0.dead
theorem vdisk_Disk_Dead.meets (k : Nat) (p0 : vdisk_Disk) (r : Bool) (h : vdisk_Disk_Dead.f k p0 = some r) : Meets Try.prog 76 [(rf 0 0)] [(o_vdisk_Disk_03 false (C.mp 1) np p0), (om_ e_vdisk_file p0.files)] (sb r) [(o_vdisk_Disk_03 false (C.mp 1) np p0), (om_ e_vdisk_file p0.files)] := by
 unfold vdisk_Disk_Dead.f at h
 refine Meets.of_body (n := 11) Try.func76 rfl rfl (nl rfl) fun x hx => ?_
 replace hx : x.k = 2 := hx
 show AW _ x _ _ ⟨11, fr0 [(rf 0 0)], [(o_vdisk_Disk_03 false (C.mp 1) np p0), (om_ e_vdisk_file p0.files)]⟩
 refine AW.seq (AW.region ?_)
 refine s_assign (d := (sb false)) rfl (AWops.nil (AW.seq (AW.region ?_)))
 refine s_move (d := (rf 0 0)) rfl ?_
 obtain ⟨r1, er1, h⟩ := bnd h
 have kr1 := vdisk_Disk_none.const er1
 subst kr1
 refine cc [0, 1] [(o_vdisk_Disk_03 false (C.mp 1) np p0), (om_ e_vdisk_file p0.files)] (sb false) F.ca_34 rfl rfl (ac (.one (.ref rfl)) an) (ac (.cells (ac (.mp rfl) (ac .sc (ac .sc (ac .sc (ac .sc an)))))) (ac .map an)) (vdisk_Disk_none.meets _ p0 false er1) (s_move (d := (sb false)) rfl ?_)
 refine AWops.guard_yes rfl (nl rfl) rfl rfl ?_
 refine s_move (d := (rf 0 0)) rfl ?_
 refine AWops.guard_yes rfl (nl rfl) rfl rfl ?_
 refine s_nilCheck (d := (rf 0 0)) rfl (.inl ⟨_, _, rfl⟩) ?_
 refine AWops.guard_yes rfl (nl rfl) rfl rfl ?_
 refine s_fieldRef F.fo_37_4 (by decide) rfl ?_
 refine AWops.guard_yes rfl (nl rfl) rfl rfl ?_
 refine s_load1 (c' := (cb p0.dead)) F.ag_4 rfl rfl (s_pick_no (d := (sb p0.dead)) rfl rfl rfl (s_assign (d := (sb p0.dead)) rfl (AWops.nil (AW.ret ?_))))
 obtain rfl := Option.some.inj h
 exact ⟨_, rfl, (wg 2 [0, 1] [] rfl (le_upd (le_top _) (o1 .sc)) (ac (qs rfl) (ac .map an)))⟩
def bytes_Equal.f (k : Nat) (a0 : List Int) (a1 : List Int) : Option Bool := some ((ofNums a0).toList == (ofNums a1).toList)
theorem bytes_Equal.meets (k : Nat) (a0 : List Int) (a1 : List Int) (r : Bool) (h : bytes_Equal.f k a0 a1 = some r) : Meets Try.prog 17 [(ds_ e_u8 a0), (ds_ e_u8 a1)] [] (sb r) [] := by
 unfold bytes_Equal.f at h
 refine Meets.of_body (n := 10) Try.func17 rfl rfl (nl rfl) fun x hx => ?_
 replace hx : x.k = 0 := hx
 show AW _ x _ _ ⟨10, fr0 [(ds_ e_u8 a0), (ds_ e_u8 a1)], []⟩
 refine AW.seq (AW.region ?_)
 refine s_assign (d := (sb false)) rfl (AWops.nil (AW.seq (AW.region ?_)))
 refine s_move (d := (ds_ e_u8 a0)) rfl (t_toStr (xs := a0) F.u_22 F.u_5 F.u_9 .imm (s_move (d := (ds_ e_u8 a1)) rfl (t_toStr (xs := a1) F.u_22 F.u_5 F.u_9 .imm (s_binS (v := (.bool ((ofNums a0).toList == (ofNums a1).toList))) rfl rfl rfl (s_assign (d := (sb ((ofNums a0).toList == (ofNums a1).toList))) rfl (AWops.nil (AW.ret ?_)))))))
 obtain rfl := Option.some.inj h
 exact ⟨_, rfl, (wg 0 [] [] rfl (le_upd (le_top _) (o1 .sc)) an)⟩
mutual
def dossierplain_Same.l0 : Nat → Int → vdisk_Disk → dossierref03_Disk → Option Bool
 | 0, _, _, _ => none
 | k + 1, x10, p0, p1 => if (decide (x10 < (p1.L.length : Int))) = true then ((rd p1.L x10).bind fun v12 => (vdisk_Disk_Read.f k p0 v12.Name).bind fun r14 => (dossierref03_Disk_Read.f k p1 v12.Name).bind fun r15 => if (r14.2 != r15.2) = true then (some false) else ((bytes_Equal.f k r14.1 r15.1).bind fun r17 => if r17 = true then (dossierplain_Same.l0 k (IntKind.i64.wrap (x10 + 1)) p0 p1) else (some false))) else (some true)
end
def dossierplain_Same.f (k : Nat) (p0 : vdisk_Disk) (p1 : dossierref03_Disk) : Option Bool := (vdisk_Disk_Names.f k p0).bind fun r1 => (dossierref03_Disk_Names.f k p1).bind fun r2 => (slices_Equal_string_string.f k r1 r2).bind fun r3 => if r3 = true then ((vdisk_Disk_Used.f k p0).bind fun r5 => (dossierref03_Disk_Used.f k p1).bind fun r6 => if (r5 != r6) = true then (some false) else ((vdisk_Disk_Dead.f k p0).bind fun r8 => if (r8 == p1.Off) = true then (dossierplain_Same.l0 k 0 p0 p1) else (some false))) else (some false)
theorem dossierplain_Same.meets (k : Nat) (p0 : vdisk_Disk) (p1 : dossierref03_Disk) (r : Bool) (h : dossierplain_Same.f k p0 p1 = some r) : Meets Try.prog 52 [(rf 0 0), (rf 1 0)] [(o_vdisk_Disk_03 false (C.mp 2) np p0), (o_dossierref03_Disk_0 false (C.own 3 0 p1.L.length 3) p1), (om_ e_vdisk_file p0.files), (or_ e_dossierref03_File p1.L)] (sb r) [(o_vdisk_Disk_03 false (C.mp 2) np p0), (o_dossierref03_Disk_0 false (C.own 3 0 p1.L.length 3) p1), (om_ e_vdisk_file p0.files), (or_ e_dossierref03_File p1.L)] := by
 unfold dossierplain_Same.f at h
 refine Meets.of_body (n := 66) Try.func52 rfl rfl (nl rfl) fun x hx => ?_
 replace hx : x.k = 4 := hx
 show AW _ x _ _ ⟨66, fr0 [(rf 0 0), (rf 1 0)], [(o_vdisk_Disk_03 false (C.mp 2) np p0), (o_dossierref03_Disk_0 false (C.own 3 0 p1.L.length 3) p1), (om_ e_vdisk_file p0.files), (or_ e_dossierref03_File p1.L)]⟩
 refine AW.seq (AW.region ?_)
 refine s_assign (d := (sb false)) rfl (AWops.nil (AW.seq (AW.seq ?_)))
 refine AW.weak (st' := ⟨66, (upd 66 (upd 66 topF 0 (rf 0 0)) 1 (rf 1 0)), [(o_vdisk_Disk_03 false (C.mp 2) np p0), (o_dossierref03_Disk_0 false (C.own 3 0 p1.L.length 3) p1), (om_ e_vdisk_file p0.files), (or_ e_dossierref03_File p1.L)]⟩) (wg 4 [0, 1, 2, 3] [] hx (le_upd (le_upd (le_top _) (o1 (.ref rfl))) (o1 (.ref rfl))) (ac (qs rfl) (ac (qo rfl) (ac .map (ac (.cells id (all2_row _)) an))))) ?_
 obtain ⟨r1, er1, h⟩ := bnd h
 obtain ⟨r2, er2, h⟩ := bnd h
 obtain ⟨r3, er3, h⟩ := bnd h
 rcases itH h with ⟨c4, h⟩ | ⟨c4, h⟩
 ·obtain ⟨r5, er5, h⟩ := bnd h
  obtain ⟨r6, er6, h⟩ := bnd h
  rcases itH h with ⟨c7, h⟩ | ⟨c7, h⟩
  ·refine AW.draw (n := 66) (L := 10) [(ft 0 11 (rf 0 0) [(0, (rf 0 0))]), (1, ⟨some 12, (D.one (C.own 4 0 r1.length 1)), [(11, (rf 0 0))], [(0, (o_vdisk_Disk_03 false (C.mp 2) np p0)), (2, (om_ e_vdisk_file p0.files))], [(4, (ow_ e_str r1))], some 4⟩), (ft 2 13 (rf 1 0) [(1, (rf 1 0))]), (3, ⟨some 14, (D.one (C.own 5 0 r2.length 1)), [(13, (rf 1 0))], [(1, (o_dossierref03_Disk_0 false (C.own 3 0 p1.L.length 3) p1)), (3, (or_ e_dossierref03_File p1.L))], [(5, (ow_ e_str r2))], some 5⟩), (4, ⟨some 15, (sb r3), [(12, (D.one (C.own 4 0 r1.length 1))), (14, (D.one (C.own 5 0 r2.length 1)))], [(4, (ow_ e_str r1)), (5, (ow_ e_str r2))], [], none⟩), (ft 5 16 (sb (!r3)) [(15, (sb r3))]), (ft 6 17 (sb (!r3)) [(16, (sb (!r3)))]), (ft 7 18 (rf 0 0) [(0, (rf 0 0)), (17, (sb (!r3)))]), (8, ⟨some 19, (si r5), [(17, (sb (!r3))), (18, (rf 0 0))], [(0, (o_vdisk_Disk_03 false (C.mp 2) np p0)), (2, (om_ e_vdisk_file p0.files))], [], none⟩), (ft 9 20 (rf 1 0) [(1, (rf 1 0)), (17, (sb (!r3)))]), (10, ⟨some 21, (si r6), [(17, (sb (!r3))), (20, (rf 1 0))], [(1, (o_dossierref03_Disk_0 false (C.own 3 0 p1.L.length 3) p1)), (3, (or_ e_dossierref03_File p1.L))], [], none⟩), (ft 11 22 (sb (r5 != r6)) [(17, (sb (!r3))), (19, (si r5)), (21, (si r6))]), (ft 12 23 (sb (r5 != r6)) [(17, (sb (!r3))), (22, (sb (r5 != r6)))]), (ft 13 24 (sb (r5 != r6)) [(23, (sb (r5 != r6)))]), (ft 14 25 (D.tup []) [(0, (rf 0 0)), (24, (sb (r5 != r6)))]), (ft 15 26 (D.tup []) [(24, (sb (r5 != r6)))]), (ft 16 27 (D.tup []) [(24, (sb (r5 != r6)))]), (ft 17 28 (D.tup []) [(24, (sb (r5 != r6)))]), (ft 18 29 (D.tup []) [(24, (sb (r5 != r6)))]), (ft 19 30 (D.tup []) [(24, (sb (r5 != r6)))]), (ft 20 31 (D.tup []) [(24, (sb (r5 != r6)))]), (ft 21 32 (sb true) [(24, (sb (r5 != r6)))])] [[], [0], [], [0, 1, 2], [0, 1, 2, 3], (.range 5), (.range 6), (.range 7), (.range 8), (.range 7), (.range 10), (.range 11), (.range 12), (.range 13), (.range 14), (.range 15), (.range 14), (.range 14 ++ [16]), (.range 14 ++ [16, 17]), (.range 14 ++ [16, 17, 18]), (.range 20), (.range 21)] (nl rfl) [0, 1, 0, 2, 3, 4, 5, 6, 7, 6, 8, 9, 10, 11, 12, 13, 12, 13, 14, 15, 16, 17] rfl (TK := [(1, 4), (3, 5)]) rfl (AllK.cons' ⟨(tk_upd (tk_upd tk_top rfl) rfl), (tC rfl (tC rfl (tC rfl (tC (tkO_row _) AllT.nil')))), (by repeat (first | refine fC (.inl rfl) ?_ | refine fC (.inr rfl) ?_ | refine fC (.inr (by unfold tkFoot; simp only [List.all_cons, List.all_nil, tkO_row, Bool.and_true, Bool.true_and]; rfl)) ?_ | trivial))⟩ (AllK.cons' ⟨(tk_upd (tk_upd tk_top rfl) rfl), (tC rfl (tC rfl (tC rfl (tC (tkO_row _) AllT.nil')))), (by repeat (first | refine fC (.inl rfl) ?_ | refine fC (.inr rfl) ?_ | refine fC (.inr (by unfold tkFoot; simp only [List.all_cons, List.all_nil, tkO_row, Bool.and_true, Bool.true_and]; rfl)) ?_ | trivial))⟩ AllK.nil')) (by repeat (first | refine fC ⟨?_, ?_⟩ ?_ | refine sC rfl ?_ | refine hC rfl ?_ | trivial)) ?_ ?_
   ·refine y8 ?_ ?_ ?_ ?_ ?_ ?_ ?_ ?_ (y8 ?_ ?_ ?_ ?_ ?_ ?_ ?_ ?_ (y4 ?_ ?_ ?_ ?_ (y2 ?_ ?_ yN)))
    ·intro K _ f w u k
     show Wp K ⟨66, (upd 66 f 0 (rf 0 0)), _⟩
     refine s_move (d := (rf 0 0)) rfl k
    ·intro K _ f w u k
     show Wp K ⟨66, (upd 66 f 11 (rf 0 0)), [(o_vdisk_Disk_03 false (C.mp 2) np p0), _, (om_ e_vdisk_file p0.files), _, _, _, _, _, _, _]⟩
     refine cc [0, 2] [(o_vdisk_Disk_03 false (C.mp 2) np p0), (w 1), (om_ e_vdisk_file p0.files), (w 3), (w 4), (w 5), (w 6), (w 7), (w 8), (w 9), (ow_ e_str r1)] (D.one (C.own 10 0 r1.length 1)) F.ca_35 rfl rfl (ac (.one (.ref rfl)) an) (ac (.cells (ac (.mp rfl) (ac .sc (ac .sc (ac .sc (ac .sc an)))))) (ac .map an)) (vdisk_Disk_Names.meets _ p0 r1 er1) ?_
     refine AWops.weak (st' := ⟨66, (upd 66 (upd 66 f 11 (rf 0 0)) 12 (D.one (C.own 4 0 r1.length 1))), [(o_vdisk_Disk_03 false (C.mp 2) np p0), (w 1), (om_ e_vdisk_file p0.files), (w 3), (ow_ e_str r1), (w 5), (w 6), (w 7), (w 8), (w 9)]⟩) (wg 4 [0, 1, 2, 3, 10, 5, 6, 7, 8, 9] [] hx (le_upd2 (le_ok (p := 4) (L := 10) rfl (u 4 rfl).1) (o1 (.own rfl))) (ac (qs rfl) (ac (oq 4 10 (u 4 rfl) 1) (ac .map (ac (oq 4 10 (u 4 rfl) 3) (ac (.cells (fun _ => rfl) (all2_row _)) (ac (oq 4 10 (u 4 rfl) 5) (ac (oq 4 10 (u 4 rfl) 6) (ac (oq 4 10 (u 4 rfl) 7) (ac (oq 4 10 (u 4 rfl) 8) (ac (oq 4 10 (u 4 rfl) 9) an))))))))))) k
    ·intro K _ f w u k
     show Wp K ⟨66, (upd 66 f 1 (rf 1 0)), _⟩
     refine s_move (d := (rf 1 0)) rfl k
    ·intro K _ f w u k
     show Wp K ⟨66, (upd 66 f 13 (rf 1 0)), [_, (o_dossierref03_Disk_0 false (C.own 3 0 p1.L.length 3) p1), _, (or_ e_dossierref03_File p1.L), _, _, _, _, _, _]⟩
     refine cc [1, 3] [(w 0), (o_dossierref03_Disk_0 false (C.own 3 0 p1.L.length 3) p1), (w 2), (or_ e_dossierref03_File p1.L), (w 4), (w 5), (w 6), (w 7), (w 8), (w 9), (ow_ e_str r2)] (D.one (C.own 10 0 r2.length 1)) F.ca_74 rfl rfl (ac (.one (.ref rfl)) an) (ac (.cells (ac (.own rfl) (ac .sc (ac .sc (ac .sc an))))) (ac (.cells (lend_row _)) an)) (dossierref03_Disk_Names.meets _ p1 r2 er2) ?_
     refine AWops.weak (st' := ⟨66, (upd 66 (upd 66 f 13 (rf 1 0)) 14 (D.one (C.own 5 0 r2.length 1))), [(w 0), (o_dossierref03_Disk_0 false (C.own 3 0 p1.L.length 3) p1), (w 2), (or_ e_dossierref03_File p1.L), (w 4), (ow_ e_str r2), (w 6), (w 7), (w 8), (w 9)]⟩) (wg 4 [0, 1, 2, 3, 4, 10, 6, 7, 8, 9] [] hx (le_upd2 (le_ok (p := 5) (L := 10) rfl (u 5 rfl).1) (o1 (.own rfl))) (ac (oq 5 10 (u 5 rfl) 0) (ac (qo rfl) (ac (oq 5 10 (u 5 rfl) 2) (ac (.cells id (all2_row _)) (ac (oq 5 10 (u 5 rfl) 4) (ac (.cells (fun _ => rfl) (all2_row _)) (ac (oq 5 10 (u 5 rfl) 6) (ac (oq 5 10 (u 5 rfl) 7) (ac (oq 5 10 (u 5 rfl) 8) (ac (oq 5 10 (u 5 rfl) 9) an))))))))))) k
    ·intro K _ f w u k
     show Wp K ⟨66, (upd 66 (upd 66 f 14 (D.one (C.own 5 0 r2.length 1))) 12 (D.one (C.own 4 0 r1.length 1))), [_, _, _, _, (ow_ e_str r1), (ow_ e_str r2), _, _, _, _]⟩
     refine s_call2 (ρ := []) (br := true) (H2 := [(w 0), (w 1), (w 2), (w 3), (ow_ e_str r1), (ow_ e_str r2), (w 6), (w 7), (w 8), (w 9)]) (d := (sb r3)) F.ca_73 rfl rfl (ac (.one (LendC.bor e_str_len rfl rfl rfl)) (ac (.one (LendC.bor e_str_len rfl rfl rfl)) an)) an (by decide) rfl (slices_Equal_string_string.meets _ r1 r2 r3 er3) (.inr ⟨rfl, rfl⟩) rfl rfl k
    ·intro K _ f w u k
     show Wp K ⟨66, (upd 66 f 15 (sb r3)), [_, _, _, _, _, _, _, _, _, _]⟩
     refine s_not rfl k
    ·intro K _ f w u k
     show Wp K ⟨66, (upd 66 f 16 (sb (!r3))), _⟩
     refine s_move (d := (sb (!r3))) rfl k
    ·intro K _ f w u k
     show Wp K ⟨66, (upd 66 (upd 66 f 17 (sb (!r3))) 0 (rf 0 0)), _⟩
     refine AWops.guard_yes rfl (nl rfl) rfl (by rw [c4] <;> rfl) ?_
     refine s_move (d := (rf 0 0)) rfl k
    ·intro K _ f w u k
     show Wp K ⟨66, (upd 66 (upd 66 f 18 (rf 0 0)) 17 (sb (!r3))), [(o_vdisk_Disk_03 false (C.mp 2) np p0), _, (om_ e_vdisk_file p0.files), _, _, _, _, _, _, _]⟩
     refine AWops.guard_yes rfl (nl rfl) rfl (by rw [c4] <;> rfl) ?_
     refine cc [0, 2] [(o_vdisk_Disk_03 false (C.mp 2) np p0), (w 1), (om_ e_vdisk_file p0.files), (w 3), (w 4), (w 5), (w 6), (w 7), (w 8), (w 9)] (si r5) F.ca_75 rfl rfl (ac (.one (.ref rfl)) an) (ac (.cells (ac (.mp rfl) (ac .sc (ac .sc (ac .sc (ac .sc an)))))) (ac .map an)) (vdisk_Disk_Used.meets _ p0 r5 er5) k
    ·intro K _ f w u k
     show Wp K ⟨66, (upd 66 (upd 66 f 17 (sb (!r3))) 1 (rf 1 0)), _⟩
     refine AWops.guard_yes rfl (nl rfl) rfl (by rw [c4] <;> rfl) ?_
     refine s_move (d := (rf 1 0)) rfl k
    ·intro K _ f w u k
     show Wp K ⟨66, (upd 66 (upd 66 f 20 (rf 1 0)) 17 (sb (!r3))), [_, (o_dossierref03_Disk_0 false (C.own 3 0 p1.L.length 3) p1), _, (or_ e_dossierref03_File p1.L), _, _, _, _, _, _]⟩
     refine AWops.guard_yes rfl (nl rfl) rfl (by rw [c4] <;> rfl) ?_
     refine cc [1, 3] [(w 0), (o_dossierref03_Disk_0 false (C.own 3 0 p1.L.length 3) p1), (w 2), (or_ e_dossierref03_File p1.L), (w 4), (w 5), (w 6), (w 7), (w 8), (w 9)] (si r6) F.ca_64 rfl rfl (ac (.one (.ref rfl)) an) (ac (.cells (ac (.own rfl) (ac .sc (ac .sc (ac .sc an))))) (ac (.cells (lend_row _)) an)) (dossierref03_Disk_Used.meets _ p1 r6 er6) k
    ·intro K _ f w u k
     show Wp K ⟨66, (upd 66 (upd 66 (upd 66 f 21 (si r6)) 19 (si r5)) 17 (sb (!r3))), _⟩
     refine AWops.guard_yes rfl (nl rfl) rfl (by rw [c4] <;> rfl) ?_
     refine s_binI (v := (.bool (r5 != r6))) rfl rfl rfl k
    ·intro K _ f w u k
     show Wp K ⟨66, (upd 66 (upd 66 f 22 (sb (r5 != r6))) 17 (sb (!r3))), _⟩
     refine s_pick_no (d := (sb (r5 != r6))) rfl (by rw [c4] <;> rfl) rfl k
    ·intro K _ f w u k
     show Wp K ⟨66, (upd 66 f 23 (sb (r5 != r6))), _⟩
     refine s_move (d := (sb (r5 != r6))) rfl k
    ·intro K _ f w u k
     show Wp K ⟨66, (upd 66 (upd 66 f 24 (sb (r5 != r6))) 0 (rf 0 0)), _⟩
     refine AWops.guard_no rfl (nl rfl) rfl c7 k
    ·intro K _ f w u k
     show Wp K ⟨66, (upd 66 f 24 (sb (r5 != r6))), _⟩
     refine AWops.guard_no rfl (nl rfl) rfl c7 k
    ·intro K _ f w u k
     show Wp K ⟨66, (upd 66 f 24 (sb (r5 != r6))), _⟩
     refine AWops.guard_no rfl (nl rfl) rfl c7 k
    ·intro K _ f w u k
     show Wp K ⟨66, (upd 66 f 24 (sb (r5 != r6))), _⟩
     refine AWops.guard_no rfl (nl rfl) rfl c7 k
    ·intro K _ f w u k
     show Wp K ⟨66, (upd 66 f 24 (sb (r5 != r6))), _⟩
     refine AWops.guard_no rfl (nl rfl) rfl c7 k
    ·intro K _ f w u k
     show Wp K ⟨66, (upd 66 f 24 (sb (r5 != r6))), _⟩
     refine AWops.guard_no rfl (nl rfl) rfl c7 k
    ·intro K _ f w u k
     show Wp K ⟨66, (upd 66 f 24 (sb (r5 != r6))), _⟩
     refine AWops.guard_no rfl (nl rfl) rfl c7 k
    ·intro K _ f w u k
     show Wp K ⟨66, (upd 66 f 24 (sb (r5 != r6))), _⟩
     refine s_pick_yes (d := (sb true)) rfl c7 rfl k
   ·refine AWops.weak (st' := ⟨66, (upd 66 (upd 66 (upd 66 topF 0 (rf 0 0)) 1 (rf 1 0)) 32 (sb true)), [(o_vdisk_Disk_03 false (C.mp 2) np p0), (o_dossierref03_Disk_0 false (C.own 3 0 p1.L.length 3) p1), (om_ e_vdisk_file p0.files), (or_ e_dossierref03_File p1.L)]⟩) (wg 4 [0, 1, 2, 3] [] hx (le_upd (le_upd (le_upd (le_top _) (o1 (.ref rfl))) (o1 (.ref rfl))) (o1 .sc)) (ac (qs rfl) (ac (qo rfl) (ac .map (ac (.cells id (all2_row _)) an))))) (AWops.nil ?_)
    refine AW.cond_yes rfl rfl (AW.seq (AW.region ?_))
    refine s_assign (d := (sb false)) rfl (AWops.nil (AW.ret ?_))
    obtain rfl := Option.some.inj h
    exact ⟨_, rfl, (wg 4 [0, 1, 2, 3] [] rfl (le_upd (le_top _) (o1 .sc)) (ac (qs rfl) (ac (qo rfl) (ac .map (ac (.cells id (all2_row _)) an)))))⟩
  ·obtain ⟨r8, er8, h⟩ := bnd h
   refine AW.draw (n := 66) (L := 10) [(ft 0 11 (rf 0 0) [(0, (rf 0 0))]), (1, ⟨some 12, (D.one (C.own 4 0 r1.length 1)), [(11, (rf 0 0))], [(0, (o_vdisk_Disk_03 false (C.mp 2) np p0)), (2, (om_ e_vdisk_file p0.files))], [(4, (ow_ e_str r1))], some 4⟩), (ft 2 13 (rf 1 0) [(1, (rf 1 0))]), (3, ⟨some 14, (D.one (C.own 5 0 r2.length 1)), [(13, (rf 1 0))], [(1, (o_dossierref03_Disk_0 false (C.own 3 0 p1.L.length 3) p1)), (3, (or_ e_dossierref03_File p1.L))], [(5, (ow_ e_str r2))], some 5⟩), (4, ⟨some 15, (sb r3), [(12, (D.one (C.own 4 0 r1.length 1))), (14, (D.one (C.own 5 0 r2.length 1)))], [(4, (ow_ e_str r1)), (5, (ow_ e_str r2))], [], none⟩), (ft 5 16 (sb (!r3)) [(15, (sb r3))]), (ft 6 17 (sb (!r3)) [(16, (sb (!r3)))]), (ft 7 18 (rf 0 0) [(0, (rf 0 0)), (17, (sb (!r3)))]), (8, ⟨some 19, (si r5), [(17, (sb (!r3))), (18, (rf 0 0))], [(0, (o_vdisk_Disk_03 false (C.mp 2) np p0)), (2, (om_ e_vdisk_file p0.files))], [], none⟩), (ft 9 20 (rf 1 0) [(1, (rf 1 0)), (17, (sb (!r3)))]), (10, ⟨some 21, (si r6), [(17, (sb (!r3))), (20, (rf 1 0))], [(1, (o_dossierref03_Disk_0 false (C.own 3 0 p1.L.length 3) p1)), (3, (or_ e_dossierref03_File p1.L))], [], none⟩), (ft 11 22 (sb (r5 != r6)) [(17, (sb (!r3))), (19, (si r5)), (21, (si r6))]), (ft 12 23 (sb (r5 != r6)) [(17, (sb (!r3))), (22, (sb (r5 != r6)))]), (ft 13 24 (sb (r5 != r6)) [(23, (sb (r5 != r6)))]), (ft 14 25 (rf 0 0) [(0, (rf 0 0)), (24, (sb (r5 != r6)))]), (15, ⟨some 26, (sb r8), [(24, (sb (r5 != r6))), (25, (rf 0 0))], [(0, (o_vdisk_Disk_03 false (C.mp 2) np p0)), (2, (om_ e_vdisk_file p0.files))], [], none⟩), (ft 16 27 (rf 1 0) [(1, (rf 1 0)), (24, (sb (r5 != r6)))]), (ft 17 28 (rf 1 0) [(24, (sb (r5 != r6))), (27, (rf 1 0))]), (ft 18 29 (rf 1 3) [(24, (sb (r5 != r6))), (28, (rf 1 0))]), (19, ⟨some 30, (sb p1.Off), [(24, (sb (r5 != r6))), (29, (rf 1 3))], [(1, (o_dossierref03_Disk_0 false (C.own 3 0 p1.L.length 3) p1))], [], none⟩), (ft 20 31 (sb (!(r8 == p1.Off))) [(24, (sb (r5 != r6))), (26, (sb r8)), (30, (sb p1.Off))]), (ft 21 32 (sb (!(r8 == p1.Off))) [(24, (sb (r5 != r6))), (31, (sb (!(r8 == p1.Off))))])] [[], [0], [], [0, 1, 2], [0, 1, 2, 3], (.range 5), (.range 6), (.range 7), (.range 8), (.range 7), (.range 10), (.range 11), (.range 12), (.range 13), (.range 14), (.range 15), (.range 14), (.range 14 ++ [16]), (.range 14 ++ [16, 17]), (.range 14 ++ [16, 17, 18]), (.range 20), (.range 21)] (nl rfl) [0, 1, 0, 2, 3, 4, 5, 6, 7, 6, 8, 9, 10, 11, 12, 13, 12, 13, 14, 15, 16, 17] rfl (TK := [(1, 4), (3, 5)]) rfl (AllK.cons' ⟨(tk_upd (tk_upd tk_top rfl) rfl), (tC rfl (tC rfl (tC rfl (tC (tkO_row _) AllT.nil')))), (by repeat (first | refine fC (.inl rfl) ?_ | refine fC (.inr rfl) ?_ | refine fC (.inr (by unfold tkFoot; simp only [List.all_cons, List.all_nil, tkO_row, Bool.and_true, Bool.true_and]; rfl)) ?_ | trivial))⟩ (AllK.cons' ⟨(tk_upd (tk_upd tk_top rfl) rfl), (tC rfl (tC rfl (tC rfl (tC (tkO_row _) AllT.nil')))), (by repeat (first | refine fC (.inl rfl) ?_ | refine fC (.inr rfl) ?_ | refine fC (.inr (by unfold tkFoot; simp only [List.all_cons, List.all_nil, tkO_row, Bool.and_true, Bool.true_and]; rfl)) ?_ | trivial))⟩ AllK.nil')) (by repeat (first | refine fC ⟨?_, ?_⟩ ?_ | refine sC rfl ?_ | refine hC rfl ?_ | trivial)) ?_ ?_
   ·refine y8 ?_ ?_ ?_ ?_ ?_ ?_ ?_ ?_ (y8 ?_ ?_ ?_ ?_ ?_ ?_ ?_ ?_ (y4 ?_ ?_ ?_ ?_ (y2 ?_ ?_ yN)))
    ·intro K _ f w u k
     show Wp K ⟨66, (upd 66 f 0 (rf 0 0)), _⟩
     refine s_move (d := (rf 0 0)) rfl k
    ·intro K _ f w u k
     show Wp K ⟨66, (upd 66 f 11 (rf 0 0)), [(o_vdisk_Disk_03 false (C.mp 2) np p0), _, (om_ e_vdisk_file p0.files), _, _, _, _, _, _, _]⟩
     refine cc [0, 2] [(o_vdisk_Disk_03 false (C.mp 2) np p0), (w 1), (om_ e_vdisk_file p0.files), (w 3), (w 4), (w 5), (w 6), (w 7), (w 8), (w 9), (ow_ e_str r1)] (D.one (C.own 10 0 r1.length 1)) F.ca_35 rfl rfl (ac (.one (.ref rfl)) an) (ac (.cells (ac (.mp rfl) (ac .sc (ac .sc (ac .sc (ac .sc an)))))) (ac .map an)) (vdisk_Disk_Names.meets _ p0 r1 er1) ?_
     refine AWops.weak (st' := ⟨66, (upd 66 (upd 66 f 11 (rf 0 0)) 12 (D.one (C.own 4 0 r1.length 1))), [(o_vdisk_Disk_03 false (C.mp 2) np p0), (w 1), (om_ e_vdisk_file p0.files), (w 3), (ow_ e_str r1), (w 5), (w 6), (w 7), (w 8), (w 9)]⟩) (wg 4 [0, 1, 2, 3, 10, 5, 6, 7, 8, 9] [] hx (le_upd2 (le_ok (p := 4) (L := 10) rfl (u 4 rfl).1) (o1 (.own rfl))) (ac (qs rfl) (ac (oq 4 10 (u 4 rfl) 1) (ac .map (ac (oq 4 10 (u 4 rfl) 3) (ac (.cells (fun _ => rfl) (all2_row _)) (ac (oq 4 10 (u 4 rfl) 5) (ac (oq 4 10 (u 4 rfl) 6) (ac (oq 4 10 (u 4 rfl) 7) (ac (oq 4 10 (u 4 rfl) 8) (ac (oq 4 10 (u 4 rfl) 9) an))))))))))) k
    ·intro K _ f w u k
     show Wp K ⟨66, (upd 66 f 1 (rf 1 0)), _⟩
     refine s_move (d := (rf 1 0)) rfl k
    ·intro K _ f w u k
     show Wp K ⟨66, (upd 66 f 13 (rf 1 0)), [_, (o_dossierref03_Disk_0 false (C.own 3 0 p1.L.length 3) p1), _, (or_ e_dossierref03_File p1.L), _, _, _, _, _, _]⟩
     refine cc [1, 3] [(w 0), (o_dossierref03_Disk_0 false (C.own 3 0 p1.L.length 3) p1), (w 2), (or_ e_dossierref03_File p1.L), (w 4), (w 5), (w 6), (w 7), (w 8), (w 9), (ow_ e_str r2)] (D.one (C.own 10 0 r2.length 1)) F.ca_74 rfl rfl (ac (.one (.ref rfl)) an) (ac (.cells (ac (.own rfl) (ac .sc (ac .sc (ac .sc an))))) (ac (.cells (lend_row _)) an)) (dossierref03_Disk_Names.meets _ p1 r2 er2) ?_
     refine AWops.weak (st' := ⟨66, (upd 66 (upd 66 f 13 (rf 1 0)) 14 (D.one (C.own 5 0 r2.length 1))), [(w 0), (o_dossierref03_Disk_0 false (C.own 3 0 p1.L.length 3) p1), (w 2), (or_ e_dossierref03_File p1.L), (w 4), (ow_ e_str r2), (w 6), (w 7), (w 8), (w 9)]⟩) (wg 4 [0, 1, 2, 3, 4, 10, 6, 7, 8, 9] [] hx (le_upd2 (le_ok (p := 5) (L := 10) rfl (u 5 rfl).1) (o1 (.own rfl))) (ac (oq 5 10 (u 5 rfl) 0) (ac (qo rfl) (ac (oq 5 10 (u 5 rfl) 2) (ac (.cells id (all2_row _)) (ac (oq 5 10 (u 5 rfl) 4) (ac (.cells (fun _ => rfl) (all2_row _)) (ac (oq 5 10 (u 5 rfl) 6) (ac (oq 5 10 (u 5 rfl) 7) (ac (oq 5 10 (u 5 rfl) 8) (ac (oq 5 10 (u 5 rfl) 9) an))))))))))) k
    ·intro K _ f w u k
     show Wp K ⟨66, (upd 66 (upd 66 f 14 (D.one (C.own 5 0 r2.length 1))) 12 (D.one (C.own 4 0 r1.length 1))), [_, _, _, _, (ow_ e_str r1), (ow_ e_str r2), _, _, _, _]⟩
     refine s_call2 (ρ := []) (br := true) (H2 := [(w 0), (w 1), (w 2), (w 3), (ow_ e_str r1), (ow_ e_str r2), (w 6), (w 7), (w 8), (w 9)]) (d := (sb r3)) F.ca_73 rfl rfl (ac (.one (LendC.bor e_str_len rfl rfl rfl)) (ac (.one (LendC.bor e_str_len rfl rfl rfl)) an)) an (by decide) rfl (slices_Equal_string_string.meets _ r1 r2 r3 er3) (.inr ⟨rfl, rfl⟩) rfl rfl k
    ·intro K _ f w u k
     show Wp K ⟨66, (upd 66 f 15 (sb r3)), [_, _, _, _, _, _, _, _, _, _]⟩
     refine s_not rfl k
    ·intro K _ f w u k
     show Wp K ⟨66, (upd 66 f 16 (sb (!r3))), _⟩
     refine s_move (d := (sb (!r3))) rfl k
    ·intro K _ f w u k
     show Wp K ⟨66, (upd 66 (upd 66 f 17 (sb (!r3))) 0 (rf 0 0)), _⟩
     refine AWops.guard_yes rfl (nl rfl) rfl (by rw [c4] <;> rfl) ?_
     refine s_move (d := (rf 0 0)) rfl k
    ·intro K _ f w u k
     show Wp K ⟨66, (upd 66 (upd 66 f 18 (rf 0 0)) 17 (sb (!r3))), [(o_vdisk_Disk_03 false (C.mp 2) np p0), _, (om_ e_vdisk_file p0.files), _, _, _, _, _, _, _]⟩
     refine AWops.guard_yes rfl (nl rfl) rfl (by rw [c4] <;> rfl) ?_
     refine cc [0, 2] [(o_vdisk_Disk_03 false (C.mp 2) np p0), (w 1), (om_ e_vdisk_file p0.files), (w 3), (w 4), (w 5), (w 6), (w 7), (w 8), (w 9)] (si r5) F.ca_75 rfl rfl (ac (.one (.ref rfl)) an) (ac (.cells (ac (.mp rfl) (ac .sc (ac .sc (ac .sc (ac .sc an)))))) (ac .map an)) (vdisk_Disk_Used.meets _ p0 r5 er5) k
    ·intro K _ f w u k
     show Wp K ⟨66, (upd 66 (upd 66 f 17 (sb (!r3))) 1 (rf 1 0)), _⟩
     refine AWops.guard_yes rfl (nl rfl) rfl (by rw [c4] <;> rfl) ?_
     refine s_move (d := (rf 1 0)) rfl k
    ·intro K _ f w u k
     show Wp K ⟨66, (upd 66 (upd 66 f 20 (rf 1 0)) 17 (sb (!r3))), [_, (o_dossierref03_Disk_0 false (C.own 3 0 p1.L.length 3) p1), _, (or_ e_dossierref03_File p1.L), _, _, _, _, _, _]⟩
     refine AWops.guard_yes rfl (nl rfl) rfl (by rw [c4] <;> rfl) ?_
     refine cc [1, 3] [(w 0), (o_dossierref03_Disk_0 false (C.own 3 0 p1.L.length 3) p1), (w 2), (or_ e_dossierref03_File p1.L), (w 4), (w 5), (w 6), (w 7), (w 8), (w 9)] (si r6) F.ca_64 rfl rfl (ac (.one (.ref rfl)) an) (ac (.cells (ac (.own rfl) (ac .sc (ac .sc (ac .sc an))))) (ac (.cells (lend_row _)) an)) (dossierref03_Disk_Used.meets _ p1 r6 er6) k
    ·intro K _ f w u k
     show Wp K ⟨66, (upd 66 (upd 66 (upd 66 f 21 (si r6)) 19 (si r5)) 17 (sb (!r3))), _⟩
     refine AWops.guard_yes rfl (nl rfl) rfl (by rw [c4] <;> rfl) ?_
     refine s_binI (v := (.bool (r5 != r6))) rfl rfl rfl k
    ·intro K _ f w u k
     show Wp K ⟨66, (upd 66 (upd 66 f 22 (sb (r5 != r6))) 17 (sb (!r3))), _⟩
     refine s_pick_no (d := (sb (r5 != r6))) rfl (by rw [c4] <;> rfl) rfl k
    ·intro K _ f w u k
     show Wp K ⟨66, (upd 66 f 23 (sb (r5 != r6))), _⟩
     refine s_move (d := (sb (r5 != r6))) rfl k
    ·intro K _ f w u k
     show Wp K ⟨66, (upd 66 (upd 66 f 24 (sb (r5 != r6))) 0 (rf 0 0)), _⟩
     refine AWops.guard_yes rfl (nl rfl) rfl c7 ?_
     refine s_move (d := (rf 0 0)) rfl k
    ·intro K _ f w u k
     show Wp K ⟨66, (upd 66 (upd 66 f 25 (rf 0 0)) 24 (sb (r5 != r6))), [(o_vdisk_Disk_03 false (C.mp 2) np p0), _, (om_ e_vdisk_file p0.files), _, _, _, _, _, _, _]⟩
     refine AWops.guard_yes rfl (nl rfl) rfl c7 ?_
     refine cc [0, 2] [(o_vdisk_Disk_03 false (C.mp 2) np p0), (w 1), (om_ e_vdisk_file p0.files), (w 3), (w 4), (w 5), (w 6), (w 7), (w 8), (w 9)] (sb r8) F.ca_76 rfl rfl (ac (.one (.ref rfl)) an) (ac (.cells (ac (.mp rfl) (ac .sc (ac .sc (ac .sc (ac .sc an)))))) (ac .map an)) (vdisk_Disk_Dead.meets _ p0 r8 er8) k
    ·intro K _ f w u k
     show Wp K ⟨66, (upd 66 (upd 66 f 24 (sb (r5 != r6))) 1 (rf 1 0)), _⟩
     refine AWops.guard_yes rfl (nl rfl) rfl c7 ?_
     refine s_move (d := (rf 1 0)) rfl k
    ·intro K _ f w u k
     show Wp K ⟨66, (upd 66 (upd 66 f 27 (rf 1 0)) 24 (sb (r5 != r6))), [_, _, _, _, _, _, _, _, _, _]⟩
     refine AWops.guard_yes rfl (nl rfl) rfl c7 ?_
     refine s_nilCheck (d := (rf 1 0)) rfl (.inl ⟨_, _, rfl⟩) k
    ·intro K _ f w u k
     show Wp K ⟨66, (upd 66 (upd 66 f 28 (rf 1 0)) 24 (sb (r5 != r6))), [_, _, _, _, _, _, _, _, _, _]⟩
     refine AWops.guard_yes rfl (nl rfl) rfl c7 ?_
     refine s_fieldRef F.fo_84_3 (by decide) rfl k
    ·intro K _ f w u k
     show Wp K ⟨66, (upd 66 (upd 66 f 29 (rf 1 3)) 24 (sb (r5 != r6))), [_, (o_dossierref03_Disk_0 false (C.own 3 0 p1.L.length 3) p1), _, _, _, _, _, _, _, _]⟩
     refine AWops.guard_yes rfl (nl rfl) rfl c7 ?_
     refine s_load1 (c' := (cb p1.Off)) F.ag_4 rfl rfl k
    ·intro K _ f w u k
     show Wp K ⟨66, (upd 66 (upd 66 (upd 66 f 30 (sb p1.Off)) 26 (sb r8)) 24 (sb (r5 != r6))), _⟩
     refine AWops.guard_yes rfl (nl rfl) rfl c7 ?_
     refine s_binB (b := (!(r8 == p1.Off))) F.u_4 rfl rfl (.inr ⟨rfl, rfl⟩) k
    ·intro K _ f w u k
     show Wp K ⟨66, (upd 66 (upd 66 f 31 (sb (!(r8 == p1.Off)))) 24 (sb (r5 != r6))), _⟩
     refine s_pick_no (d := (sb (!(r8 == p1.Off)))) rfl c7 rfl k
   ·refine AWops.weak (st' := ⟨66, (upd 66 (upd 66 (upd 66 topF 0 (rf 0 0)) 1 (rf 1 0)) 32 (sb (!(r8 == p1.Off)))), [(o_vdisk_Disk_03 false (C.mp 2) np p0), (o_dossierref03_Disk_0 false (C.own 3 0 p1.L.length 3) p1), (om_ e_vdisk_file p0.files), (or_ e_dossierref03_File p1.L)]⟩) (wg 4 [0, 1, 2, 3] [] hx (le_upd (le_upd (le_upd (le_top _) (o1 (.ref rfl))) (o1 (.ref rfl))) (o1 .sc)) (ac (qs rfl) (ac (qo rfl) (ac .map (ac (.cells id (all2_row _)) an))))) (AWops.nil ?_)
    rcases itH h with ⟨c9, h⟩ | ⟨c9, h⟩
    ·refine AW.cond_no rfl (by rw [c9] <;> rfl) (AW.skip (AW.seq (AW.seq (AW.region ?_))))
     refine s_move (d := (rf 1 0)) rfl (s_nilCheck (d := (rf 1 0)) rfl (.inl ⟨_, _, rfl⟩) (s_fieldRef F.fo_84_0 (by decide) rfl (s_load1 (c' := (C.own 3 0 p1.L.length 3)) F.ag_82 rfl rfl (s_len (n := p1.L.length) F.u_82 rfl (.inr ⟨(fun _ _ h => by cases h), ⟨_, rfl⟩⟩) (s_move (d := (si 0)) rfl (AWops.nil (AW.block ?_)))))))
     refine AW.loopw (st0 := ⟨66, (upd 66 (upd 66 (upd 66 (upd 66 (upd 66 topF 0 (rf 0 0)) 1 (rf 1 0)) 36 (D.one (C.own 3 0 p1.L.length 3))) 37 (si (p1.L.length : Int))) 38 (si 0)), [(o_vdisk_Disk_03 false (C.mp 2) np p0), (o_dossierref03_Disk_0 false (C.own 3 0 p1.L.length 3) p1), (om_ e_vdisk_file p0.files), (or_ e_dossierref03_File p1.L)]⟩) (fun kv st => kv ≤ k ∧ ∃ (x10 : Int), dossierplain_Same.l0 kv x10 p0 p1 = some r ∧ st = ⟨66, (upd 66 (upd 66 (upd 66 (upd 66 (upd 66 topF 0 (rf 0 0)) 1 (rf 1 0)) 36 (D.one (C.own 3 0 p1.L.length 3))) 37 (si (p1.L.length : Int))) 38 (si x10)), [(o_vdisk_Disk_03 false (C.mp 2) np p0), (o_dossierref03_Disk_0 false (C.own 3 0 p1.L.length 3) p1), (om_ e_vdisk_file p0.files), (or_ e_dossierref03_File p1.L)]⟩) (k := k) (wg 4 [0, 1, 2, 3] [] hx (le_upd (le_upd (le_upd (le_upd (le_upd (le_top _) (o1 (.ref rfl))) (o1 (.ref rfl))) (o1 (.own rfl))) (o1 .sc)) (o1 .sc)) (ac (qs rfl) (ac (qo rfl) (ac .map (ac (.cells id (all2_row _)) an))))) ⟨Nat.le_refl _, 0, h, rfl⟩ ?_
     rintro ql0 st ⟨hkl0, x10, h, rfl⟩
     cases ql0 with
     | zero => exact absurd h (by simp [dossierplain_Same.l0])
     | succ ql0 =>
      replace h := (dossierplain_Same.l0.eq_2 _ _ _ _).symm.trans h
      refine AW.seq (AW.region ?_)
      refine s_binI (v := (.bool (decide (x10 < (p1.L.length : Int))))) rfl rfl rfl (AWops.nil (AW.seq ?_))
      rcases itH h with ⟨c11, h⟩ | ⟨c11, h⟩
      ·refine AW.cond_yes rfl c11 (AW.skip (AW.seq (AW.block (AW.seq (AW.region ?_)))))
       obtain ⟨v12, ev12, h⟩ := bnd h
       obtain ⟨pv12, qv12, gv12⟩ := rd_some ev12
       refine s_indexOwn (d := (D.one (C.ref 3 (0 + x10.toNat * 3)))) F.u_82 F.sz_109 rfl rfl pv12 qv12 rfl ?_
       obtain ⟨R13, hR13⟩ := row_at (f := e_dossierref03_File) (sz := 3) (o := 0) e_dossierref03_File_len gv12 (e_dossierref03_File_eq v12) (by decide)
       refine s_loadN (ds := (c_dossierref03_File v12)) F.ag_109 F.sz_109 (congrArg some hR13) rfl rfl (s_alloc (cs := [(ct (⟨#[]⟩ : ByteArray)), (C.p true (.v (.slice none 0 0))), (ci 0)]) F.z_109 rfl rfl (s_store (cs' := (c_dossierref03_File v12)) rfl rfl rfl (List.cons_ne_nil _ _) rfl F.sz_109 (nl rfl) rfl (AWops.nil (AW.seq (AW.region (s_move (d := (rf 0 0)) rfl (s_fieldRef F.fo_109_0 (by decide) rfl (s_load1 (c' := (ct v12.Name)) F.ag_9 rfl rfl ?_))))))))
       obtain ⟨r14, er14, h⟩ := bnd h
       refine cc [0, 2] [(o_vdisk_Disk_03 false (C.mp 2) np p0), (o_dossierref03_Disk_0 false (C.own 3 0 p1.L.length 3) p1), (om_ e_vdisk_file p0.files), (or_ e_dossierref03_File p1.L), (some (AObj.cells true (c_dossierref03_File v12)))] (D.tup [(ds_ e_u8 r14.1), (si r14.2)]) F.ca_32 rfl rfl (ac (.one (.ref rfl)) (ac (.one .sc) an)) (ac (.cells (ac (.mp rfl) (ac .sc (ac .sc (ac .sc (ac .sc an)))))) (ac .map an)) (vdisk_Disk_Read.meets _ p0 v12.Name r14 er14) (s_move (d := (D.tup [(ds_ e_u8 r14.1), (si r14.2)])) rfl (s_extract (d := (ds_ e_u8 r14.1)) rfl rfl (s_extract (d := (si r14.2)) rfl rfl (s_assign (d := (ds_ e_u8 r14.1)) rfl (s_assign (d := (si r14.2)) rfl (AWops.nil (AW.seq (AW.region ?_))))))))
       refine s_move (d := (rf 1 0)) rfl (s_fieldRef F.fo_109_0 (by decide) rfl (s_load1 (c' := (ct v12.Name)) F.ag_9 rfl rfl ?_))
       obtain ⟨r15, er15, h⟩ := bnd h
       refine cc [1, 3] [(o_vdisk_Disk_03 false (C.mp 2) np p0), (o_dossierref03_Disk_0 false (C.own 3 0 p1.L.length 3) p1), (om_ e_vdisk_file p0.files), (or_ e_dossierref03_File p1.L), (some (AObj.cells true (c_dossierref03_File v12)))] (D.tup [(ds_ e_u8 r15.1), (si r15.2)]) F.ca_70 rfl rfl (ac (.one (.ref rfl)) (ac (.one .sc) an)) (ac (.cells (ac (.own rfl) (ac .sc (ac .sc (ac .sc an))))) (ac (.cells (lend_row _)) an)) (dossierref03_Disk_Read.meets _ p1 v12.Name r15 er15) (s_move (d := (D.tup [(ds_ e_u8 r15.1), (si r15.2)])) rfl (s_extract (d := (ds_ e_u8 r15.1)) rfl rfl (s_extract (d := (si r15.2)) rfl rfl (s_assign (d := (ds_ e_u8 r15.1)) rfl (s_assign (d := (si r15.2)) rfl (AWops.nil (AW.seq (AW.region ?_))))))))
       refine s_move (d := (si r14.2)) rfl (s_move (d := (si r15.2)) rfl (s_binI (v := (.bool (r14.2 != r15.2))) rfl rfl rfl (s_move (d := (sb (r14.2 != r15.2))) rfl ?_)))
       rcases itH h with ⟨c16, h⟩ | ⟨c16, h⟩
       ·iterate 4 refine AWops.guard_no rfl (nl rfl) rfl c16 ?_
        refine s_pick_yes (d := (sb true)) rfl c16 rfl (AWops.nil ?_)
        refine AW.cond_yes rfl rfl (AW.seq (AW.region ?_))
        refine s_assign (d := (sb false)) rfl (AWops.nil (AW.ret ?_))
        obtain rfl := Option.some.inj h
        exact ⟨_, rfl, (wg 4 [0, 1, 2, 3] [] rfl (le_upd (le_top _) (o1 .sc)) (ac (qs rfl) (ac (qo rfl) (ac .map (ac (.cells id (all2_row _)) an)))))⟩
       ·refine AWops.guard_yes rfl (nl rfl) rfl c16 ?_
        refine s_move (d := (ds_ e_u8 r14.1)) rfl ?_
        refine AWops.guard_yes rfl (nl rfl) rfl c16 ?_
        refine s_move (d := (ds_ e_u8 r15.1)) rfl ?_
        refine AWops.guard_yes rfl (nl rfl) rfl c16 ?_
        obtain ⟨r17, er17, h⟩ := bnd h
        refine cc [] [(o_vdisk_Disk_03 false (C.mp 2) np p0), (o_dossierref03_Disk_0 false (C.own 3 0 p1.L.length 3) p1), (om_ e_vdisk_file p0.files), (or_ e_dossierref03_File p1.L), (some (AObj.cells true (c_dossierref03_File v12)))] (sb r17) F.ca_17 rfl rfl (ac (.one .imm) (ac (.one .imm) an)) an (bytes_Equal.meets _ r14.1 r15.1 r17 er17) ?_
        refine AWops.guard_yes rfl (nl rfl) rfl c16 ?_
        refine s_not rfl (s_pick_no (d := (sb (!r17))) rfl c16 rfl (AWops.nil ?_))
        rcases itH h with ⟨c18, h⟩ | ⟨c18, h⟩
        ·refine AW.cond_no rfl (by rw [c18] <;> rfl) (AW.skip (AW.region ?_))
         refine s_binI (v := (.int .i64 (IntKind.i64.wrap (x10 + 1)))) rfl rfl rfl (s_move (d := (si (IntKind.i64.wrap (x10 + 1)))) rfl (AWops.nil ?_))
         exact ⟨_, ⟨66, (upd 66 (upd 66 (upd 66 (upd 66 (upd 66 topF 0 (rf 0 0)) 1 (rf 1 0)) 36 (D.one (C.own 3 0 p1.L.length 3))) 37 (si (p1.L.length : Int))) 38 (si (IntKind.i64.wrap (x10 + 1)))), [(o_vdisk_Disk_03 false (C.mp 2) np p0), (o_dossierref03_Disk_0 false (C.own 3 0 p1.L.length 3) p1), (om_ e_vdisk_file p0.files), (or_ e_dossierref03_File p1.L)]⟩, by omega, (wg 4 [0, 1, 2, 3] [] hx (le_upd (le_upd (le_upd (le_upd (le_upd (le_top _) (o1 (.ref rfl))) (o1 (.ref rfl))) (o1 (.own rfl))) (o1 .sc)) (o1 .sc)) (ac (qs rfl) (ac (qo rfl) (ac .map (ac (.cells id (all2_row _)) an))))), by omega, IntKind.i64.wrap (x10 + 1), h, rfl⟩
        ·refine AW.cond_yes rfl (by rw [c18] <;> rfl) (AW.seq (AW.region ?_))
         refine s_assign (d := (sb false)) rfl (AWops.nil (AW.ret ?_))
         obtain rfl := Option.some.inj h
         exact ⟨_, rfl, (wg 4 [0, 1, 2, 3] [] rfl (le_upd (le_top _) (o1 .sc)) (ac (qs rfl) (ac (qo rfl) (ac .map (ac (.cells id (all2_row _)) an)))))⟩
      ·refine AW.cond_no rfl c11 (AW.exit (AW.seq (AW.region ?_)))
       refine s_assign (d := (sb true)) rfl (AWops.nil (AW.ret ?_))
       obtain rfl := Option.some.inj h
       exact ⟨_, rfl, (wg 4 [0, 1, 2, 3] [] rfl (le_upd (le_top _) (o1 .sc)) (ac (qs rfl) (ac (qo rfl) (ac .map (ac (.cells id (all2_row _)) an)))))⟩
    ·refine AW.cond_yes rfl (by rw [c9] <;> rfl) (AW.seq (AW.region ?_))
     refine s_assign (d := (sb false)) rfl (AWops.nil (AW.ret ?_))
     obtain rfl := Option.some.inj h
     exact ⟨_, rfl, (wg 4 [0, 1, 2, 3] [] rfl (le_upd (le_top _) (o1 .sc)) (ac (qs rfl) (ac (qo rfl) (ac .map (ac (.cells id (all2_row _)) an)))))⟩
 ·refine AW.draw (n := 66) (L := 10) [(ft 0 11 (rf 0 0) [(0, (rf 0 0))]), (1, ⟨some 12, (D.one (C.own 4 0 r1.length 1)), [(11, (rf 0 0))], [(0, (o_vdisk_Disk_03 false (C.mp 2) np p0)), (2, (om_ e_vdisk_file p0.files))], [(4, (ow_ e_str r1))], some 4⟩), (ft 2 13 (rf 1 0) [(1, (rf 1 0))]), (3, ⟨some 14, (D.one (C.own 5 0 r2.length 1)), [(13, (rf 1 0))], [(1, (o_dossierref03_Disk_0 false (C.own 3 0 p1.L.length 3) p1)), (3, (or_ e_dossierref03_File p1.L))], [(5, (ow_ e_str r2))], some 5⟩), (4, ⟨some 15, (sb r3), [(12, (D.one (C.own 4 0 r1.length 1))), (14, (D.one (C.own 5 0 r2.length 1)))], [(4, (ow_ e_str r1)), (5, (ow_ e_str r2))], [], none⟩), (ft 5 16 (sb (!r3)) [(15, (sb r3))]), (ft 6 17 (sb (!r3)) [(16, (sb (!r3)))]), (ft 7 18 (D.tup []) [(0, (rf 0 0)), (17, (sb (!r3)))]), (ft 8 19 (D.tup []) [(17, (sb (!r3)))]), (ft 9 20 (D.tup []) [(17, (sb (!r3)))]), (ft 10 21 (D.tup []) [(17, (sb (!r3)))]), (ft 11 22 (D.tup []) [(17, (sb (!r3)))]), (ft 12 23 (sb true) [(17, (sb (!r3)))]), (ft 13 24 (sb true) [(23, (sb true))]), (ft 14 25 (D.tup []) [(24, (sb true))]), (ft 15 26 (D.tup []) [(24, (sb true))]), (ft 16 27 (D.tup []) [(24, (sb true))]), (ft 17 28 (D.tup []) [(24, (sb true))]), (ft 18 29 (D.tup []) [(24, (sb true))]), (ft 19 30 (D.tup []) [(24, (sb true))]), (ft 20 31 (D.tup []) [(24, (sb true))]), (ft 21 32 (sb true) [(24, (sb true))])] [[], [0], [], [0, 1, 2], [0, 1, 2, 3], (.range 5), (.range 6), (.range 7), (.range 8), (.range 7), (.range 10), (.range 11), (.range 12), (.range 13), (.range 14), (.range 15), (.range 14), (.range 14 ++ [16]), (.range 14 ++ [16, 17]), (.range 14 ++ [16, 17, 18]), (.range 20), (.range 21)] (nl rfl) [0, 1, 0, 2, 3, 4, 5, 6, 7, 6, 8, 9, 10, 11, 12, 13, 12, 13, 14, 15, 16, 17] rfl (TK := [(1, 4), (3, 5)]) rfl (AllK.cons' ⟨(tk_upd (tk_upd tk_top rfl) rfl), (tC rfl (tC rfl (tC rfl (tC (tkO_row _) AllT.nil')))), (by repeat (first | refine fC (.inl rfl) ?_ | refine fC (.inr rfl) ?_ | refine fC (.inr (by unfold tkFoot; simp only [List.all_cons, List.all_nil, tkO_row, Bool.and_true, Bool.true_and]; rfl)) ?_ | trivial))⟩ (AllK.cons' ⟨(tk_upd (tk_upd tk_top rfl) rfl), (tC rfl (tC rfl (tC rfl (tC (tkO_row _) AllT.nil')))), (by repeat (first | refine fC (.inl rfl) ?_ | refine fC (.inr rfl) ?_ | refine fC (.inr (by unfold tkFoot; simp only [List.all_cons, List.all_nil, tkO_row, Bool.and_true, Bool.true_and]; rfl)) ?_ | trivial))⟩ AllK.nil')) (by repeat (first | refine fC ⟨?_, ?_⟩ ?_ | refine sC rfl ?_ | refine hC rfl ?_ | trivial)) ?_ ?_
  ·refine y8 ?_ ?_ ?_ ?_ ?_ ?_ ?_ ?_ (y8 ?_ ?_ ?_ ?_ ?_ ?_ ?_ ?_ (y4 ?_ ?_ ?_ ?_ (y2 ?_ ?_ yN)))
   ·intro K _ f w u k
    show Wp K ⟨66, (upd 66 f 0 (rf 0 0)), _⟩
    refine s_move (d := (rf 0 0)) rfl k
   ·intro K _ f w u k
    show Wp K ⟨66, (upd 66 f 11 (rf 0 0)), [(o_vdisk_Disk_03 false (C.mp 2) np p0), _, (om_ e_vdisk_file p0.files), _, _, _, _, _, _, _]⟩
    refine cc [0, 2] [(o_vdisk_Disk_03 false (C.mp 2) np p0), (w 1), (om_ e_vdisk_file p0.files), (w 3), (w 4), (w 5), (w 6), (w 7), (w 8), (w 9), (ow_ e_str r1)] (D.one (C.own 10 0 r1.length 1)) F.ca_35 rfl rfl (ac (.one (.ref rfl)) an) (ac (.cells (ac (.mp rfl) (ac .sc (ac .sc (ac .sc (ac .sc an)))))) (ac .map an)) (vdisk_Disk_Names.meets _ p0 r1 er1) ?_
    refine AWops.weak (st' := ⟨66, (upd 66 (upd 66 f 11 (rf 0 0)) 12 (D.one (C.own 4 0 r1.length 1))), [(o_vdisk_Disk_03 false (C.mp 2) np p0), (w 1), (om_ e_vdisk_file p0.files), (w 3), (ow_ e_str r1), (w 5), (w 6), (w 7), (w 8), (w 9)]⟩) (wg 4 [0, 1, 2, 3, 10, 5, 6, 7, 8, 9] [] hx (le_upd2 (le_ok (p := 4) (L := 10) rfl (u 4 rfl).1) (o1 (.own rfl))) (ac (qs rfl) (ac (oq 4 10 (u 4 rfl) 1) (ac .map (ac (oq 4 10 (u 4 rfl) 3) (ac (.cells (fun _ => rfl) (all2_row _)) (ac (oq 4 10 (u 4 rfl) 5) (ac (oq 4 10 (u 4 rfl) 6) (ac (oq 4 10 (u 4 rfl) 7) (ac (oq 4 10 (u 4 rfl) 8) (ac (oq 4 10 (u 4 rfl) 9) an))))))))))) k
   ·intro K _ f w u k
    show Wp K ⟨66, (upd 66 f 1 (rf 1 0)), _⟩
    refine s_move (d := (rf 1 0)) rfl k
   ·intro K _ f w u k
    show Wp K ⟨66, (upd 66 f 13 (rf 1 0)), [_, (o_dossierref03_Disk_0 false (C.own 3 0 p1.L.length 3) p1), _, (or_ e_dossierref03_File p1.L), _, _, _, _, _, _]⟩
    refine cc [1, 3] [(w 0), (o_dossierref03_Disk_0 false (C.own 3 0 p1.L.length 3) p1), (w 2), (or_ e_dossierref03_File p1.L), (w 4), (w 5), (w 6), (w 7), (w 8), (w 9), (ow_ e_str r2)] (D.one (C.own 10 0 r2.length 1)) F.ca_74 rfl rfl (ac (.one (.ref rfl)) an) (ac (.cells (ac (.own rfl) (ac .sc (ac .sc (ac .sc an))))) (ac (.cells (lend_row _)) an)) (dossierref03_Disk_Names.meets _ p1 r2 er2) ?_
    refine AWops.weak (st' := ⟨66, (upd 66 (upd 66 f 13 (rf 1 0)) 14 (D.one (C.own 5 0 r2.length 1))), [(w 0), (o_dossierref03_Disk_0 false (C.own 3 0 p1.L.length 3) p1), (w 2), (or_ e_dossierref03_File p1.L), (w 4), (ow_ e_str r2), (w 6), (w 7), (w 8), (w 9)]⟩) (wg 4 [0, 1, 2, 3, 4, 10, 6, 7, 8, 9] [] hx (le_upd2 (le_ok (p := 5) (L := 10) rfl (u 5 rfl).1) (o1 (.own rfl))) (ac (oq 5 10 (u 5 rfl) 0) (ac (qo rfl) (ac (oq 5 10 (u 5 rfl) 2) (ac (.cells id (all2_row _)) (ac (oq 5 10 (u 5 rfl) 4) (ac (.cells (fun _ => rfl) (all2_row _)) (ac (oq 5 10 (u 5 rfl) 6) (ac (oq 5 10 (u 5 rfl) 7) (ac (oq 5 10 (u 5 rfl) 8) (ac (oq 5 10 (u 5 rfl) 9) an))))))))))) k
   ·intro K _ f w u k
    show Wp K ⟨66, (upd 66 (upd 66 f 14 (D.one (C.own 5 0 r2.length 1))) 12 (D.one (C.own 4 0 r1.length 1))), [_, _, _, _, (ow_ e_str r1), (ow_ e_str r2), _, _, _, _]⟩
    refine s_call2 (ρ := []) (br := true) (H2 := [(w 0), (w 1), (w 2), (w 3), (ow_ e_str r1), (ow_ e_str r2), (w 6), (w 7), (w 8), (w 9)]) (d := (sb r3)) F.ca_73 rfl rfl (ac (.one (LendC.bor e_str_len rfl rfl rfl)) (ac (.one (LendC.bor e_str_len rfl rfl rfl)) an)) an (by decide) rfl (slices_Equal_string_string.meets _ r1 r2 r3 er3) (.inr ⟨rfl, rfl⟩) rfl rfl k
   ·intro K _ f w u k
    show Wp K ⟨66, (upd 66 f 15 (sb r3)), [_, _, _, _, _, _, _, _, _, _]⟩
    refine s_not rfl k
   ·intro K _ f w u k
    show Wp K ⟨66, (upd 66 f 16 (sb (!r3))), _⟩
    refine s_move (d := (sb (!r3))) rfl k
   ·intro K _ f w u k
    show Wp K ⟨66, (upd 66 (upd 66 f 17 (sb (!r3))) 0 (rf 0 0)), _⟩
    refine AWops.guard_no rfl (nl rfl) rfl (by rw [c4] <;> rfl) k
   ·intro K _ f w u k
    show Wp K ⟨66, (upd 66 f 17 (sb (!r3))), _⟩
    refine AWops.guard_no rfl (nl rfl) rfl (by rw [c4] <;> rfl) k
   ·intro K _ f w u k
    show Wp K ⟨66, (upd 66 f 17 (sb (!r3))), _⟩
    refine AWops.guard_no rfl (nl rfl) rfl (by rw [c4] <;> rfl) k
   ·intro K _ f w u k
    show Wp K ⟨66, (upd 66 f 17 (sb (!r3))), _⟩
    refine AWops.guard_no rfl (nl rfl) rfl (by rw [c4] <;> rfl) k
   ·intro K _ f w u k
    show Wp K ⟨66, (upd 66 f 17 (sb (!r3))), _⟩
    refine AWops.guard_no rfl (nl rfl) rfl (by rw [c4] <;> rfl) k
   ·intro K _ f w u k
    show Wp K ⟨66, (upd 66 f 17 (sb (!r3))), _⟩
    refine s_pick_yes (d := (sb true)) rfl (by rw [c4] <;> rfl) rfl k
   ·intro K _ f w u k
    show Wp K ⟨66, (upd 66 f 23 (sb true)), _⟩
    refine s_move (d := (sb true)) rfl k
   ·intro K _ f w u k
    show Wp K ⟨66, (upd 66 f 24 (sb true)), _⟩
    refine AWops.guard_no rfl (nl rfl) rfl rfl k
   ·intro K _ f w u k
    show Wp K ⟨66, (upd 66 f 24 (sb true)), _⟩
    refine AWops.guard_no rfl (nl rfl) rfl rfl k
   ·intro K _ f w u k
    show Wp K ⟨66, (upd 66 f 24 (sb true)), _⟩
    refine AWops.guard_no rfl (nl rfl) rfl rfl k
   ·intro K _ f w u k
    show Wp K ⟨66, (upd 66 f 24 (sb true)), _⟩
    refine AWops.guard_no rfl (nl rfl) rfl rfl k
   ·intro K _ f w u k
    show Wp K ⟨66, (upd 66 f 24 (sb true)), _⟩
    refine AWops.guard_no rfl (nl rfl) rfl rfl k
   ·intro K _ f w u k
    show Wp K ⟨66, (upd 66 f 24 (sb true)), _⟩
    refine AWops.guard_no rfl (nl rfl) rfl rfl k
   ·intro K _ f w u k
    show Wp K ⟨66, (upd 66 f 24 (sb true)), _⟩
    refine AWops.guard_no rfl (nl rfl) rfl rfl k
   ·intro K _ f w u k
    show Wp K ⟨66, (upd 66 f 24 (sb true)), _⟩
    refine s_pick_yes (d := (sb true)) rfl rfl rfl k
  ·refine AWops.weak (st' := ⟨66, (upd 66 (upd 66 (upd 66 topF 0 (rf 0 0)) 1 (rf 1 0)) 32 (sb true)), [(o_vdisk_Disk_03 false (C.mp 2) np p0), (o_dossierref03_Disk_0 false (C.own 3 0 p1.L.length 3) p1), (om_ e_vdisk_file p0.files), (or_ e_dossierref03_File p1.L)]⟩) (wg 4 [0, 1, 2, 3] [] hx (le_upd (le_upd (le_upd (le_top _) (o1 (.ref rfl))) (o1 (.ref rfl))) (o1 .sc)) (ac (qs rfl) (ac (qo rfl) (ac .map (ac (.cells id (all2_row _)) an))))) (AWops.nil ?_)
   refine AW.cond_yes rfl rfl (AW.seq (AW.region ?_))
   refine s_assign (d := (sb false)) rfl (AWops.nil (AW.ret ?_))
   obtain rfl := Option.some.inj h
   exact ⟨_, rfl, (wg 4 [0, 1, 2, 3] [] rfl (le_upd (le_top _) (o1 .sc)) (ac (qs rfl) (ac (qo rfl) (ac .map (ac (.cells id (all2_row _)) an)))))⟩
end Go.Abs.GenO
