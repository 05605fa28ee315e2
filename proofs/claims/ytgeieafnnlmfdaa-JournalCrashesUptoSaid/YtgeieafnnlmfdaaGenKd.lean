import Derived.Test.YtgeieafnnlmfdaaGenKc
set_option linter.unusedVariables false
set_option linter.unusedSimpArgs false
set_option maxRecDepth 100000
set_option maxHeartbeats 4000000
namespace Go.Abs.GenK
open Go.Abs Go.Proofs
def vdisk_Disk_Truncate.f (k : Nat) (p0 : vdisk_Disk) (a1 : ByteArray) (a2 : Int) (p2 : Int) : Option (Int × vdisk_Disk × Int) := (vdisk_Disk_change_55.f k p0 (decide (a2 ≥ 0)) a1 false 0 p2).bind fun r1 => if (r1.1 == 0) = true then (if (decide (0 ≤ (if (((lk_vdisk_file a1 r1.2.1.files).b).length : Int) < a2 then (((lk_vdisk_file a1 r1.2.1.files).b).length : Int) else a2) ∧ (if (((lk_vdisk_file a1 r1.2.1.files).b).length : Int) < a2 then (((lk_vdisk_file a1 r1.2.1.files).b).length : Int) else a2) ≤ (((lk_vdisk_file a1 r1.2.1.files).b).length : Int))) = true then ((vdisk_Disk_set_36.f k r1.2.1 a1 (⟨sub ((lk_vdisk_file a1 r1.2.1.files).b) 0 (if (((lk_vdisk_file a1 r1.2.1.files).b).length : Int) < a2 then (((lk_vdisk_file a1 r1.2.1.files).b).length : Int) else a2), (if ((lk_vdisk_file a1 r1.2.1.files).sure) < (if (((lk_vdisk_file a1 r1.2.1.files).b).length : Int) < a2 then (((lk_vdisk_file a1 r1.2.1.files).b).length : Int) else a2) then ((lk_vdisk_file a1 r1.2.1.files).sure) else (if (((lk_vdisk_file a1 r1.2.1.files).b).length : Int) < a2 then (((lk_vdisk_file a1 r1.2.1.files).b).length : Int) else a2))⟩ : vdisk_file) r1.2.2).bind fun r4 => some (r1.1, r4, r1.2.2)) else none) else (some (r1.1, r1.2.1, r1.2.2))
theorem vdisk_Disk_Truncate.meets (k : Nat) (p0 : vdisk_Disk) (a1 : ByteArray) (a2 : Int) (p2 : Int) (r : Int × vdisk_Disk × Int) (h : vdisk_Disk_Truncate.f k p0 a1 a2 p2 = some r) : Meets Try.prog 44 [(rf 0 0), (st_ a1), (si a2)] [(o_vdisk_Disk_03 false (C.mp 1) (C.ref 2 0) p0), (om_ e_vdisk_file p0.files), (bx p2)] (si r.1) [(o_vdisk_Disk_03 false (C.mp 1) (C.ref 2 0) r.2.1), (om_ e_vdisk_file r.2.1.files), (bx r.2.2)] := by
 unfold vdisk_Disk_Truncate.f at h
 refine Meets.of_body (n := 41) Try.func44 rfl rfl (nl rfl) fun x hx => ?_
 replace hx : x.k = 3 := hx
 show AW _ x _ _ ⟨41, fr0 [(rf 0 0), (st_ a1), (si a2)], [(o_vdisk_Disk_03 false (C.mp 1) (C.ref 2 0) p0), (om_ e_vdisk_file p0.files), (bx p2)]⟩
 refine AW.seq (AW.region ?_)
 refine s_assign (d := (si 0)) rfl (AWops.nil (AW.seq (AW.region ?_)))
 refine s_move (d := (rf 0 0)) rfl (s_move (d := (si a2)) rfl (s_binI (v := (.bool (decide (a2 ≥ 0)))) rfl rfl rfl (s_move (d := (st_ a1)) rfl ?_)))
 obtain ⟨r1, er1, h⟩ := bnd h
 refine cc [0, 1, 2] [(o_vdisk_Disk_03 false (C.mp 1) (C.ref 2 0) r1.2.1), (om_ e_vdisk_file r1.2.1.files), (bx r1.2.2)] (si r1.1) F.ca_55 rfl rfl (ac (.one (.ref rfl)) (ac (.one .sc) (ac (.one .sc) (ac (.one .sc) (ac (.one .sc) an))))) (ac (.cells (ac (.mp rfl) (ac .sc (ac .sc (ac (.ref rfl) (ac .sc an)))))) (ac .map (ac (.cells (ac .sc an)) an))) (vdisk_Disk_change_55.meets _ p0 (decide (a2 ≥ 0)) a1 false 0 p2 r1 er1) (s_assign (d := (si r1.1)) rfl (AWops.nil (AW.seq (AW.seq (AW.region (s_move (d := (si r1.1)) rfl (s_binI (v := (.bool (r1.1 == 0))) rfl rfl rfl (AWops.nil ?_))))))))
 rcases itH h with ⟨c2, h⟩ | ⟨c2, h⟩
 ·refine AW.cond_yes rfl c2 (AW.seq (AW.region ?_))
  refine s_move (d := (rf 0 0)) rfl (s_nilCheck (d := (rf 0 0)) rfl (.inl ⟨_, _, rfl⟩) (s_fieldRef F.fo_37_0 (by decide) rfl (s_load1 (c' := (C.mp 1)) F.ag_34 rfl rfl (s_move (d := (st_ a1)) rfl (t_lookup (b := true) F.u_34 F.u_9 F.z_79 (z := ((⟨([] : List Int), 0⟩ : vdisk_file) : vdisk_file)) (zs := [(.slice none 0 0), (.int .i64 0)]) rfl (fun h => by cases h) (ac ZRel.n (ac (ZRel.v _ rfl) an)) rfl rfl rfl rfl ?_)))))
  refine s_alloc (cs := [(C.p true (.v (.slice none 0 0))), (ci 0)]) F.z_79 rfl rfl (s_store (cs' := (c_vdisk_file (lk_vdisk_file a1 r1.2.1.files))) rfl rfl rfl (List.cons_ne_nil _ _) rfl F.sz_79 (nl rfl) rfl (AWops.nil (AW.seq (AW.region (s_move (d := (si a2)) rfl (s_fieldRef F.fo_79_0 (by decide) rfl (s_load1 (c' := (C.p false (.sl ((lk_vdisk_file a1 r1.2.1.files).b).length (((lk_vdisk_file a1 r1.2.1.files).b).flatMap e_u8)))) F.ag_22 rfl rfl (s_len (n := ((lk_vdisk_file a1 r1.2.1.files).b).length) F.u_22 rfl (.inr ⟨(fun _ _ h => by cases h), ⟨_, rfl⟩⟩) ?_))))))))
  refine s_min2 (r := (if (((lk_vdisk_file a1 r1.2.1.files).b).length : Int) < a2 then (((lk_vdisk_file a1 r1.2.1.files).b).length : Int) else a2)) rfl rfl rfl (s_assign (d := (si (if (((lk_vdisk_file a1 r1.2.1.files).b).length : Int) < a2 then (((lk_vdisk_file a1 r1.2.1.files).b).length : Int) else a2))) rfl (AWops.nil ?_))
  refine AW.weak (st' := ⟨41, (upd 41 (upd 41 (upd 41 (upd 41 (upd 41 topF 0 (rf 0 0)) 1 (st_ a1)) 2 (si (if (((lk_vdisk_file a1 r1.2.1.files).b).length : Int) < a2 then (((lk_vdisk_file a1 r1.2.1.files).b).length : Int) else a2))) 7 (si r1.1)) 8 (rf 3 0)), [(o_vdisk_Disk_03 false (C.mp 1) (C.ref 2 0) r1.2.1), (om_ e_vdisk_file r1.2.1.files), (bx r1.2.2), (some (AObj.cells true (c_vdisk_file (lk_vdisk_file a1 r1.2.1.files))))]⟩) (wg 3 [0, 1, 2, 3] [] hx (le_upd (le_upd (le_upd (le_upd (le_upd (le_top _) (o1 (.ref rfl))) (o1 .sc)) (o1 .sc)) (o1 .sc)) (o1 (.ref rfl))) (ac (qr rfl rfl) (ac .map (ac qb (ac (.cells (fun _ => rfl) (ac .same (ac .sc an))) an))))) ?_
  obtain ⟨c3, h⟩ := gdH h
  have dc3 := of_decide_eq_true c3
  obtain ⟨r4, er4, h⟩ := bnd h
  refine AW.draw (n := 41) (L := 5) [(ft 0 27 (rf 0 0) [(0, (rf 0 0))]), (ft 1 28 (st_ a1) [(1, (st_ a1))]), (ft 2 29 (rf 3 0) [(8, (rf 3 0))]), (3, ⟨some 30, (D.one (C.p false (.sl ((lk_vdisk_file a1 r1.2.1.files).b).length (((lk_vdisk_file a1 r1.2.1.files).b).flatMap e_u8)))), [(29, (rf 3 0))], [(3, (some (AObj.cells true (c_vdisk_file (lk_vdisk_file a1 r1.2.1.files)))))], [], none⟩), (ft 4 31 (si (if (((lk_vdisk_file a1 r1.2.1.files).b).length : Int) < a2 then (((lk_vdisk_file a1 r1.2.1.files).b).length : Int) else a2)) [(2, (si (if (((lk_vdisk_file a1 r1.2.1.files).b).length : Int) < a2 then (((lk_vdisk_file a1 r1.2.1.files).b).length : Int) else a2)))]), (ft 5 32 (si (if (((lk_vdisk_file a1 r1.2.1.files).b).length : Int) < a2 then (((lk_vdisk_file a1 r1.2.1.files).b).length : Int) else a2)) [(2, (si (if (((lk_vdisk_file a1 r1.2.1.files).b).length : Int) < a2 then (((lk_vdisk_file a1 r1.2.1.files).b).length : Int) else a2)))]), (ft 6 33 (D.one (C.p false (.sl (sub ((lk_vdisk_file a1 r1.2.1.files).b) 0 (if (((lk_vdisk_file a1 r1.2.1.files).b).length : Int) < a2 then (((lk_vdisk_file a1 r1.2.1.files).b).length : Int) else a2)).length ((sub ((lk_vdisk_file a1 r1.2.1.files).b) 0 (if (((lk_vdisk_file a1 r1.2.1.files).b).length : Int) < a2 then (((lk_vdisk_file a1 r1.2.1.files).b).length : Int) else a2)).flatMap e_u8)))) [(30, (D.one (C.p false (.sl ((lk_vdisk_file a1 r1.2.1.files).b).length (((lk_vdisk_file a1 r1.2.1.files).b).flatMap e_u8))))), (31, (si (if (((lk_vdisk_file a1 r1.2.1.files).b).length : Int) < a2 then (((lk_vdisk_file a1 r1.2.1.files).b).length : Int) else a2))), (32, (si (if (((lk_vdisk_file a1 r1.2.1.files).b).length : Int) < a2 then (((lk_vdisk_file a1 r1.2.1.files).b).length : Int) else a2)))]), (ft 7 34 (si (if (((lk_vdisk_file a1 r1.2.1.files).b).length : Int) < a2 then (((lk_vdisk_file a1 r1.2.1.files).b).length : Int) else a2)) [(2, (si (if (((lk_vdisk_file a1 r1.2.1.files).b).length : Int) < a2 then (((lk_vdisk_file a1 r1.2.1.files).b).length : Int) else a2)))]), (ft 8 35 (rf 3 1) [(8, (rf 3 0))]), (9, ⟨some 36, (si ((lk_vdisk_file a1 r1.2.1.files).sure)), [(35, (rf 3 1))], [(3, (some (AObj.cells true (c_vdisk_file (lk_vdisk_file a1 r1.2.1.files)))))], [], none⟩), (ft 10 37 (si (if ((lk_vdisk_file a1 r1.2.1.files).sure) < (if (((lk_vdisk_file a1 r1.2.1.files).b).length : Int) < a2 then (((lk_vdisk_file a1 r1.2.1.files).b).length : Int) else a2) then ((lk_vdisk_file a1 r1.2.1.files).sure) else (if (((lk_vdisk_file a1 r1.2.1.files).b).length : Int) < a2 then (((lk_vdisk_file a1 r1.2.1.files).b).length : Int) else a2))) [(34, (si (if (((lk_vdisk_file a1 r1.2.1.files).b).length : Int) < a2 then (((lk_vdisk_file a1 r1.2.1.files).b).length : Int) else a2))), (36, (si ((lk_vdisk_file a1 r1.2.1.files).sure)))]), (ft 11 38 (D.agg [(C.p false (.sl (sub ((lk_vdisk_file a1 r1.2.1.files).b) 0 (if (((lk_vdisk_file a1 r1.2.1.files).b).length : Int) < a2 then (((lk_vdisk_file a1 r1.2.1.files).b).length : Int) else a2)).length ((sub ((lk_vdisk_file a1 r1.2.1.files).b) 0 (if (((lk_vdisk_file a1 r1.2.1.files).b).length : Int) < a2 then (((lk_vdisk_file a1 r1.2.1.files).b).length : Int) else a2)).flatMap e_u8))), (ci (if ((lk_vdisk_file a1 r1.2.1.files).sure) < (if (((lk_vdisk_file a1 r1.2.1.files).b).length : Int) < a2 then (((lk_vdisk_file a1 r1.2.1.files).b).length : Int) else a2) then ((lk_vdisk_file a1 r1.2.1.files).sure) else (if (((lk_vdisk_file a1 r1.2.1.files).b).length : Int) < a2 then (((lk_vdisk_file a1 r1.2.1.files).b).length : Int) else a2)))]) [(33, (D.one (C.p false (.sl (sub ((lk_vdisk_file a1 r1.2.1.files).b) 0 (if (((lk_vdisk_file a1 r1.2.1.files).b).length : Int) < a2 then (((lk_vdisk_file a1 r1.2.1.files).b).length : Int) else a2)).length ((sub ((lk_vdisk_file a1 r1.2.1.files).b) 0 (if (((lk_vdisk_file a1 r1.2.1.files).b).length : Int) < a2 then (((lk_vdisk_file a1 r1.2.1.files).b).length : Int) else a2)).flatMap e_u8))))), (37, (si (if ((lk_vdisk_file a1 r1.2.1.files).sure) < (if (((lk_vdisk_file a1 r1.2.1.files).b).length : Int) < a2 then (((lk_vdisk_file a1 r1.2.1.files).b).length : Int) else a2) then ((lk_vdisk_file a1 r1.2.1.files).sure) else (if (((lk_vdisk_file a1 r1.2.1.files).b).length : Int) < a2 then (((lk_vdisk_file a1 r1.2.1.files).b).length : Int) else a2))))]), (12, ⟨some 39, (D.tup []), [(27, (rf 0 0)), (28, (st_ a1)), (38, (D.agg [(C.p false (.sl (sub ((lk_vdisk_file a1 r1.2.1.files).b) 0 (if (((lk_vdisk_file a1 r1.2.1.files).b).length : Int) < a2 then (((lk_vdisk_file a1 r1.2.1.files).b).length : Int) else a2)).length ((sub ((lk_vdisk_file a1 r1.2.1.files).b) 0 (if (((lk_vdisk_file a1 r1.2.1.files).b).length : Int) < a2 then (((lk_vdisk_file a1 r1.2.1.files).b).length : Int) else a2)).flatMap e_u8))), (ci (if ((lk_vdisk_file a1 r1.2.1.files).sure) < (if (((lk_vdisk_file a1 r1.2.1.files).b).length : Int) < a2 then (((lk_vdisk_file a1 r1.2.1.files).b).length : Int) else a2) then ((lk_vdisk_file a1 r1.2.1.files).sure) else (if (((lk_vdisk_file a1 r1.2.1.files).b).length : Int) < a2 then (((lk_vdisk_file a1 r1.2.1.files).b).length : Int) else a2)))]))], [(0, (o_vdisk_Disk_03 false (C.mp 1) (C.ref 2 0) r1.2.1)), (1, (om_ e_vdisk_file r1.2.1.files)), (2, (bx r1.2.2))], [(0, (o_vdisk_Disk_03 false (C.mp 1) (C.ref 2 0) r4)), (1, (om_ e_vdisk_file r4.files))], none⟩)] [[], [], [], [2], [], [], [2, 3, 4, 5], [], [], [8], [7, 8, 9], [2, 3, 4, 5, 6, 7, 8, 9, 10], (.range 12)] (nl rfl) [0, 0, 0, 1, 0, 0, 2, 0, 0, 1, 2, 3, 4] rfl (TK := []) rfl AllK.nil' (by repeat (first | refine fC ⟨?_, ?_⟩ ?_ | refine sC rfl ?_ | refine hC rfl ?_ | trivial)) ?_ ?_
  ·refine y8 ?_ ?_ ?_ ?_ ?_ ?_ ?_ ?_ (y4 ?_ ?_ ?_ ?_ (pC ?_ yN))
   ·intro K _ f w u k
    show Wp K ⟨41, (upd 41 f 0 (rf 0 0)), _⟩
    refine s_move (d := (rf 0 0)) rfl k
   ·intro K _ f w u k
    show Wp K ⟨41, (upd 41 f 1 (st_ a1)), _⟩
    refine s_move (d := (st_ a1)) rfl k
   ·intro K _ f w u k
    show Wp K ⟨41, (upd 41 f 8 (rf 3 0)), [_, _, _, _, _]⟩
    refine s_fieldRef F.fo_79_0 (by decide) rfl k
   ·intro K _ f w u k
    show Wp K ⟨41, (upd 41 f 29 (rf 3 0)), [_, _, _, (some (AObj.cells true (c_vdisk_file (lk_vdisk_file a1 r1.2.1.files)))), _]⟩
    refine s_load1 (c' := (C.p false (.sl ((lk_vdisk_file a1 r1.2.1.files).b).length (((lk_vdisk_file a1 r1.2.1.files).b).flatMap e_u8)))) F.ag_22 rfl rfl k
   ·intro K _ f w u k
    show Wp K ⟨41, (upd 41 f 2 (si (if (((lk_vdisk_file a1 r1.2.1.files).b).length : Int) < a2 then (((lk_vdisk_file a1 r1.2.1.files).b).length : Int) else a2))), _⟩
    refine s_move (d := (si (if (((lk_vdisk_file a1 r1.2.1.files).b).length : Int) < a2 then (((lk_vdisk_file a1 r1.2.1.files).b).length : Int) else a2))) rfl k
   ·intro K _ f w u k
    show Wp K ⟨41, (upd 41 f 2 (si (if (((lk_vdisk_file a1 r1.2.1.files).b).length : Int) < a2 then (((lk_vdisk_file a1 r1.2.1.files).b).length : Int) else a2))), _⟩
    refine s_move (d := (si (if (((lk_vdisk_file a1 r1.2.1.files).b).length : Int) < a2 then (((lk_vdisk_file a1 r1.2.1.files).b).length : Int) else a2))) rfl k
   ·intro K _ f w u k
    show Wp K ⟨41, (upd 41 (upd 41 (upd 41 f 32 (si (if (((lk_vdisk_file a1 r1.2.1.files).b).length : Int) < a2 then (((lk_vdisk_file a1 r1.2.1.files).b).length : Int) else a2))) 31 (si (if (((lk_vdisk_file a1 r1.2.1.files).b).length : Int) < a2 then (((lk_vdisk_file a1 r1.2.1.files).b).length : Int) else a2))) 30 (D.one (C.p false (.sl ((lk_vdisk_file a1 r1.2.1.files).b).length (((lk_vdisk_file a1 r1.2.1.files).b).flatMap e_u8))))), [_, _, _, _, _]⟩
    refine t_slice3Imm F.u_22 F.sz_5 e_u8_len rfl rfl rfl (by omega) (by omega) k
   ·intro K _ f w u k
    show Wp K ⟨41, (upd 41 f 2 (si (if (((lk_vdisk_file a1 r1.2.1.files).b).length : Int) < a2 then (((lk_vdisk_file a1 r1.2.1.files).b).length : Int) else a2))), _⟩
    refine s_move (d := (si (if (((lk_vdisk_file a1 r1.2.1.files).b).length : Int) < a2 then (((lk_vdisk_file a1 r1.2.1.files).b).length : Int) else a2))) rfl k
   ·intro K _ f w u k
    show Wp K ⟨41, (upd 41 f 8 (rf 3 0)), [_, _, _, _, _]⟩
    refine s_fieldRef F.fo_79_1 (by decide) rfl k
   ·intro K _ f w u k
    show Wp K ⟨41, (upd 41 f 35 (rf 3 1)), [_, _, _, (some (AObj.cells true (c_vdisk_file (lk_vdisk_file a1 r1.2.1.files)))), _]⟩
    refine s_load1 (c' := (ci ((lk_vdisk_file a1 r1.2.1.files).sure))) F.ag_3 rfl rfl k
   ·intro K _ f w u k
    show Wp K ⟨41, (upd 41 (upd 41 f 36 (si ((lk_vdisk_file a1 r1.2.1.files).sure))) 34 (si (if (((lk_vdisk_file a1 r1.2.1.files).b).length : Int) < a2 then (((lk_vdisk_file a1 r1.2.1.files).b).length : Int) else a2))), [_, _, _, _, _]⟩
    refine s_min2 (r := (if ((lk_vdisk_file a1 r1.2.1.files).sure) < (if (((lk_vdisk_file a1 r1.2.1.files).b).length : Int) < a2 then (((lk_vdisk_file a1 r1.2.1.files).b).length : Int) else a2) then ((lk_vdisk_file a1 r1.2.1.files).sure) else (if (((lk_vdisk_file a1 r1.2.1.files).b).length : Int) < a2 then (((lk_vdisk_file a1 r1.2.1.files).b).length : Int) else a2))) rfl rfl rfl k
   ·intro K _ f w u k
    show Wp K ⟨41, (upd 41 (upd 41 f 37 (si (if ((lk_vdisk_file a1 r1.2.1.files).sure) < (if (((lk_vdisk_file a1 r1.2.1.files).b).length : Int) < a2 then (((lk_vdisk_file a1 r1.2.1.files).b).length : Int) else a2) then ((lk_vdisk_file a1 r1.2.1.files).sure) else (if (((lk_vdisk_file a1 r1.2.1.files).b).length : Int) < a2 then (((lk_vdisk_file a1 r1.2.1.files).b).length : Int) else a2)))) 33 (D.one (C.p false (.sl (sub ((lk_vdisk_file a1 r1.2.1.files).b) 0 (if (((lk_vdisk_file a1 r1.2.1.files).b).length : Int) < a2 then (((lk_vdisk_file a1 r1.2.1.files).b).length : Int) else a2)).length ((sub ((lk_vdisk_file a1 r1.2.1.files).b) 0 (if (((lk_vdisk_file a1 r1.2.1.files).b).length : Int) < a2 then (((lk_vdisk_file a1 r1.2.1.files).b).length : Int) else a2)).flatMap e_u8))))), [_, _, _, _, _]⟩
    refine s_build (ps := [(0, (D.one (C.p false (.sl (sub ((lk_vdisk_file a1 r1.2.1.files).b) 0 (if (((lk_vdisk_file a1 r1.2.1.files).b).length : Int) < a2 then (((lk_vdisk_file a1 r1.2.1.files).b).length : Int) else a2)).length ((sub ((lk_vdisk_file a1 r1.2.1.files).b) 0 (if (((lk_vdisk_file a1 r1.2.1.files).b).length : Int) < a2 then (((lk_vdisk_file a1 r1.2.1.files).b).length : Int) else a2)).flatMap e_u8))))), (1, (si (if ((lk_vdisk_file a1 r1.2.1.files).sure) < (if (((lk_vdisk_file a1 r1.2.1.files).b).length : Int) < a2 then (((lk_vdisk_file a1 r1.2.1.files).b).length : Int) else a2) then ((lk_vdisk_file a1 r1.2.1.files).sure) else (if (((lk_vdisk_file a1 r1.2.1.files).b).length : Int) < a2 then (((lk_vdisk_file a1 r1.2.1.files).b).length : Int) else a2))))]) (cs := [(C.p false (.sl (sub ((lk_vdisk_file a1 r1.2.1.files).b) 0 (if (((lk_vdisk_file a1 r1.2.1.files).b).length : Int) < a2 then (((lk_vdisk_file a1 r1.2.1.files).b).length : Int) else a2)).length ((sub ((lk_vdisk_file a1 r1.2.1.files).b) 0 (if (((lk_vdisk_file a1 r1.2.1.files).b).length : Int) < a2 then (((lk_vdisk_file a1 r1.2.1.files).b).length : Int) else a2)).flatMap e_u8))), (ci (if ((lk_vdisk_file a1 r1.2.1.files).sure) < (if (((lk_vdisk_file a1 r1.2.1.files).b).length : Int) < a2 then (((lk_vdisk_file a1 r1.2.1.files).b).length : Int) else a2) then ((lk_vdisk_file a1 r1.2.1.files).sure) else (if (((lk_vdisk_file a1 r1.2.1.files).b).length : Int) < a2 then (((lk_vdisk_file a1 r1.2.1.files).b).length : Int) else a2)))]) F.z_79 rfl F.so_79 rfl rfl k
   ·intro K _ f w u k
    show Wp K ⟨41, (upd 41 (upd 41 (upd 41 f 38 (D.agg [(C.p false (.sl (sub ((lk_vdisk_file a1 r1.2.1.files).b) 0 (if (((lk_vdisk_file a1 r1.2.1.files).b).length : Int) < a2 then (((lk_vdisk_file a1 r1.2.1.files).b).length : Int) else a2)).length ((sub ((lk_vdisk_file a1 r1.2.1.files).b) 0 (if (((lk_vdisk_file a1 r1.2.1.files).b).length : Int) < a2 then (((lk_vdisk_file a1 r1.2.1.files).b).length : Int) else a2)).flatMap e_u8))), (ci (if ((lk_vdisk_file a1 r1.2.1.files).sure) < (if (((lk_vdisk_file a1 r1.2.1.files).b).length : Int) < a2 then (((lk_vdisk_file a1 r1.2.1.files).b).length : Int) else a2) then ((lk_vdisk_file a1 r1.2.1.files).sure) else (if (((lk_vdisk_file a1 r1.2.1.files).b).length : Int) < a2 then (((lk_vdisk_file a1 r1.2.1.files).b).length : Int) else a2)))])) 28 (st_ a1)) 27 (rf 0 0)), [(o_vdisk_Disk_03 false (C.mp 1) (C.ref 2 0) r1.2.1), (om_ e_vdisk_file r1.2.1.files), (bx r1.2.2), _, _]⟩
    refine cc [0, 1, 2] [(o_vdisk_Disk_03 false (C.mp 1) (C.ref 2 0) r4), (om_ e_vdisk_file r4.files), (bx r1.2.2), (w 3), (w 4)] (D.tup []) F.ca_36 rfl rfl (ac (.one (.ref rfl)) (ac (.one .sc) (ac (LendT.aggL (ac .imm (ac .sc an))) an))) (ac (.cells (ac (.mp rfl) (ac .sc (ac .sc (ac (.ref rfl) (ac .sc an)))))) (ac .map (ac (.cells (ac .sc an)) an))) (vdisk_Disk_set_36.meets _ r1.2.1 a1 (⟨sub ((lk_vdisk_file a1 r1.2.1.files).b) 0 (if (((lk_vdisk_file a1 r1.2.1.files).b).length : Int) < a2 then (((lk_vdisk_file a1 r1.2.1.files).b).length : Int) else a2), (if ((lk_vdisk_file a1 r1.2.1.files).sure) < (if (((lk_vdisk_file a1 r1.2.1.files).b).length : Int) < a2 then (((lk_vdisk_file a1 r1.2.1.files).b).length : Int) else a2) then ((lk_vdisk_file a1 r1.2.1.files).sure) else (if (((lk_vdisk_file a1 r1.2.1.files).b).length : Int) < a2 then (((lk_vdisk_file a1 r1.2.1.files).b).length : Int) else a2))⟩ : vdisk_file) r1.2.2 r4 er4) k
  ·refine AWops.weak (st' := ⟨41, (upd 41 topF 7 (si r1.1)), [(o_vdisk_Disk_03 false (C.mp 1) (C.ref 2 0) r4), (om_ e_vdisk_file r4.files), (bx r1.2.2)]⟩) (wg 3 [0, 1, 2] [] hx (le_upd (le_top _) (o1 .sc)) (ac (qr rfl rfl) (ac .map (ac qb an)))) (AWops.nil (AW.seq (AW.region ?_)))
   refine s_move (d := (si r1.1)) rfl (s_assign (d := (si r1.1)) rfl (AWops.nil (AW.ret ?_)))
   obtain rfl := Option.some.inj h
   exact ⟨_, rfl, (wg 3 [0, 1, 2] [] rfl (le_upd (le_top _) (o1 .sc)) (ac (qr rfl rfl) (ac .map (ac qb an))))⟩
 ·refine AW.cond_no rfl c2 (AW.skip (AW.seq (AW.region ?_)))
  refine s_move (d := (si r1.1)) rfl (s_assign (d := (si r1.1)) rfl (AWops.nil (AW.ret ?_)))
  obtain rfl := Option.some.inj h
  exact ⟨_, rfl, (wg 3 [0, 1, 2] [] rfl (le_upd (le_top _) (o1 .sc)) (ac (qr rfl rfl) (ac .map (ac qb an))))⟩
mutual
def journal_Journal_scan.j1 : Nat → Int → Int → Bool → (List (ByteArray × vdisk_file)) → Int → journal_Journal → (List (List Int)) → Option ((Option Unit) × Int × journal_Journal × vdisk_Disk × Int)
 | 0, _, _, _, _, _, _, _ => none
 | k + 1, x11, x12, x13, x14, x15, p0, x1 => (rd x1 0).bind fun v16 => if (decide (0 ≤ 1 ∧ 1 ≤ (x1.length : Int) ∧ (x1.length : Int) ≤ (x1.length : Int))) = true then (some (some (), 0, (⟨(), v16, sub x1 1 (x1.length : Int), p0.stopped⟩ : journal_Journal), (⟨x14, x11, x12, (), x13⟩ : vdisk_Disk), x15)) else none
def journal_Journal_scan.l0 : Nat → (List (List Int)) → Int → journal_Journal → (List Int) → vdisk_Disk → Int → Option ((Option Unit) × Int × journal_Journal × vdisk_Disk × Int)
 | 0, _, _, _, _, _, _ => none
 | k + 1, x1, x2, p0, a1, p1, p3 => if (decide (0 ≤ x2 ∧ x2 ≤ (a1.length : Int) ∧ (a1.length : Int) ≤ (a1.length : Int))) = true then ((journal_next.f k (sub a1 x2 (a1.length : Int))).bind fun r4 => if r4.2 = true then (if (decide (x1.length + ([r4.1] : List (List Int)).length ≤ 5864062014805)) = true then (journal_Journal_scan.l0 k (x1 ++ ([r4.1] : List (List Int))) (IntKind.i64.wrap (x2 + (IntKind.i64.wrap (8 + (r4.1.length : Int))))) p0 a1 p1 p3) else none) else (if ((x1.length : Int) == 0) = true then (some ((none : Option Unit), 72, (⟨(), p0.snap, p0.l, p0.stopped⟩ : journal_Journal), p1, p3)) else (if (decide (x2 < (a1.length : Int))) = true then ((vdisk_Disk_Truncate.f k p1 (⟨#[106, 111, 117, 114, 110, 97, 108]⟩ : ByteArray) x2 p3).bind fun r9 => if (r9.1 != 0) = true then (some ((none : Option Unit), r9.1, (⟨(), p0.snap, p0.l, p0.stopped⟩ : journal_Journal), r9.2.1, r9.2.2)) else (journal_Journal_scan.j1 k r9.2.1.room r9.2.1.used r9.2.1.dead r9.2.1.files r9.2.2 p0 x1)) else (journal_Journal_scan.j1 k p1.room p1.used p1.dead p1.files p3 p0 x1)))) else none
end
def journal_Journal_scan.f (k : Nat) (p0 : journal_Journal) (a1 : List Int) (p1 : vdisk_Disk) (p3 : Int) : Option ((Option Unit) × Int × journal_Journal × vdisk_Disk × Int) := journal_Journal_scan.l0 k ([] : List (List Int)) 0 p0 a1 p1 p3
theorem journal_Journal_scan.meets (k : Nat) (p0 : journal_Journal) (a1 : List Int) (p1 : vdisk_Disk) (p3 : Int) (r : (Option Unit) × Int × journal_Journal × vdisk_Disk × Int) (h : journal_Journal_scan.f k p0 a1 p1 p3 = some r) : Meets Try.prog 33 [(rf 0 0), (ds_ e_u8 a1)] [(o_journal_Journal_0 false (C.ref 1 0) p0), (o_vdisk_Disk_03 false (C.mp 2) (C.ref 3 0) p1), (om_ e_vdisk_file p1.files), (bx p3)] (optE r.1 (D.tup [(sc (.pointer none)), (si r.2.1)]) (fun z1 : Unit => (D.tup [(rf 0 0), (si r.2.1)]))) (optE r.1 [(o_journal_Journal_0 false (C.ref 1 0) r.2.2.1), (o_vdisk_Disk_03 false (C.mp 2) (C.ref 3 0) r.2.2.2.1), (om_ e_vdisk_file r.2.2.2.1.files), (bx r.2.2.2.2)] (fun z1 : Unit => [(o_journal_Journal_0 false (C.ref 1 0) r.2.2.1), (o_vdisk_Disk_03 false (C.mp 2) (C.ref 3 0) r.2.2.2.1), (om_ e_vdisk_file r.2.2.2.1.files), (bx r.2.2.2.2)])) := by
 unfold journal_Journal_scan.f at h
 refine Meets.of_body (n := 57) Try.func33 rfl rfl (nl rfl) fun x hx => ?_
 replace hx : x.k = 4 := hx
 show AW _ x _ _ ⟨57, fr0 [(rf 0 0), (ds_ e_u8 a1)], [(o_journal_Journal_0 false (C.ref 1 0) p0), (o_vdisk_Disk_03 false (C.mp 2) (C.ref 3 0) p1), (om_ e_vdisk_file p1.files), (bx p3)]⟩
 refine AW.seq (AW.region ?_)
 refine s_assign (d := (sc (.pointer none))) rfl (s_assign (d := (si 0)) rfl (AWops.nil (AW.seq (AW.region (s_assign (d := (sc (.slice none 0 0))) rfl (AWops.nil (AW.seq (AW.region (s_assign (d := (si 0)) rfl (AWops.nil (AW.seq (AW.block ?_))))))))))))
 refine AW.loopw (st0 := ⟨57, (upd 57 (upd 57 (upd 57 (upd 57 topF 0 (rf 0 0)) 1 (ds_ e_u8 a1)) 6 (D.one (C.own 4 0 ([] : List (List Int)).length 1))) 7 (si 0)), [(o_journal_Journal_0 false (C.ref 1 0) p0), (o_vdisk_Disk_03 false (C.mp 2) (C.ref 3 0) p1), (om_ e_vdisk_file p1.files), (bx p3), (some (AObj.cells true (rowC (e_sl e_u8) ([] : List (List Int)))))]⟩) (fun kv st => kv ≤ k ∧ ∃ (x1 : List (List Int)) (x2 : Int), journal_Journal_scan.l0 kv x1 x2 p0 a1 p1 p3 = some r ∧ st = ⟨57, (upd 57 (upd 57 (upd 57 (upd 57 topF 0 (rf 0 0)) 1 (ds_ e_u8 a1)) 6 (D.one (C.own 4 0 x1.length 1))) 7 (si x2)), [(o_journal_Journal_0 false (C.ref 1 0) p0), (o_vdisk_Disk_03 false (C.mp 2) (C.ref 3 0) p1), (om_ e_vdisk_file p1.files), (bx p3), (some (AObj.cells true (rowC (e_sl e_u8) x1)))]⟩) (k := k) (Weak.trans (Weak.nil (sz := 1) (i := 6) rfl) (wg 4 [0, 1, 2, 3, 4] [] hx (le_upd (le_upd (le_upd (le_upd (le_top _) (o1 (.ref rfl))) (o1 .same)) (o1 (.own rfl))) (o1 .sc)) (ac (.cells id (ac (.ref rfl) (ac .same (ac .same (ac .sc an))))) (ac (qr rfl rfl) (ac .map (ac qb (ac (.cells (fun _ => rfl) an) an))))))) ⟨Nat.le_refl _, ([] : List (List Int)), 0, h, rfl⟩ ?_
 rintro ql0 st ⟨hkl0, x1, x2, h, rfl⟩
 cases ql0 with
 | zero => exact absurd h (by simp [journal_Journal_scan.l0])
 | succ ql0 =>
  replace h := (journal_Journal_scan.l0.eq_2 _ _ _ _ _ _ _).symm.trans h
  refine AW.block (AW.seq (AW.region ?_))
  refine s_move (d := (ds_ e_u8 a1)) rfl (s_move (d := (si x2)) rfl ?_)
  obtain ⟨c3, h⟩ := gdH h
  have dc3 := of_decide_eq_true c3
  refine t_sliceImm (a := x2) (b := (a1.length : Int)) F.u_22 F.sz_5 e_u8_len rfl (by omega) (by omega) (by omega) (.yes rfl (by omega) rfl) .no ?_
  obtain ⟨r4, er4, h⟩ := bnd h
  refine cc [] [(o_journal_Journal_0 false (C.ref 1 0) p0), (o_vdisk_Disk_03 false (C.mp 2) (C.ref 3 0) p1), (om_ e_vdisk_file p1.files), (bx p3), (some (AObj.cells true (rowC (e_sl e_u8) x1)))] (D.tup [(ds_ e_u8 r4.1), (sb r4.2)]) F.ca_60 rfl rfl (ac (.one .imm) an) an (journal_next.meets _ (sub a1 x2 (a1.length : Int)) r4 er4) (s_move (d := (D.tup [(ds_ e_u8 r4.1), (sb r4.2)])) rfl (s_extract (d := (ds_ e_u8 r4.1)) rfl rfl (s_extract (d := (sb r4.2)) rfl rfl (s_assign (d := (ds_ e_u8 r4.1)) rfl (s_assign (d := (sb r4.2)) rfl (AWops.nil (AW.seq (AW.seq (AW.region ?_)))))))))
  refine s_move (d := (sb r4.2)) rfl (s_not rfl (AWops.nil ?_))
  rcases itH h with ⟨c5, h⟩ | ⟨c5, h⟩
  ·refine AW.cond_no rfl (by rw [c5] <;> rfl) (AW.skip (AW.seq (AW.region ?_)))
   refine s_move (d := (D.one (C.own 4 0 x1.length 1))) rfl (s_move (d := (ds_ e_u8 r4.1)) rfl (s_buildSlice (n := 1) (ps := [(0, (ds_ e_u8 r4.1))]) (cs := rowC (e_sl e_u8) ([r4.1] : List (List Int))) F.u_25 F.sz_22 F.z_22 rfl rfl (by decide) (by decide) rfl rfl ?_))
   obtain ⟨c6, h⟩ := gdH h
   have dc6 := of_decide_eq_true c6
   refine t_append (xs := x1) (ys := ([r4.1] : List (List Int))) (zs := x1 ++ ([r4.1] : List (List Int))) (H' := [(o_journal_Journal_0 false (C.ref 1 0) p0), (o_vdisk_Disk_03 false (C.mp 2) (C.ref 3 0) p1), (om_ e_vdisk_file p1.files), (bx p3), none, (some (AObj.cells true (rowC (e_sl e_u8) ([r4.1] : List (List Int))))), (some (AObj.cells true (rowC (e_sl e_u8) (x1 ++ ([r4.1] : List (List Int))))))]) F.u_25 F.in_22 rfl (e_sl_len _) (.own rfl rfl) (.own rfl rfl) F.u_25 (by omega) (by omega) rfl rfl (s_assign (d := (D.one (C.own 6 0 ((x1 ++ ([r4.1] : List (List Int))).length) 1))) rfl (AWops.nil (AW.region (s_move (d := (si x2)) rfl (s_move (d := (ds_ e_u8 r4.1)) rfl (s_len (n := r4.1.length) F.u_22 rfl (.inr ⟨(fun _ _ h => by cases h), ⟨_, rfl⟩⟩) (s_binI (v := (.int .i64 (IntKind.i64.wrap (8 + (r4.1.length : Int))))) rfl rfl rfl ?_)))))))
   refine s_binI (v := (.int .i64 (IntKind.i64.wrap (x2 + (IntKind.i64.wrap (8 + (r4.1.length : Int))))))) rfl rfl rfl (s_assign (d := (si (IntKind.i64.wrap (x2 + (IntKind.i64.wrap (8 + (r4.1.length : Int))))))) rfl (AWops.nil ?_))
   exact ⟨_, ⟨57, (upd 57 (upd 57 (upd 57 (upd 57 topF 0 (rf 0 0)) 1 (ds_ e_u8 a1)) 6 (D.one (C.own 4 0 (x1 ++ ([r4.1] : List (List Int))).length 1))) 7 (si (IntKind.i64.wrap (x2 + (IntKind.i64.wrap (8 + (r4.1.length : Int))))))), [(o_journal_Journal_0 false (C.ref 1 0) p0), (o_vdisk_Disk_03 false (C.mp 2) (C.ref 3 0) p1), (om_ e_vdisk_file p1.files), (bx p3), (some (AObj.cells true (rowC (e_sl e_u8) (x1 ++ ([r4.1] : List (List Int))))))]⟩, by omega, (wg 4 [0, 1, 2, 3, 6] [] hx (le_upd (le_upd (le_upd (le_upd (le_top _) (o1 (.ref rfl))) (o1 .same)) (o1 (.own rfl))) (o1 .sc)) (ac (.cells id (ac (.ref rfl) (ac .same (ac .same (ac .sc an))))) (ac (qr rfl rfl) (ac .map (ac qb (ac (.cells (fun _ => rfl) (all2_row _)) an)))))), by omega, x1 ++ ([r4.1] : List (List Int)), IntKind.i64.wrap (x2 + (IntKind.i64.wrap (8 + (r4.1.length : Int)))), h, rfl⟩
  ·refine AW.cond_yes rfl (by rw [c5] <;> rfl) (AW.exit (AW.seq (AW.seq (AW.region ?_))))
   refine s_move (d := (D.one (C.own 4 0 x1.length 1))) rfl (s_len (n := x1.length) F.u_25 rfl (.inr ⟨(fun _ _ h => by cases h), ⟨_, rfl⟩⟩) (s_binI (v := (.bool ((x1.length : Int) == 0))) rfl rfl rfl (AWops.nil ?_)))
   rcases itH h with ⟨c7, h⟩ | ⟨c7, h⟩
   ·refine AW.cond_yes rfl c7 (AW.seq (AW.region ?_))
    refine s_assign (d := (sc (.pointer none))) rfl (s_assign (d := (si 72)) rfl (AWops.nil (AW.ret ?_)))
    obtain rfl := Option.some.inj h
    exact ⟨_, rfl, (wg 4 [0, 1, 2, 3] [] rfl (le_upd (le_top _) (DLe.tup (ac (TLe.one .sc) (ac (TLe.one .sc) an)))) (ac (.cells id (ac (.ref rfl) (ac .same (ac .same (ac .sc an))))) (ac (qr rfl rfl) (ac .map (ac qb an)))))⟩
   ·refine AW.cond_no rfl c7 (AW.skip ?_)
    refine AW.seqJ (fun st => ∃ (x11 : Int) (x12 : Int) (x13 : Bool) (x14 : List (ByteArray × vdisk_file)) (x15 : Int), journal_Journal_scan.j1 ql0 x11 x12 x13 x14 x15 p0 x1 = some r ∧ st = ⟨57, (upd 57 (upd 57 topF 0 (rf 0 0)) 6 (D.one (C.own 4 0 x1.length 1))), [(o_journal_Journal_0 false (C.ref 1 0) p0), (some (AObj.cells false [(C.mp 2), (ci x11), (ci x12), (C.ref 3 0), (cb x13)])), (om_ e_vdisk_file x14), (bx x15), (some (AObj.cells true (rowC (e_sl e_u8) x1)))]⟩) ?_ ?_
    ·refine AW.seq (AW.region ?_)
     refine s_move (d := (si x2)) rfl (s_move (d := (ds_ e_u8 a1)) rfl (s_len (n := a1.length) F.u_22 rfl (.inr ⟨(fun _ _ h => by cases h), ⟨_, rfl⟩⟩) (s_binI (v := (.bool (decide (x2 < (a1.length : Int))))) rfl rfl rfl (AWops.nil ?_))))
     rcases itH h with ⟨c8, h⟩ | ⟨c8, h⟩
     ·refine AW.cond_yes rfl c8 (AW.seq (AW.region ?_))
      refine s_move (d := (rf 0 0)) rfl (s_nilCheck (d := (rf 0 0)) rfl (.inl ⟨_, _, rfl⟩) (s_fieldRef F.fo_27_0 (by decide) rfl (s_load1 (c' := (C.ref 1 0)) F.ag_24 rfl rfl (s_move (d := (si x2)) rfl ?_))))
      obtain ⟨r9, er9, h⟩ := bnd h
      refine cc [1, 2, 3] [(o_journal_Journal_0 false (C.ref 1 0) p0), (o_vdisk_Disk_03 false (C.mp 2) (C.ref 3 0) r9.2.1), (om_ e_vdisk_file r9.2.1.files), (bx r9.2.2), (some (AObj.cells true (rowC (e_sl e_u8) x1)))] (si r9.1) F.ca_44 rfl rfl (ac (.one (.ref rfl)) (ac (.one .sc) (ac (.one .sc) an))) (ac (.cells (ac (.mp rfl) (ac .sc (ac .sc (ac (.ref rfl) (ac .sc an)))))) (ac .map (ac (.cells (ac .sc an)) an))) (vdisk_Disk_Truncate.meets _ p1 (⟨#[106, 111, 117, 114, 110, 97, 108]⟩ : ByteArray) x2 p3 r9 er9) (s_assign (d := (si r9.1)) rfl (AWops.nil (AW.seq (AW.region (s_move (d := (si r9.1)) rfl (s_binI (v := (.bool (r9.1 != 0))) rfl rfl rfl (AWops.nil ?_)))))))
      rcases itH h with ⟨c10, h⟩ | ⟨c10, h⟩
      ·refine AW.cond_yes rfl c10 (AW.seq (AW.region ?_))
       refine s_move (d := (si r9.1)) rfl (s_assign (d := (sc (.pointer none))) rfl (s_assign (d := (si r9.1)) rfl (AWops.nil (AW.ret ?_))))
       obtain rfl := Option.some.inj h
       exact ⟨_, rfl, (wg 4 [0, 1, 2, 3] [] rfl (le_upd (le_top _) (DLe.tup (ac (TLe.one .sc) (ac (TLe.one .sc) an)))) (ac (.cells id (ac (.ref rfl) (ac .same (ac .same (ac .sc an))))) (ac (qr rfl rfl) (ac .map (ac qb an)))))⟩
      ·refine AW.cond_no rfl c10 (AW.skip ?_)
       exact ⟨⟨57, (upd 57 (upd 57 topF 0 (rf 0 0)) 6 (D.one (C.own 4 0 x1.length 1))), [(o_journal_Journal_0 false (C.ref 1 0) p0), (some (AObj.cells false [(C.mp 2), (ci r9.2.1.room), (ci r9.2.1.used), (C.ref 3 0), (cb r9.2.1.dead)])), (om_ e_vdisk_file r9.2.1.files), (bx r9.2.2), (some (AObj.cells true (rowC (e_sl e_u8) x1)))]⟩, (wg 4 [0, 1, 2, 3, 4] [] hx (le_upd (le_upd (le_top _) (o1 (.ref rfl))) (o1 (.own rfl))) (ac (.cells id (ac (.ref rfl) (ac .same (ac .same (ac .sc an))))) (ac (qr rfl rfl) (ac .map (ac qb (ac (.cells (fun _ => rfl) (all2_row _)) an)))))), r9.2.1.room, r9.2.1.used, r9.2.1.dead, r9.2.1.files, r9.2.2, h, rfl⟩
     ·refine AW.cond_no rfl c8 (AW.skip ?_)
      exact ⟨⟨57, (upd 57 (upd 57 topF 0 (rf 0 0)) 6 (D.one (C.own 4 0 x1.length 1))), [(o_journal_Journal_0 false (C.ref 1 0) p0), (some (AObj.cells false [(C.mp 2), (ci p1.room), (ci p1.used), (C.ref 3 0), (cb p1.dead)])), (om_ e_vdisk_file p1.files), (bx p3), (some (AObj.cells true (rowC (e_sl e_u8) x1)))]⟩, (wg 4 [0, 1, 2, 3, 4] [] hx (le_upd (le_upd (le_top _) (o1 (.ref rfl))) (o1 (.own rfl))) (ac (.cells id (ac (.ref rfl) (ac .same (ac .same (ac .sc an))))) (ac (qr rfl rfl) (ac .map (ac qb (ac (.cells (fun _ => rfl) (all2_row _)) an)))))), p1.room, p1.used, p1.dead, p1.files, p3, h, rfl⟩
    ·rintro st ⟨x11, x12, x13, x14, x15, h, rfl⟩
     cases ql0 with
     | zero => exact absurd h (by simp [journal_Journal_scan.j1])
     | succ qj1 =>
      replace h := (journal_Journal_scan.j1.eq_2 _ _ _ _ _ _ _ _).symm.trans h
      refine AW.seq ?_
      refine AW.weak (st' := ⟨57, (upd 57 (upd 57 topF 0 (rf 0 0)) 6 (D.one (C.p false (.sl x1.length (x1.flatMap (e_sl e_u8)))))), [(o_journal_Journal_0 false (C.ref 1 0) p0), (some (AObj.cells false [(C.mp 2), (ci x11), (ci x12), (C.ref 3 0), (cb x13)])), (om_ e_vdisk_file x14), (bx x15)]⟩) (wg 4 [0, 1, 2, 3] [4] hx (le_upd (le_upd (le_top _) (o1 (.ref rfl))) (o1 (CLe.frz (e_sl_len _) rfl rfl rfl))) (ac (.cells id (ac (.ref rfl) (ac .same (ac .same (ac .sc an))))) (ac (qr rfl rfl) (ac .map (ac qb an))))) ?_
      refine AW.weak (st' := ⟨57, (upd 57 (upd 57 topF 0 (rf 0 0)) 6 (D.one (C.p false (.sl x1.length (x1.flatMap (e_sl e_u8)))))), [(o_journal_Journal_0 false (C.ref 1 0) p0), (some (AObj.cells false [(C.mp 2), (ci x11), (ci x12), (C.ref 3 0), (cb x13)])), (om_ e_vdisk_file x14), (bx x15)]⟩) (wg 4 [0, 1, 2, 3] [] hx (le_upd (le_upd (le_top _) (o1 (.ref rfl))) (o1 .same)) (ac (.cells id (ac (.ref rfl) (ac .same (ac .same (ac .sc an))))) (ac (qr rfl rfl) (ac .map (ac qb an))))) ?_
      obtain ⟨v16, ev16, h⟩ := bnd h
      obtain ⟨pv16, qv16, gv16⟩ := rd_some ev16
      obtain ⟨c17, h⟩ := gdH h
      have dc17 := of_decide_eq_true c17
      refine AW.draw (n := 57) (L := 4) [(ft 0 45 (rf 0 0) [(0, (rf 0 0))]), (ft 1 46 (rf 0 0) [(0, (rf 0 0))]), (ft 2 47 (D.one (C.p false (.sl x1.length (x1.flatMap (e_sl e_u8))))) [(6, (D.one (C.p false (.sl x1.length (x1.flatMap (e_sl e_u8))))))]), (ft 3 48 (D.one (C.peek false [P.sl v16.length (v16.flatMap e_u8)])) [(47, (D.one (C.p false (.sl x1.length (x1.flatMap (e_sl e_u8))))))]), (ft 4 49 (ds_ e_u8 v16) [(48, (D.one (C.peek false [P.sl v16.length (v16.flatMap e_u8)])))]), (ft 5 50 (D.one (C.p false (.sl x1.length (x1.flatMap (e_sl e_u8))))) [(6, (D.one (C.p false (.sl x1.length (x1.flatMap (e_sl e_u8))))))]), (ft 6 51 (D.one (C.p false (.sl (sub x1 1 (x1.length : Int)).length ((sub x1 1 (x1.length : Int)).flatMap (e_sl e_u8))))) [(50, (D.one (C.p false (.sl x1.length (x1.flatMap (e_sl e_u8))))))]), (ft 7 52 (rf 0 0) [(45, (rf 0 0))]), (ft 8 53 (rf 0 1) [(52, (rf 0 0))]), (9, ⟨none, (D.one C.top), [(49, (ds_ e_u8 v16)), (53, (rf 0 1))], [(0, (o_journal_Journal_0 false (C.ref 1 0) p0))], [(0, (some (AObj.cells false [(C.ref 1 0), (cl_ e_u8 v16), (C.p false (.sl p0.l.length (p0.l.flatMap (e_sl e_u8)))), (cb p0.stopped)])))], none⟩), (ft 10 54 (rf 0 0) [(46, (rf 0 0))]), (ft 11 55 (rf 0 2) [(54, (rf 0 0))]), (12, ⟨none, (D.one C.top), [(51, (D.one (C.p false (.sl (sub x1 1 (x1.length : Int)).length ((sub x1 1 (x1.length : Int)).flatMap (e_sl e_u8)))))), (55, (rf 0 2))], [(0, (some (AObj.cells false [(C.ref 1 0), (cl_ e_u8 v16), (C.p false (.sl p0.l.length (p0.l.flatMap (e_sl e_u8)))), (cb p0.stopped)])))], [(0, (some (AObj.cells false [(C.ref 1 0), (cl_ e_u8 v16), (C.p false (.sl (sub x1 1 (x1.length : Int)).length ((sub x1 1 (x1.length : Int)).flatMap (e_sl e_u8)))), (cb p0.stopped)])))], none⟩)] [[], [], [], [2], [2, 3], [], [5], [0, 2, 3, 4], [0, 2, 3, 4, 7], [0, 2, 3, 4, 7, 8], (.range 10), (.range 11), (.range 12)] (nl rfl) [0, 6, 0, 1, 2, 0, 1, 3, 4, 5, 7, 8, 9] rfl (TK := []) rfl AllK.nil' (by repeat (first | refine fC ⟨?_, ?_⟩ ?_ | refine sC rfl ?_ | refine hC rfl ?_ | trivial)) ?_ ?_
      ·refine y8 ?_ ?_ ?_ ?_ ?_ ?_ ?_ ?_ (y4 ?_ ?_ ?_ ?_ (pC ?_ yN))
       ·intro K _ f w u k
        show Wp K ⟨57, (upd 57 f 0 (rf 0 0)), _⟩
        refine s_move (d := (rf 0 0)) rfl k
       ·intro K _ f w u k
        show Wp K ⟨57, (upd 57 f 0 (rf 0 0)), _⟩
        refine s_move (d := (rf 0 0)) rfl k
       ·intro K _ f w u k
        show Wp K ⟨57, (upd 57 f 6 (D.one (C.p false (.sl x1.length (x1.flatMap (e_sl e_u8)))))), _⟩
        refine s_move (d := (D.one (C.p false (.sl x1.length (x1.flatMap (e_sl e_u8)))))) rfl k
       ·intro K _ f w u k
        show Wp K ⟨57, (upd 57 f 47 (D.one (C.p false (.sl x1.length (x1.flatMap (e_sl e_u8)))))), [_, _, _, _]⟩
        refine s_indexImm (ps := [P.sl v16.length (v16.flatMap e_u8)]) F.u_25 F.sz_22 rfl rfl pv16 qv16 (flat_at (e_sl_len _) gv16 (e_sl_eq _ v16)) k
       ·intro K _ f w u k
        show Wp K ⟨57, (upd 57 f 48 (D.one (C.peek false [P.sl v16.length (v16.flatMap e_u8)]))), [_, _, _, _]⟩
        refine s_load1 (c' := (cl_ e_u8 v16)) F.ag_22 rfl rfl k
       ·intro K _ f w u k
        show Wp K ⟨57, (upd 57 f 6 (D.one (C.p false (.sl x1.length (x1.flatMap (e_sl e_u8)))))), _⟩
        refine s_move (d := (D.one (C.p false (.sl x1.length (x1.flatMap (e_sl e_u8)))))) rfl k
       ·intro K _ f w u k
        show Wp K ⟨57, (upd 57 f 50 (D.one (C.p false (.sl x1.length (x1.flatMap (e_sl e_u8)))))), [_, _, _, _]⟩
        refine t_sliceImm (a := 1) (b := (x1.length : Int)) F.u_25 F.sz_22 (e_sl_len _) rfl (by omega) (by omega) (by omega) (.yes rfl (by omega) rfl) .no k
       ·intro K _ f w u k
        show Wp K ⟨57, (upd 57 f 45 (rf 0 0)), [_, _, _, _]⟩
        refine s_nilCheck (d := (rf 0 0)) rfl (.inl ⟨_, _, rfl⟩) k
       ·intro K _ f w u k
        show Wp K ⟨57, (upd 57 f 52 (rf 0 0)), [_, _, _, _]⟩
        refine s_fieldRef F.fo_27_1 (by decide) rfl k
       ·intro K _ f w u k
        show Wp K ⟨57, (upd 57 (upd 57 f 53 (rf 0 1)) 49 (ds_ e_u8 v16)), [(o_journal_Journal_0 false (C.ref 1 0) p0), _, _, _]⟩
        refine s_store (cs' := [(C.ref 1 0), (cl_ e_u8 v16), (C.p false (.sl p0.l.length (p0.l.flatMap (e_sl e_u8)))), (cb p0.stopped)]) rfl rfl rfl (List.cons_ne_nil _ _) rfl F.sz_22 (nl rfl) rfl k
       ·intro K _ f w u k
        show Wp K ⟨57, (upd 57 f 46 (rf 0 0)), [_, _, _, _]⟩
        refine s_nilCheck (d := (rf 0 0)) rfl (.inl ⟨_, _, rfl⟩) k
       ·intro K _ f w u k
        show Wp K ⟨57, (upd 57 f 54 (rf 0 0)), [_, _, _, _]⟩
        refine s_fieldRef F.fo_27_2 (by decide) rfl k
       ·intro K _ f w u k
        show Wp K ⟨57, (upd 57 (upd 57 f 55 (rf 0 2)) 51 (D.one (C.p false (.sl (sub x1 1 (x1.length : Int)).length ((sub x1 1 (x1.length : Int)).flatMap (e_sl e_u8)))))), [(some (AObj.cells false [(C.ref 1 0), (cl_ e_u8 v16), (C.p false (.sl p0.l.length (p0.l.flatMap (e_sl e_u8)))), (cb p0.stopped)])), _, _, _]⟩
        refine s_store (cs' := [(C.ref 1 0), (cl_ e_u8 v16), (C.p false (.sl (sub x1 1 (x1.length : Int)).length ((sub x1 1 (x1.length : Int)).flatMap (e_sl e_u8)))), (cb p0.stopped)]) rfl rfl rfl (List.cons_ne_nil _ _) rfl F.sz_25 (nl rfl) rfl k
      ·refine AWops.weak (st' := ⟨57, (upd 57 topF 0 (rf 0 0)), [(some (AObj.cells false [(C.ref 1 0), (cl_ e_u8 v16), (C.p false (.sl (sub x1 1 (x1.length : Int)).length ((sub x1 1 (x1.length : Int)).flatMap (e_sl e_u8)))), (cb p0.stopped)])), (some (AObj.cells false [(C.mp 2), (ci x11), (ci x12), (C.ref 3 0), (cb x13)])), (om_ e_vdisk_file x14), (bx x15)]⟩) (wg 4 [0, 1, 2, 3] [] hx (le_upd (le_top _) (o1 (.ref rfl))) (ac (.cells id (ac (.ref rfl) (ac .same (ac .same (ac .sc an))))) (ac (qr rfl rfl) (ac .map (ac qb an))))) (AWops.nil (AW.seq (AW.region ?_)))
       refine s_move (d := (rf 0 0)) rfl (s_assign (d := (rf 0 0)) rfl (s_assign (d := (si 0)) rfl (AWops.nil (AW.ret ?_))))
       obtain rfl := Option.some.inj h
       exact ⟨_, rfl, (wg 4 [0, 1, 2, 3] [] rfl (le_upd (le_top _) (DLe.tup (ac (TLe.one (.ref rfl)) (ac (TLe.one .sc) an)))) (ac (.cells id (ac (.ref rfl) (ac .same (ac .same (ac .sc an))))) (ac (qr rfl rfl) (ac .map (ac qb an)))))⟩
mutual
def journal_Open.j0 : Nat → Bool → (List Int) → (Int × vdisk_Disk × Int) → Option ((Option journal_Journal) × Int × vdisk_Disk × Int)
 | 0, _, _, _ => none
 | k + 1, x3, a1, r1 => if x3 = true then ((vdisk_Disk_Read_32.f k r1.2.1 (⟨#[106, 111, 117, 114, 110, 97, 108]⟩ : ByteArray) r1.2.2).bind fun r5 => if (r5.2 == 0) = true then ((journal_Journal_scan.f k (⟨(), ([] : List Int), ([] : List (List Int)), false⟩ : journal_Journal) r5.1 r1.2.1 r1.2.2).bind fun r7 => optE r7.1 (some ((none : Option journal_Journal), r7.2.1, r7.2.2.2.1, r7.2.2.2.2)) (fun y9 => some (some (⟨(), r7.2.2.1.snap, r7.2.2.1.l, r7.2.2.1.stopped⟩ : journal_Journal), r7.2.1, r7.2.2.2.1, r7.2.2.2.2))) else (if (r5.2 != 33) = true then (some ((none : Option journal_Journal), r5.2, r1.2.1, r1.2.2)) else (if (decide ((a1.length : Int) > 4194304)) = true then (some ((none : Option journal_Journal), 1, r1.2.1, r1.2.2)) else ((journal_replace_29.f k r1.2.1 a1 r1.2.2).bind fun r12 => if (r12.1 != 0) = true then (some ((none : Option journal_Journal), r12.1, r12.2.1, r12.2.2)) else ((slices_Clone_byte_byte.f k a1).bind fun r14 => some (some (⟨(), r14, ([] : List (List Int)), false⟩ : journal_Journal), 0, r12.2.1, r12.2.2)))))) else (some ((none : Option journal_Journal), r1.1, r1.2.1, r1.2.2))
end
def journal_Open.f (k : Nat) (p0 : vdisk_Disk) (a1 : List Int) (p2 : Int) : Option ((Option journal_Journal) × Int × vdisk_Disk × Int) := (vdisk_Disk_Remove_31.f k p0 (⟨#[106, 111, 117, 114, 110, 97, 108, 46, 110, 101, 119]⟩ : ByteArray) p2).bind fun r1 => if (r1.1 == 0) = true then (journal_Open.j0 k (r1.1 == 0) a1 r1) else (journal_Open.j0 k (r1.1 == 33) a1 r1)
theorem journal_Open.meets (k : Nat) (p0 : vdisk_Disk) (a1 : List Int) (p2 : Int) (r : (Option journal_Journal) × Int × vdisk_Disk × Int) (h : journal_Open.f k p0 a1 p2 = some r) : Meets Try.prog 12 [(rf 0 0), (ds_ e_u8 a1)] [(o_vdisk_Disk_03 false (C.mp 1) (C.ref 2 0) p0), (om_ e_vdisk_file p0.files), (bx p2)] (optE r.1 (D.tup [(sc (.pointer none)), (si r.2.1)]) (fun z1 : journal_Journal => (D.tup [(rf 3 0), (si r.2.1)]))) (optE r.1 [(o_vdisk_Disk_03 false (C.mp 1) (C.ref 2 0) r.2.2.1), (om_ e_vdisk_file r.2.2.1.files), (bx r.2.2.2)] (fun z1 : journal_Journal => [(o_vdisk_Disk_03 false (C.mp 1) (C.ref 2 0) r.2.2.1), (om_ e_vdisk_file r.2.2.1.files), (bx r.2.2.2), (o_journal_Journal_0 true (C.ref 0 0) z1)])) := by
 unfold journal_Open.f at h
 refine Meets.of_body (n := 54) Try.func12 rfl rfl (nl rfl) fun x hx => ?_
 replace hx : x.k = 3 := hx
 show AW _ x _ _ ⟨54, fr0 [(rf 0 0), (ds_ e_u8 a1)], [(o_vdisk_Disk_03 false (C.mp 1) (C.ref 2 0) p0), (om_ e_vdisk_file p0.files), (bx p2)]⟩
 refine AW.seq (AW.region ?_)
 refine s_assign (d := (sc (.pointer none))) rfl (s_assign (d := (si 0)) rfl (AWops.nil (AW.seq (AW.seq (AW.region (s_move (d := (rf 0 0)) rfl ?_))))))
 obtain ⟨r1, er1, h⟩ := bnd h
 refine cc [0, 1, 2] [(o_vdisk_Disk_03 false (C.mp 1) (C.ref 2 0) r1.2.1), (om_ e_vdisk_file r1.2.1.files), (bx r1.2.2)] (si r1.1) F.ca_31 rfl rfl (ac (.one (.ref rfl)) (ac (.one .sc) an)) (ac (.cells (ac (.mp rfl) (ac .sc (ac .sc (ac (.ref rfl) (ac .sc an)))))) (ac .map (ac (.cells (ac .sc an)) an))) (vdisk_Disk_Remove_31.meets _ p0 (⟨#[106, 111, 117, 114, 110, 97, 108, 46, 110, 101, 119]⟩ : ByteArray) p2 r1 er1) (s_assign (d := (si r1.1)) rfl (AWops.nil (AW.seq (AW.region (s_move (d := (si r1.1)) rfl (AWops.nil (AW.block ?_)))))))
 refine AW.seqJ (fun st => ∃ (x3 : Bool), journal_Open.j0 k x3 a1 r1 = some r ∧ st = ⟨54, (upd 54 (upd 54 (upd 54 (upd 54 topF 0 (rf 0 0)) 1 (ds_ e_u8 a1)) 6 (si r1.1)) 15 (sb x3)), [(o_vdisk_Disk_03 false (C.mp 1) (C.ref 2 0) r1.2.1), (om_ e_vdisk_file r1.2.1.files), (bx r1.2.2)]⟩) ?_ ?_
 ·refine AW.seq (AW.region ?_)
  refine s_binI (v := (.bool (r1.1 == 0))) rfl rfl rfl (s_assign (d := (sb (r1.1 == 0))) rfl (AWops.nil ?_))
  rcases itH h with ⟨c2, h⟩ | ⟨c2, h⟩
  ·refine AW.cond_yes rfl c2 (AW.skip ?_)
   exact ⟨⟨54, (upd 54 (upd 54 (upd 54 (upd 54 topF 0 (rf 0 0)) 1 (ds_ e_u8 a1)) 6 (si r1.1)) 15 (sb (r1.1 == 0))), [(o_vdisk_Disk_03 false (C.mp 1) (C.ref 2 0) r1.2.1), (om_ e_vdisk_file r1.2.1.files), (bx r1.2.2)]⟩, (wg 3 [0, 1, 2] [] hx (le_upd (le_upd (le_upd (le_upd (le_top _) (o1 (.ref rfl))) (o1 .same)) (o1 .sc)) (o1 .sc)) (ac (qr rfl rfl) (ac .map (ac qb an)))), (r1.1 == 0), h, rfl⟩
  ·refine AW.cond_no rfl c2 (AW.region ?_)
   refine s_binI (v := (.bool (r1.1 == 33))) rfl rfl rfl (s_assign (d := (sb (r1.1 == 33))) rfl (AWops.nil ?_))
   exact ⟨⟨54, (upd 54 (upd 54 (upd 54 (upd 54 topF 0 (rf 0 0)) 1 (ds_ e_u8 a1)) 6 (si r1.1)) 15 (sb (r1.1 == 33))), [(o_vdisk_Disk_03 false (C.mp 1) (C.ref 2 0) r1.2.1), (om_ e_vdisk_file r1.2.1.files), (bx r1.2.2)]⟩, (wg 3 [0, 1, 2] [] hx (le_upd (le_upd (le_upd (le_upd (le_top _) (o1 (.ref rfl))) (o1 .same)) (o1 .sc)) (o1 .sc)) (ac (qr rfl rfl) (ac .map (ac qb an)))), (r1.1 == 33), h, rfl⟩
 ·rintro st ⟨x3, h, rfl⟩
  cases k with
  | zero => exact absurd h (by simp [journal_Open.j0])
  | succ qj0 =>
   replace h := (journal_Open.j0.eq_2 _ _ _ _).symm.trans h
   rcases itH h with ⟨c4, h⟩ | ⟨c4, h⟩
   ·refine AW.cond_yes rfl c4 (AW.skip (AW.seq (AW.region ?_)))
    refine s_move (d := (rf 0 0)) rfl (s_build (ps := [(0, (rf 0 0))]) (cs := [(C.ref 0 0), (C.p true (.v (.slice none 0 0))), (C.p true (.v (.slice none 0 0))), (cb false)]) F.z_27 rfl F.so_27 rfl rfl (s_box (cs := [(C.ref 0 0), (C.p true (.v (.slice none 0 0))), (C.p true (.v (.slice none 0 0))), (cb false)]) rfl (List.cons_ne_nil _ _) rfl (s_assign (d := (rf 3 0)) rfl (AWops.nil (AW.seq (AW.region (s_move (d := (rf 0 0)) rfl ?_)))))))
    obtain ⟨r5, er5, h⟩ := bnd h
    refine cc [0, 1, 2] [(o_vdisk_Disk_03 false (C.mp 1) (C.ref 2 0) r1.2.1), (om_ e_vdisk_file r1.2.1.files), (bx r1.2.2), (some (AObj.cells true [(C.ref 0 0), (C.p true (.v (.slice none 0 0))), (C.p true (.v (.slice none 0 0))), (cb false)]))] (D.tup [(ds_ e_u8 r5.1), (si r5.2)]) F.ca_32 rfl rfl (ac (.one (.ref rfl)) (ac (.one .sc) an)) (ac (.cells (ac (.mp rfl) (ac .sc (ac .sc (ac (.ref rfl) (ac .sc an)))))) (ac .map (ac (.cells (ac .sc an)) an))) (vdisk_Disk_Read_32.meets _ r1.2.1 (⟨#[106, 111, 117, 114, 110, 97, 108]⟩ : ByteArray) r1.2.2 r5 er5) (s_move (d := (D.tup [(ds_ e_u8 r5.1), (si r5.2)])) rfl (s_extract (d := (ds_ e_u8 r5.1)) rfl rfl (s_extract (d := (si r5.2)) rfl rfl (s_assign (d := (ds_ e_u8 r5.1)) rfl (s_assign (d := (si r5.2)) rfl (AWops.nil (AW.seq (AW.block (AW.seq (AW.region ?_))))))))))
    refine s_move (d := (si r5.2)) rfl (s_binI (v := (.bool (r5.2 == 0))) rfl rfl rfl (s_assign (d := (sb (r5.2 == 0))) rfl (AWops.nil ?_)))
    rcases itH h with ⟨c6, h⟩ | ⟨c6, h⟩
    ·refine AW.cond_yes rfl c6 (AW.seq (AW.region ?_))
     refine s_move (d := (rf 3 0)) rfl (s_move (d := (ds_ e_u8 r5.1)) rfl ?_)
     obtain ⟨r7, er7, h⟩ := bnd h
     rcases optH h with ⟨c8, h⟩ | ⟨y9, c8, h⟩
     ·refine cc [3, 0, 1, 2] [(o_vdisk_Disk_03 false (C.mp 1) (C.ref 2 0) r7.2.2.2.1), (om_ e_vdisk_file r7.2.2.2.1.files), (bx r7.2.2.2.2), (o_journal_Journal_0 true (C.ref 0 0) r7.2.2.1)] (D.tup [(sc (.pointer none)), (si r7.2.1)]) F.ca_33 rfl rfl (ac (.one (.ref rfl)) (ac (.one .imm) an)) (ac (.cells (ac (.ref rfl) (ac .nil (ac .nil (ac .sc an))))) (ac (.cells (ac (.mp rfl) (ac .sc (ac .sc (ac (.ref rfl) (ac .sc an)))))) (ac .map (ac (.cells (ac .sc an)) an)))) (Meets.eqs (optE_none c8) (optE_none c8) (journal_Journal_scan.meets _ (⟨(), ([] : List Int), ([] : List (List Int)), false⟩ : journal_Journal) r5.1 r1.2.1 r1.2.2 r7 er7)) (s_extract (d := (sc (.pointer none))) rfl rfl (s_extract (d := (si r7.2.1)) rfl rfl (s_assign (d := (sc (.pointer none))) rfl (s_assign (d := (si r7.2.1)) rfl (AWops.nil (AW.ret ?_))))))
      obtain rfl := Option.some.inj h
      exact ⟨_, rfl, (wg 3 [0, 1, 2] [] rfl (le_upd (le_top _) (DLe.tup (ac (TLe.one .sc) (ac (TLe.one .sc) an)))) (ac (qr rfl rfl) (ac .map (ac qb an))))⟩
     ·refine cc [3, 0, 1, 2] [(o_vdisk_Disk_03 false (C.mp 1) (C.ref 2 0) r7.2.2.2.1), (om_ e_vdisk_file r7.2.2.2.1.files), (bx r7.2.2.2.2), (o_journal_Journal_0 true (C.ref 0 0) r7.2.2.1)] (D.tup [(rf 3 0), (si r7.2.1)]) F.ca_33 rfl rfl (ac (.one (.ref rfl)) (ac (.one .imm) an)) (ac (.cells (ac (.ref rfl) (ac .nil (ac .nil (ac .sc an))))) (ac (.cells (ac (.mp rfl) (ac .sc (ac .sc (ac (.ref rfl) (ac .sc an)))))) (ac .map (ac (.cells (ac .sc an)) an)))) (Meets.eqs (optE_some c8) (optE_some c8) (journal_Journal_scan.meets _ (⟨(), ([] : List Int), ([] : List (List Int)), false⟩ : journal_Journal) r5.1 r1.2.1 r1.2.2 r7 er7)) (s_extract (d := (rf 3 0)) rfl rfl (s_extract (d := (si r7.2.1)) rfl rfl (s_assign (d := (rf 3 0)) rfl (s_assign (d := (si r7.2.1)) rfl (AWops.nil (AW.ret ?_))))))
      obtain rfl := Option.some.inj h
      exact ⟨_, rfl, (wg 3 [0, 1, 2, 3] [] rfl (le_upd (le_top _) (DLe.tup (ac (TLe.one (.ref rfl)) (ac (TLe.one .sc) an)))) (ac (qr rfl rfl) (ac .map (ac qb (ac (.cells (fun _ => rfl) (ac (.ref rfl) (ac .same (ac .same (ac .sc an))))) an)))))⟩
    ·refine AW.cond_no rfl c6 (AW.seq (AW.region ?_))
     refine s_move (d := (si r5.2)) rfl (s_binI (v := (.bool (r5.2 != 33))) rfl rfl rfl (s_assign (d := (sb (r5.2 != 33))) rfl (AWops.nil ?_)))
     rcases itH h with ⟨c10, h⟩ | ⟨c10, h⟩
     ·refine AW.cond_yes rfl c10 (AW.seq (AW.region ?_))
      refine s_move (d := (si r5.2)) rfl (s_assign (d := (sc (.pointer none))) rfl (s_assign (d := (si r5.2)) rfl (AWops.nil (AW.ret ?_))))
      obtain rfl := Option.some.inj h
      exact ⟨_, rfl, (wg 3 [0, 1, 2] [] rfl (le_upd (le_top _) (DLe.tup (ac (TLe.one .sc) (ac (TLe.one .sc) an)))) (ac (qr rfl rfl) (ac .map (ac qb an))))⟩
     ·refine AW.cond_no rfl c10 (AW.seq (AW.region ?_))
      refine s_move (d := (ds_ e_u8 a1)) rfl (s_len (n := a1.length) F.u_22 rfl (.inr ⟨(fun _ _ h => by cases h), ⟨_, rfl⟩⟩) (s_binI (v := (.bool (decide ((a1.length : Int) > 4194304)))) rfl rfl rfl (s_assign (d := (sb (decide ((a1.length : Int) > 4194304)))) rfl (AWops.nil ?_))))
      rcases itH h with ⟨c11, h⟩ | ⟨c11, h⟩
      ·refine AW.cond_yes rfl c11 (AW.seq (AW.region ?_))
       refine s_assign (d := (sc (.pointer none))) rfl (s_assign (d := (si 1)) rfl (AWops.nil (AW.ret ?_)))
       obtain rfl := Option.some.inj h
       exact ⟨_, rfl, (wg 3 [0, 1, 2] [] rfl (le_upd (le_top _) (DLe.tup (ac (TLe.one .sc) (ac (TLe.one .sc) an)))) (ac (qr rfl rfl) (ac .map (ac qb an))))⟩
      ·refine AW.cond_no rfl c11 (AW.skip (AW.seq (AW.seq (AW.region ?_))))
       refine s_move (d := (rf 0 0)) rfl (s_move (d := (ds_ e_u8 a1)) rfl ?_)
       obtain ⟨r12, er12, h⟩ := bnd h
       refine cc [0, 1, 2] [(o_vdisk_Disk_03 false (C.mp 1) (C.ref 2 0) r12.2.1), (om_ e_vdisk_file r12.2.1.files), (bx r12.2.2), (some (AObj.cells true [(C.ref 0 0), (C.p true (.v (.slice none 0 0))), (C.p true (.v (.slice none 0 0))), (cb false)]))] (si r12.1) F.ca_29 rfl rfl (ac (.one (.ref rfl)) (ac (.one .imm) an)) (ac (.cells (ac (.mp rfl) (ac .sc (ac .sc (ac (.ref rfl) (ac .sc an)))))) (ac .map (ac (.cells (ac .sc an)) an))) (journal_replace_29.meets _ r1.2.1 a1 r1.2.2 r12 er12) (s_assign (d := (si r12.1)) rfl (AWops.nil (AW.seq (AW.region (s_move (d := (si r12.1)) rfl (s_binI (v := (.bool (r12.1 != 0))) rfl rfl rfl (AWops.nil ?_)))))))
       rcases itH h with ⟨c13, h⟩ | ⟨c13, h⟩
       ·refine AW.cond_yes rfl c13 (AW.seq (AW.region ?_))
        refine s_move (d := (si r12.1)) rfl (s_assign (d := (sc (.pointer none))) rfl (s_assign (d := (si r12.1)) rfl (AWops.nil (AW.ret ?_))))
        obtain rfl := Option.some.inj h
        exact ⟨_, rfl, (wg 3 [0, 1, 2] [] rfl (le_upd (le_top _) (DLe.tup (ac (TLe.one .sc) (ac (TLe.one .sc) an)))) (ac (qr rfl rfl) (ac .map (ac qb an))))⟩
       ·refine AW.cond_no rfl c13 (AW.skip (AW.seq (AW.region ?_)))
        refine s_move (d := (rf 3 0)) rfl (s_move (d := (ds_ e_u8 a1)) rfl ?_)
        obtain ⟨r14, er14, h⟩ := bnd h
        refine cc [] [(o_vdisk_Disk_03 false (C.mp 1) (C.ref 2 0) r12.2.1), (om_ e_vdisk_file r12.2.1.files), (bx r12.2.2), (some (AObj.cells true [(C.ref 0 0), (C.p true (.v (.slice none 0 0))), (C.p true (.v (.slice none 0 0))), (cb false)])), (ow_ e_u8 r14)] (D.one (C.own 4 0 r14.length 1)) F.ca_28 rfl rfl (ac (.one .imm) an) an (slices_Clone_byte_byte.meets _ a1 r14 er14) (s_nilCheck (d := (rf 3 0)) rfl (.inl ⟨_, _, rfl⟩) (s_fieldRef F.fo_27_1 (by decide) rfl (s_store (cs' := [(C.ref 0 0), (C.own 4 0 r14.length 1), (C.p true (.v (.slice none 0 0))), (cb false)]) rfl rfl rfl (List.cons_ne_nil _ _) rfl F.sz_22 (nl rfl) rfl (AWops.nil (AW.seq (AW.region (s_move (d := (rf 3 0)) rfl (s_assign (d := (rf 3 0)) rfl ?_))))))))
        refine s_assign (d := (si 0)) rfl (AWops.nil (AW.ret ?_))
        obtain rfl := Option.some.inj h
        exact ⟨_, rfl, (wg 3 [0, 1, 2, 3] [4] rfl (le_upd (le_top _) (DLe.tup (ac (TLe.one (.ref rfl)) (ac (TLe.one .sc) an)))) (ac (qr rfl rfl) (ac .map (ac qb (ac (.cells (fun _ => rfl) (ac (.ref rfl) (ac (CLe.frz e_u8_len rfl rfl rfl) (ac .nil (ac .sc an))))) an)))))⟩
   ·refine AW.cond_no rfl c4 (AW.seq (AW.region ?_))
    refine s_move (d := (si r1.1)) rfl (s_assign (d := (sc (.pointer none))) rfl (s_assign (d := (si r1.1)) rfl (AWops.nil (AW.ret ?_))))
    obtain rfl := Option.some.inj h
    exact ⟨_, rfl, (wg 3 [0, 1, 2] [] rfl (le_upd (le_top _) (DLe.tup (ac (TLe.one .sc) (ac (TLe.one .sc) an)))) (ac (qr rfl rfl) (ac .map (ac qb an))))⟩
def vdisk_Disk_Truncate_44.f (k : Nat) (p0 : vdisk_Disk) (a1 : ByteArray) (a2 : Int) : Option (Int × vdisk_Disk) := (vdisk_Disk_change.f k p0 (decide (a2 ≥ 0)) a1 false 0).bind fun r1 => if (r1 == 0) = true then (if (decide (0 ≤ (if (((lk_vdisk_file a1 p0.files).b).length : Int) < a2 then (((lk_vdisk_file a1 p0.files).b).length : Int) else a2) ∧ (if (((lk_vdisk_file a1 p0.files).b).length : Int) < a2 then (((lk_vdisk_file a1 p0.files).b).length : Int) else a2) ≤ (((lk_vdisk_file a1 p0.files).b).length : Int))) = true then ((vdisk_Disk_set.f k p0 a1 (⟨sub ((lk_vdisk_file a1 p0.files).b) 0 (if (((lk_vdisk_file a1 p0.files).b).length : Int) < a2 then (((lk_vdisk_file a1 p0.files).b).length : Int) else a2), (if ((lk_vdisk_file a1 p0.files).sure) < (if (((lk_vdisk_file a1 p0.files).b).length : Int) < a2 then (((lk_vdisk_file a1 p0.files).b).length : Int) else a2) then ((lk_vdisk_file a1 p0.files).sure) else (if (((lk_vdisk_file a1 p0.files).b).length : Int) < a2 then (((lk_vdisk_file a1 p0.files).b).length : Int) else a2))⟩ : vdisk_file)).bind fun r4 => some (r1, r4)) else none) else (some (r1, p0))
theorem vdisk_Disk_Truncate_44.meets (k : Nat) (p0 : vdisk_Disk) (a1 : ByteArray) (a2 : Int) (r : Int × vdisk_Disk) (h : vdisk_Disk_Truncate_44.f k p0 a1 a2 = some r) : Meets Try.prog 44 [(rf 0 0), (st_ a1), (si a2)] [(o_vdisk_Disk_03 false (C.mp 1) np p0), (om_ e_vdisk_file p0.files)] (si r.1) [(o_vdisk_Disk_03 false (C.mp 1) np r.2), (om_ e_vdisk_file r.2.files)] := by
 unfold vdisk_Disk_Truncate_44.f at h
 refine Meets.of_body (n := 41) Try.func44 rfl rfl (nl rfl) fun x hx => ?_
 replace hx : x.k = 2 := hx
 show AW _ x _ _ ⟨41, fr0 [(rf 0 0), (st_ a1), (si a2)], [(o_vdisk_Disk_03 false (C.mp 1) np p0), (om_ e_vdisk_file p0.files)]⟩
 refine AW.seq (AW.region ?_)
 refine s_assign (d := (si 0)) rfl (AWops.nil (AW.seq (AW.region ?_)))
 refine s_move (d := (rf 0 0)) rfl (s_move (d := (si a2)) rfl (s_binI (v := (.bool (decide (a2 ≥ 0)))) rfl rfl rfl (s_move (d := (st_ a1)) rfl ?_)))
 obtain ⟨r1, er1, h⟩ := bnd h
 refine cc [0, 1] [(o_vdisk_Disk_03 false (C.mp 1) np p0), (om_ e_vdisk_file p0.files)] (si r1) F.ca_55 rfl rfl (ac (.one (.ref rfl)) (ac (.one .sc) (ac (.one .sc) (ac (.one .sc) (ac (.one .sc) an))))) (ac (.cells (ac (.mp rfl) (ac .sc (ac .sc (ac .sc (ac .sc an)))))) (ac .map an)) (vdisk_Disk_change.meets _ p0 (decide (a2 ≥ 0)) a1 false 0 r1 er1) (s_assign (d := (si r1)) rfl (AWops.nil (AW.seq (AW.seq (AW.region (s_move (d := (si r1)) rfl (s_binI (v := (.bool (r1 == 0))) rfl rfl rfl (AWops.nil ?_))))))))
 rcases itH h with ⟨c2, h⟩ | ⟨c2, h⟩
 ·refine AW.cond_yes rfl c2 (AW.seq (AW.region ?_))
  refine s_move (d := (rf 0 0)) rfl (s_nilCheck (d := (rf 0 0)) rfl (.inl ⟨_, _, rfl⟩) (s_fieldRef F.fo_37_0 (by decide) rfl (s_load1 (c' := (C.mp 1)) F.ag_34 rfl rfl (s_move (d := (st_ a1)) rfl (t_lookup (b := true) F.u_34 F.u_9 F.z_79 (z := ((⟨([] : List Int), 0⟩ : vdisk_file) : vdisk_file)) (zs := [(.slice none 0 0), (.int .i64 0)]) rfl (fun h => by cases h) (ac ZRel.n (ac (ZRel.v _ rfl) an)) rfl rfl rfl rfl ?_)))))
  refine s_alloc (cs := [(C.p true (.v (.slice none 0 0))), (ci 0)]) F.z_79 rfl rfl (s_store (cs' := (c_vdisk_file (lk_vdisk_file a1 p0.files))) rfl rfl rfl (List.cons_ne_nil _ _) rfl F.sz_79 (nl rfl) rfl (AWops.nil (AW.seq (AW.region (s_move (d := (si a2)) rfl (s_fieldRef F.fo_79_0 (by decide) rfl (s_load1 (c' := (C.p false (.sl ((lk_vdisk_file a1 p0.files).b).length (((lk_vdisk_file a1 p0.files).b).flatMap e_u8)))) F.ag_22 rfl rfl (s_len (n := ((lk_vdisk_file a1 p0.files).b).length) F.u_22 rfl (.inr ⟨(fun _ _ h => by cases h), ⟨_, rfl⟩⟩) ?_))))))))
  refine s_min2 (r := (if (((lk_vdisk_file a1 p0.files).b).length : Int) < a2 then (((lk_vdisk_file a1 p0.files).b).length : Int) else a2)) rfl rfl rfl (s_assign (d := (si (if (((lk_vdisk_file a1 p0.files).b).length : Int) < a2 then (((lk_vdisk_file a1 p0.files).b).length : Int) else a2))) rfl (AWops.nil ?_))
  refine AW.weak (st' := ⟨41, (upd 41 (upd 41 (upd 41 (upd 41 (upd 41 topF 0 (rf 0 0)) 1 (st_ a1)) 2 (si (if (((lk_vdisk_file a1 p0.files).b).length : Int) < a2 then (((lk_vdisk_file a1 p0.files).b).length : Int) else a2))) 7 (si r1)) 8 (rf 2 0)), [(o_vdisk_Disk_03 false (C.mp 1) np p0), (om_ e_vdisk_file p0.files), (some (AObj.cells true (c_vdisk_file (lk_vdisk_file a1 p0.files))))]⟩) (wg 2 [0, 1, 2] [] hx (le_upd (le_upd (le_upd (le_upd (le_upd (le_top _) (o1 (.ref rfl))) (o1 .sc)) (o1 .sc)) (o1 .sc)) (o1 (.ref rfl))) (ac (qs rfl) (ac .map (ac (.cells (fun _ => rfl) (ac .same (ac .sc an))) an)))) ?_
  obtain ⟨c3, h⟩ := gdH h
  have dc3 := of_decide_eq_true c3
  obtain ⟨r4, er4, h⟩ := bnd h
  refine AW.draw (n := 41) (L := 4) [(ft 0 27 (rf 0 0) [(0, (rf 0 0))]), (ft 1 28 (st_ a1) [(1, (st_ a1))]), (ft 2 29 (rf 2 0) [(8, (rf 2 0))]), (3, ⟨some 30, (D.one (C.p false (.sl ((lk_vdisk_file a1 p0.files).b).length (((lk_vdisk_file a1 p0.files).b).flatMap e_u8)))), [(29, (rf 2 0))], [(2, (some (AObj.cells true (c_vdisk_file (lk_vdisk_file a1 p0.files)))))], [], none⟩), (ft 4 31 (si (if (((lk_vdisk_file a1 p0.files).b).length : Int) < a2 then (((lk_vdisk_file a1 p0.files).b).length : Int) else a2)) [(2, (si (if (((lk_vdisk_file a1 p0.files).b).length : Int) < a2 then (((lk_vdisk_file a1 p0.files).b).length : Int) else a2)))]), (ft 5 32 (si (if (((lk_vdisk_file a1 p0.files).b).length : Int) < a2 then (((lk_vdisk_file a1 p0.files).b).length : Int) else a2)) [(2, (si (if (((lk_vdisk_file a1 p0.files).b).length : Int) < a2 then (((lk_vdisk_file a1 p0.files).b).length : Int) else a2)))]), (ft 6 33 (D.one (C.p false (.sl (sub ((lk_vdisk_file a1 p0.files).b) 0 (if (((lk_vdisk_file a1 p0.files).b).length : Int) < a2 then (((lk_vdisk_file a1 p0.files).b).length : Int) else a2)).length ((sub ((lk_vdisk_file a1 p0.files).b) 0 (if (((lk_vdisk_file a1 p0.files).b).length : Int) < a2 then (((lk_vdisk_file a1 p0.files).b).length : Int) else a2)).flatMap e_u8)))) [(30, (D.one (C.p false (.sl ((lk_vdisk_file a1 p0.files).b).length (((lk_vdisk_file a1 p0.files).b).flatMap e_u8))))), (31, (si (if (((lk_vdisk_file a1 p0.files).b).length : Int) < a2 then (((lk_vdisk_file a1 p0.files).b).length : Int) else a2))), (32, (si (if (((lk_vdisk_file a1 p0.files).b).length : Int) < a2 then (((lk_vdisk_file a1 p0.files).b).length : Int) else a2)))]), (ft 7 34 (si (if (((lk_vdisk_file a1 p0.files).b).length : Int) < a2 then (((lk_vdisk_file a1 p0.files).b).length : Int) else a2)) [(2, (si (if (((lk_vdisk_file a1 p0.files).b).length : Int) < a2 then (((lk_vdisk_file a1 p0.files).b).length : Int) else a2)))]), (ft 8 35 (rf 2 1) [(8, (rf 2 0))]), (9, ⟨some 36, (si ((lk_vdisk_file a1 p0.files).sure)), [(35, (rf 2 1))], [(2, (some (AObj.cells true (c_vdisk_file (lk_vdisk_file a1 p0.files)))))], [], none⟩), (ft 10 37 (si (if ((lk_vdisk_file a1 p0.files).sure) < (if (((lk_vdisk_file a1 p0.files).b).length : Int) < a2 then (((lk_vdisk_file a1 p0.files).b).length : Int) else a2) then ((lk_vdisk_file a1 p0.files).sure) else (if (((lk_vdisk_file a1 p0.files).b).length : Int) < a2 then (((lk_vdisk_file a1 p0.files).b).length : Int) else a2))) [(34, (si (if (((lk_vdisk_file a1 p0.files).b).length : Int) < a2 then (((lk_vdisk_file a1 p0.files).b).length : Int) else a2))), (36, (si ((lk_vdisk_file a1 p0.files).sure)))]), (ft 11 38 (D.agg [(C.p false (.sl (sub ((lk_vdisk_file a1 p0.files).b) 0 (if (((lk_vdisk_file a1 p0.files).b).length : Int) < a2 then (((lk_vdisk_file a1 p0.files).b).length : Int) else a2)).length ((sub ((lk_vdisk_file a1 p0.files).b) 0 (if (((lk_vdisk_file a1 p0.files).b).length : Int) < a2 then (((lk_vdisk_file a1 p0.files).b).length : Int) else a2)).flatMap e_u8))), (ci (if ((lk_vdisk_file a1 p0.files).sure) < (if (((lk_vdisk_file a1 p0.files).b).length : Int) < a2 then (((lk_vdisk_file a1 p0.files).b).length : Int) else a2) then ((lk_vdisk_file a1 p0.files).sure) else (if (((lk_vdisk_file a1 p0.files).b).length : Int) < a2 then (((lk_vdisk_file a1 p0.files).b).length : Int) else a2)))]) [(33, (D.one (C.p false (.sl (sub ((lk_vdisk_file a1 p0.files).b) 0 (if (((lk_vdisk_file a1 p0.files).b).length : Int) < a2 then (((lk_vdisk_file a1 p0.files).b).length : Int) else a2)).length ((sub ((lk_vdisk_file a1 p0.files).b) 0 (if (((lk_vdisk_file a1 p0.files).b).length : Int) < a2 then (((lk_vdisk_file a1 p0.files).b).length : Int) else a2)).flatMap e_u8))))), (37, (si (if ((lk_vdisk_file a1 p0.files).sure) < (if (((lk_vdisk_file a1 p0.files).b).length : Int) < a2 then (((lk_vdisk_file a1 p0.files).b).length : Int) else a2) then ((lk_vdisk_file a1 p0.files).sure) else (if (((lk_vdisk_file a1 p0.files).b).length : Int) < a2 then (((lk_vdisk_file a1 p0.files).b).length : Int) else a2))))]), (12, ⟨some 39, (D.tup []), [(27, (rf 0 0)), (28, (st_ a1)), (38, (D.agg [(C.p false (.sl (sub ((lk_vdisk_file a1 p0.files).b) 0 (if (((lk_vdisk_file a1 p0.files).b).length : Int) < a2 then (((lk_vdisk_file a1 p0.files).b).length : Int) else a2)).length ((sub ((lk_vdisk_file a1 p0.files).b) 0 (if (((lk_vdisk_file a1 p0.files).b).length : Int) < a2 then (((lk_vdisk_file a1 p0.files).b).length : Int) else a2)).flatMap e_u8))), (ci (if ((lk_vdisk_file a1 p0.files).sure) < (if (((lk_vdisk_file a1 p0.files).b).length : Int) < a2 then (((lk_vdisk_file a1 p0.files).b).length : Int) else a2) then ((lk_vdisk_file a1 p0.files).sure) else (if (((lk_vdisk_file a1 p0.files).b).length : Int) < a2 then (((lk_vdisk_file a1 p0.files).b).length : Int) else a2)))]))], [(0, (o_vdisk_Disk_03 false (C.mp 1) np p0)), (1, (om_ e_vdisk_file p0.files))], [(0, (o_vdisk_Disk_03 false (C.mp 1) np r4)), (1, (om_ e_vdisk_file r4.files))], none⟩)] [[], [], [], [2], [], [], [2, 3, 4, 5], [], [], [8], [7, 8, 9], [2, 3, 4, 5, 6, 7, 8, 9, 10], (.range 12)] (nl rfl) [0, 0, 0, 1, 0, 0, 2, 0, 0, 1, 2, 3, 4] rfl (TK := []) rfl AllK.nil' (by repeat (first | refine fC ⟨?_, ?_⟩ ?_ | refine sC rfl ?_ | refine hC rfl ?_ | trivial)) ?_ ?_
  ·refine y8 ?_ ?_ ?_ ?_ ?_ ?_ ?_ ?_ (y4 ?_ ?_ ?_ ?_ (pC ?_ yN))
   ·intro K _ f w u k
    show Wp K ⟨41, (upd 41 f 0 (rf 0 0)), _⟩
    refine s_move (d := (rf 0 0)) rfl k
   ·intro K _ f w u k
    show Wp K ⟨41, (upd 41 f 1 (st_ a1)), _⟩
    refine s_move (d := (st_ a1)) rfl k
   ·intro K _ f w u k
    show Wp K ⟨41, (upd 41 f 8 (rf 2 0)), [_, _, _, _]⟩
    refine s_fieldRef F.fo_79_0 (by decide) rfl k
   ·intro K _ f w u k
    show Wp K ⟨41, (upd 41 f 29 (rf 2 0)), [_, _, (some (AObj.cells true (c_vdisk_file (lk_vdisk_file a1 p0.files)))), _]⟩
    refine s_load1 (c' := (C.p false (.sl ((lk_vdisk_file a1 p0.files).b).length (((lk_vdisk_file a1 p0.files).b).flatMap e_u8)))) F.ag_22 rfl rfl k
   ·intro K _ f w u k
    show Wp K ⟨41, (upd 41 f 2 (si (if (((lk_vdisk_file a1 p0.files).b).length : Int) < a2 then (((lk_vdisk_file a1 p0.files).b).length : Int) else a2))), _⟩
    refine s_move (d := (si (if (((lk_vdisk_file a1 p0.files).b).length : Int) < a2 then (((lk_vdisk_file a1 p0.files).b).length : Int) else a2))) rfl k
   ·intro K _ f w u k
    show Wp K ⟨41, (upd 41 f 2 (si (if (((lk_vdisk_file a1 p0.files).b).length : Int) < a2 then (((lk_vdisk_file a1 p0.files).b).length : Int) else a2))), _⟩
    refine s_move (d := (si (if (((lk_vdisk_file a1 p0.files).b).length : Int) < a2 then (((lk_vdisk_file a1 p0.files).b).length : Int) else a2))) rfl k
   ·intro K _ f w u k
    show Wp K ⟨41, (upd 41 (upd 41 (upd 41 f 32 (si (if (((lk_vdisk_file a1 p0.files).b).length : Int) < a2 then (((lk_vdisk_file a1 p0.files).b).length : Int) else a2))) 31 (si (if (((lk_vdisk_file a1 p0.files).b).length : Int) < a2 then (((lk_vdisk_file a1 p0.files).b).length : Int) else a2))) 30 (D.one (C.p false (.sl ((lk_vdisk_file a1 p0.files).b).length (((lk_vdisk_file a1 p0.files).b).flatMap e_u8))))), [_, _, _, _]⟩
    refine t_slice3Imm F.u_22 F.sz_5 e_u8_len rfl rfl rfl (by omega) (by omega) k
   ·intro K _ f w u k
    show Wp K ⟨41, (upd 41 f 2 (si (if (((lk_vdisk_file a1 p0.files).b).length : Int) < a2 then (((lk_vdisk_file a1 p0.files).b).length : Int) else a2))), _⟩
    refine s_move (d := (si (if (((lk_vdisk_file a1 p0.files).b).length : Int) < a2 then (((lk_vdisk_file a1 p0.files).b).length : Int) else a2))) rfl k
   ·intro K _ f w u k
    show Wp K ⟨41, (upd 41 f 8 (rf 2 0)), [_, _, _, _]⟩
    refine s_fieldRef F.fo_79_1 (by decide) rfl k
   ·intro K _ f w u k
    show Wp K ⟨41, (upd 41 f 35 (rf 2 1)), [_, _, (some (AObj.cells true (c_vdisk_file (lk_vdisk_file a1 p0.files)))), _]⟩
    refine s_load1 (c' := (ci ((lk_vdisk_file a1 p0.files).sure))) F.ag_3 rfl rfl k
   ·intro K _ f w u k
    show Wp K ⟨41, (upd 41 (upd 41 f 36 (si ((lk_vdisk_file a1 p0.files).sure))) 34 (si (if (((lk_vdisk_file a1 p0.files).b).length : Int) < a2 then (((lk_vdisk_file a1 p0.files).b).length : Int) else a2))), [_, _, _, _]⟩
    refine s_min2 (r := (if ((lk_vdisk_file a1 p0.files).sure) < (if (((lk_vdisk_file a1 p0.files).b).length : Int) < a2 then (((lk_vdisk_file a1 p0.files).b).length : Int) else a2) then ((lk_vdisk_file a1 p0.files).sure) else (if (((lk_vdisk_file a1 p0.files).b).length : Int) < a2 then (((lk_vdisk_file a1 p0.files).b).length : Int) else a2))) rfl rfl rfl k
   ·intro K _ f w u k
    show Wp K ⟨41, (upd 41 (upd 41 f 37 (si (if ((lk_vdisk_file a1 p0.files).sure) < (if (((lk_vdisk_file a1 p0.files).b).length : Int) < a2 then (((lk_vdisk_file a1 p0.files).b).length : Int) else a2) then ((lk_vdisk_file a1 p0.files).sure) else (if (((lk_vdisk_file a1 p0.files).b).length : Int) < a2 then (((lk_vdisk_file a1 p0.files).b).length : Int) else a2)))) 33 (D.one (C.p false (.sl (sub ((lk_vdisk_file a1 p0.files).b) 0 (if (((lk_vdisk_file a1 p0.files).b).length : Int) < a2 then (((lk_vdisk_file a1 p0.files).b).length : Int) else a2)).length ((sub ((lk_vdisk_file a1 p0.files).b) 0 (if (((lk_vdisk_file a1 p0.files).b).length : Int) < a2 then (((lk_vdisk_file a1 p0.files).b).length : Int) else a2)).flatMap e_u8))))), [_, _, _, _]⟩
    refine s_build (ps := [(0, (D.one (C.p false (.sl (sub ((lk_vdisk_file a1 p0.files).b) 0 (if (((lk_vdisk_file a1 p0.files).b).length : Int) < a2 then (((lk_vdisk_file a1 p0.files).b).length : Int) else a2)).length ((sub ((lk_vdisk_file a1 p0.files).b) 0 (if (((lk_vdisk_file a1 p0.files).b).length : Int) < a2 then (((lk_vdisk_file a1 p0.files).b).length : Int) else a2)).flatMap e_u8))))), (1, (si (if ((lk_vdisk_file a1 p0.files).sure) < (if (((lk_vdisk_file a1 p0.files).b).length : Int) < a2 then (((lk_vdisk_file a1 p0.files).b).length : Int) else a2) then ((lk_vdisk_file a1 p0.files).sure) else (if (((lk_vdisk_file a1 p0.files).b).length : Int) < a2 then (((lk_vdisk_file a1 p0.files).b).length : Int) else a2))))]) (cs := [(C.p false (.sl (sub ((lk_vdisk_file a1 p0.files).b) 0 (if (((lk_vdisk_file a1 p0.files).b).length : Int) < a2 then (((lk_vdisk_file a1 p0.files).b).length : Int) else a2)).length ((sub ((lk_vdisk_file a1 p0.files).b) 0 (if (((lk_vdisk_file a1 p0.files).b).length : Int) < a2 then (((lk_vdisk_file a1 p0.files).b).length : Int) else a2)).flatMap e_u8))), (ci (if ((lk_vdisk_file a1 p0.files).sure) < (if (((lk_vdisk_file a1 p0.files).b).length : Int) < a2 then (((lk_vdisk_file a1 p0.files).b).length : Int) else a2) then ((lk_vdisk_file a1 p0.files).sure) else (if (((lk_vdisk_file a1 p0.files).b).length : Int) < a2 then (((lk_vdisk_file a1 p0.files).b).length : Int) else a2)))]) F.z_79 rfl F.so_79 rfl rfl k
   ·intro K _ f w u k
    show Wp K ⟨41, (upd 41 (upd 41 (upd 41 f 38 (D.agg [(C.p false (.sl (sub ((lk_vdisk_file a1 p0.files).b) 0 (if (((lk_vdisk_file a1 p0.files).b).length : Int) < a2 then (((lk_vdisk_file a1 p0.files).b).length : Int) else a2)).length ((sub ((lk_vdisk_file a1 p0.files).b) 0 (if (((lk_vdisk_file a1 p0.files).b).length : Int) < a2 then (((lk_vdisk_file a1 p0.files).b).length : Int) else a2)).flatMap e_u8))), (ci (if ((lk_vdisk_file a1 p0.files).sure) < (if (((lk_vdisk_file a1 p0.files).b).length : Int) < a2 then (((lk_vdisk_file a1 p0.files).b).length : Int) else a2) then ((lk_vdisk_file a1 p0.files).sure) else (if (((lk_vdisk_file a1 p0.files).b).length : Int) < a2 then (((lk_vdisk_file a1 p0.files).b).length : Int) else a2)))])) 28 (st_ a1)) 27 (rf 0 0)), [(o_vdisk_Disk_03 false (C.mp 1) np p0), (om_ e_vdisk_file p0.files), _, _]⟩
    refine cc [0, 1] [(o_vdisk_Disk_03 false (C.mp 1) np r4), (om_ e_vdisk_file r4.files), (w 2), (w 3)] (D.tup []) F.ca_36 rfl rfl (ac (.one (.ref rfl)) (ac (.one .sc) (ac (LendT.aggL (ac .imm (ac .sc an))) an))) (ac (.cells (ac (.mp rfl) (ac .sc (ac .sc (ac .sc (ac .sc an)))))) (ac .map an)) (vdisk_Disk_set.meets _ p0 a1 (⟨sub ((lk_vdisk_file a1 p0.files).b) 0 (if (((lk_vdisk_file a1 p0.files).b).length : Int) < a2 then (((lk_vdisk_file a1 p0.files).b).length : Int) else a2), (if ((lk_vdisk_file a1 p0.files).sure) < (if (((lk_vdisk_file a1 p0.files).b).length : Int) < a2 then (((lk_vdisk_file a1 p0.files).b).length : Int) else a2) then ((lk_vdisk_file a1 p0.files).sure) else (if (((lk_vdisk_file a1 p0.files).b).length : Int) < a2 then (((lk_vdisk_file a1 p0.files).b).length : Int) else a2))⟩ : vdisk_file) r4 er4) k
  ·refine AWops.weak (st' := ⟨41, (upd 41 topF 7 (si r1)), [(o_vdisk_Disk_03 false (C.mp 1) np r4), (om_ e_vdisk_file r4.files)]⟩) (wg 2 [0, 1] [] hx (le_upd (le_top _) (o1 .sc)) (ac (qs rfl) (ac .map an))) (AWops.nil (AW.seq (AW.region ?_)))
   refine s_move (d := (si r1)) rfl (s_assign (d := (si r1)) rfl (AWops.nil (AW.ret ?_)))
   obtain rfl := Option.some.inj h
   exact ⟨_, rfl, (wg 2 [0, 1] [] rfl (le_upd (le_top _) (o1 .sc)) (ac (qs rfl) (ac .map an)))⟩
 ·refine AW.cond_no rfl c2 (AW.skip (AW.seq (AW.region ?_)))
  refine s_move (d := (si r1)) rfl (s_assign (d := (si r1)) rfl (AWops.nil (AW.ret ?_)))
  obtain rfl := Option.some.inj h
  exact ⟨_, rfl, (wg 2 [0, 1] [] rfl (le_upd (le_top _) (o1 .sc)) (ac (qs rfl) (ac .map an)))⟩
mutual
def journal_Journal_scan_33.j1 : Nat → Int → Int → Bool → (List (ByteArray × vdisk_file)) → journal_Journal → (List (List Int)) → Option ((Option Unit) × Int × journal_Journal × vdisk_Disk)
 | 0, _, _, _, _, _, _ => none
 | k + 1, x11, x12, x13, x14, p0, x1 => (rd x1 0).bind fun v15 => if (decide (0 ≤ 1 ∧ 1 ≤ (x1.length : Int) ∧ (x1.length : Int) ≤ (x1.length : Int))) = true then (some (some (), 0, (⟨(), v15, sub x1 1 (x1.length : Int), p0.stopped⟩ : journal_Journal), (⟨x14, x11, x12, (), x13⟩ : vdisk_Disk))) else none
def journal_Journal_scan_33.l0 : Nat → (List (List Int)) → Int → journal_Journal → (List Int) → vdisk_Disk → Option ((Option Unit) × Int × journal_Journal × vdisk_Disk)
 | 0, _, _, _, _, _ => none
 | k + 1, x1, x2, p0, a1, p1 => if (decide (0 ≤ x2 ∧ x2 ≤ (a1.length : Int) ∧ (a1.length : Int) ≤ (a1.length : Int))) = true then ((journal_next.f k (sub a1 x2 (a1.length : Int))).bind fun r4 => if r4.2 = true then (if (decide (x1.length + ([r4.1] : List (List Int)).length ≤ 5864062014805)) = true then (journal_Journal_scan_33.l0 k (x1 ++ ([r4.1] : List (List Int))) (IntKind.i64.wrap (x2 + (IntKind.i64.wrap (8 + (r4.1.length : Int))))) p0 a1 p1) else none) else (if ((x1.length : Int) == 0) = true then (some ((none : Option Unit), 72, (⟨(), p0.snap, p0.l, p0.stopped⟩ : journal_Journal), p1)) else (if (decide (x2 < (a1.length : Int))) = true then ((vdisk_Disk_Truncate_44.f k p1 (⟨#[106, 111, 117, 114, 110, 97, 108]⟩ : ByteArray) x2).bind fun r9 => if (r9.1 != 0) = true then (some ((none : Option Unit), r9.1, (⟨(), p0.snap, p0.l, p0.stopped⟩ : journal_Journal), r9.2)) else (journal_Journal_scan_33.j1 k r9.2.room r9.2.used r9.2.dead r9.2.files p0 x1)) else (journal_Journal_scan_33.j1 k p1.room p1.used p1.dead p1.files p0 x1)))) else none
end
def journal_Journal_scan_33.f (k : Nat) (p0 : journal_Journal) (a1 : List Int) (p1 : vdisk_Disk) : Option ((Option Unit) × Int × journal_Journal × vdisk_Disk) := journal_Journal_scan_33.l0 k ([] : List (List Int)) 0 p0 a1 p1
theorem journal_Journal_scan_33.meets (k : Nat) (p0 : journal_Journal) (a1 : List Int) (p1 : vdisk_Disk) (r : (Option Unit) × Int × journal_Journal × vdisk_Disk) (h : journal_Journal_scan_33.f k p0 a1 p1 = some r) : Meets Try.prog 33 [(rf 0 0), (ds_ e_u8 a1)] [(o_journal_Journal_0 false (C.ref 1 0) p0), (o_vdisk_Disk_03 false (C.mp 2) np p1), (om_ e_vdisk_file p1.files)] (optE r.1 (D.tup [(sc (.pointer none)), (si r.2.1)]) (fun z1 : Unit => (D.tup [(rf 0 0), (si r.2.1)]))) (optE r.1 [(o_journal_Journal_0 false (C.ref 1 0) r.2.2.1), (o_vdisk_Disk_03 false (C.mp 2) np r.2.2.2), (om_ e_vdisk_file r.2.2.2.files)] (fun z1 : Unit => [(o_journal_Journal_0 false (C.ref 1 0) r.2.2.1), (o_vdisk_Disk_03 false (C.mp 2) np r.2.2.2), (om_ e_vdisk_file r.2.2.2.files)])) := by
 unfold journal_Journal_scan_33.f at h
 refine Meets.of_body (n := 57) Try.func33 rfl rfl (nl rfl) fun x hx => ?_
 replace hx : x.k = 3 := hx
 show AW _ x _ _ ⟨57, fr0 [(rf 0 0), (ds_ e_u8 a1)], [(o_journal_Journal_0 false (C.ref 1 0) p0), (o_vdisk_Disk_03 false (C.mp 2) np p1), (om_ e_vdisk_file p1.files)]⟩
 refine AW.seq (AW.region ?_)
 refine s_assign (d := (sc (.pointer none))) rfl (s_assign (d := (si 0)) rfl (AWops.nil (AW.seq (AW.region (s_assign (d := (sc (.slice none 0 0))) rfl (AWops.nil (AW.seq (AW.region (s_assign (d := (si 0)) rfl (AWops.nil (AW.seq (AW.block ?_))))))))))))
 refine AW.loopw (st0 := ⟨57, (upd 57 (upd 57 (upd 57 (upd 57 topF 0 (rf 0 0)) 1 (ds_ e_u8 a1)) 6 (D.one (C.own 3 0 ([] : List (List Int)).length 1))) 7 (si 0)), [(o_journal_Journal_0 false (C.ref 1 0) p0), (o_vdisk_Disk_03 false (C.mp 2) np p1), (om_ e_vdisk_file p1.files), (some (AObj.cells true (rowC (e_sl e_u8) ([] : List (List Int)))))]⟩) (fun kv st => kv ≤ k ∧ ∃ (x1 : List (List Int)) (x2 : Int), journal_Journal_scan_33.l0 kv x1 x2 p0 a1 p1 = some r ∧ st = ⟨57, (upd 57 (upd 57 (upd 57 (upd 57 topF 0 (rf 0 0)) 1 (ds_ e_u8 a1)) 6 (D.one (C.own 3 0 x1.length 1))) 7 (si x2)), [(o_journal_Journal_0 false (C.ref 1 0) p0), (o_vdisk_Disk_03 false (C.mp 2) np p1), (om_ e_vdisk_file p1.files), (some (AObj.cells true (rowC (e_sl e_u8) x1)))]⟩) (k := k) (Weak.trans (Weak.nil (sz := 1) (i := 6) rfl) (wg 3 [0, 1, 2, 3] [] hx (le_upd (le_upd (le_upd (le_upd (le_top _) (o1 (.ref rfl))) (o1 .same)) (o1 (.own rfl))) (o1 .sc)) (ac (.cells id (ac (.ref rfl) (ac .same (ac .same (ac .sc an))))) (ac (qs rfl) (ac .map (ac (.cells (fun _ => rfl) an) an)))))) ⟨Nat.le_refl _, ([] : List (List Int)), 0, h, rfl⟩ ?_
 rintro ql0 st ⟨hkl0, x1, x2, h, rfl⟩
 cases ql0 with
 | zero => exact absurd h (by simp [journal_Journal_scan_33.l0])
 | succ ql0 =>
  replace h := (journal_Journal_scan_33.l0.eq_2 _ _ _ _ _ _).symm.trans h
  refine AW.block (AW.seq (AW.region ?_))
  refine s_move (d := (ds_ e_u8 a1)) rfl (s_move (d := (si x2)) rfl ?_)
  obtain ⟨c3, h⟩ := gdH h
  have dc3 := of_decide_eq_true c3
  refine t_sliceImm (a := x2) (b := (a1.length : Int)) F.u_22 F.sz_5 e_u8_len rfl (by omega) (by omega) (by omega) (.yes rfl (by omega) rfl) .no ?_
  obtain ⟨r4, er4, h⟩ := bnd h
  refine cc [] [(o_journal_Journal_0 false (C.ref 1 0) p0), (o_vdisk_Disk_03 false (C.mp 2) np p1), (om_ e_vdisk_file p1.files), (some (AObj.cells true (rowC (e_sl e_u8) x1)))] (D.tup [(ds_ e_u8 r4.1), (sb r4.2)]) F.ca_60 rfl rfl (ac (.one .imm) an) an (journal_next.meets _ (sub a1 x2 (a1.length : Int)) r4 er4) (s_move (d := (D.tup [(ds_ e_u8 r4.1), (sb r4.2)])) rfl (s_extract (d := (ds_ e_u8 r4.1)) rfl rfl (s_extract (d := (sb r4.2)) rfl rfl (s_assign (d := (ds_ e_u8 r4.1)) rfl (s_assign (d := (sb r4.2)) rfl (AWops.nil (AW.seq (AW.seq (AW.region ?_)))))))))
  refine s_move (d := (sb r4.2)) rfl (s_not rfl (AWops.nil ?_))
  rcases itH h with ⟨c5, h⟩ | ⟨c5, h⟩
  ·refine AW.cond_no rfl (by rw [c5] <;> rfl) (AW.skip (AW.seq (AW.region ?_)))
   refine s_move (d := (D.one (C.own 3 0 x1.length 1))) rfl (s_move (d := (ds_ e_u8 r4.1)) rfl (s_buildSlice (n := 1) (ps := [(0, (ds_ e_u8 r4.1))]) (cs := rowC (e_sl e_u8) ([r4.1] : List (List Int))) F.u_25 F.sz_22 F.z_22 rfl rfl (by decide) (by decide) rfl rfl ?_))
   obtain ⟨c6, h⟩ := gdH h
   have dc6 := of_decide_eq_true c6
   refine t_append (xs := x1) (ys := ([r4.1] : List (List Int))) (zs := x1 ++ ([r4.1] : List (List Int))) (H' := [(o_journal_Journal_0 false (C.ref 1 0) p0), (o_vdisk_Disk_03 false (C.mp 2) np p1), (om_ e_vdisk_file p1.files), none, (some (AObj.cells true (rowC (e_sl e_u8) ([r4.1] : List (List Int))))), (some (AObj.cells true (rowC (e_sl e_u8) (x1 ++ ([r4.1] : List (List Int))))))]) F.u_25 F.in_22 rfl (e_sl_len _) (.own rfl rfl) (.own rfl rfl) F.u_25 (by omega) (by omega) rfl rfl (s_assign (d := (D.one (C.own 5 0 ((x1 ++ ([r4.1] : List (List Int))).length) 1))) rfl (AWops.nil (AW.region (s_move (d := (si x2)) rfl (s_move (d := (ds_ e_u8 r4.1)) rfl (s_len (n := r4.1.length) F.u_22 rfl (.inr ⟨(fun _ _ h => by cases h), ⟨_, rfl⟩⟩) (s_binI (v := (.int .i64 (IntKind.i64.wrap (8 + (r4.1.length : Int))))) rfl rfl rfl ?_)))))))
   refine s_binI (v := (.int .i64 (IntKind.i64.wrap (x2 + (IntKind.i64.wrap (8 + (r4.1.length : Int))))))) rfl rfl rfl (s_assign (d := (si (IntKind.i64.wrap (x2 + (IntKind.i64.wrap (8 + (r4.1.length : Int))))))) rfl (AWops.nil ?_))
   exact ⟨_, ⟨57, (upd 57 (upd 57 (upd 57 (upd 57 topF 0 (rf 0 0)) 1 (ds_ e_u8 a1)) 6 (D.one (C.own 3 0 (x1 ++ ([r4.1] : List (List Int))).length 1))) 7 (si (IntKind.i64.wrap (x2 + (IntKind.i64.wrap (8 + (r4.1.length : Int))))))), [(o_journal_Journal_0 false (C.ref 1 0) p0), (o_vdisk_Disk_03 false (C.mp 2) np p1), (om_ e_vdisk_file p1.files), (some (AObj.cells true (rowC (e_sl e_u8) (x1 ++ ([r4.1] : List (List Int))))))]⟩, by omega, (wg 3 [0, 1, 2, 5] [] hx (le_upd (le_upd (le_upd (le_upd (le_top _) (o1 (.ref rfl))) (o1 .same)) (o1 (.own rfl))) (o1 .sc)) (ac (.cells id (ac (.ref rfl) (ac .same (ac .same (ac .sc an))))) (ac (qs rfl) (ac .map (ac (.cells (fun _ => rfl) (all2_row _)) an))))), by omega, x1 ++ ([r4.1] : List (List Int)), IntKind.i64.wrap (x2 + (IntKind.i64.wrap (8 + (r4.1.length : Int)))), h, rfl⟩
  ·refine AW.cond_yes rfl (by rw [c5] <;> rfl) (AW.exit (AW.seq (AW.seq (AW.region ?_))))
   refine s_move (d := (D.one (C.own 3 0 x1.length 1))) rfl (s_len (n := x1.length) F.u_25 rfl (.inr ⟨(fun _ _ h => by cases h), ⟨_, rfl⟩⟩) (s_binI (v := (.bool ((x1.length : Int) == 0))) rfl rfl rfl (AWops.nil ?_)))
   rcases itH h with ⟨c7, h⟩ | ⟨c7, h⟩
   ·refine AW.cond_yes rfl c7 (AW.seq (AW.region ?_))
    refine s_assign (d := (sc (.pointer none))) rfl (s_assign (d := (si 72)) rfl (AWops.nil (AW.ret ?_)))
    obtain rfl := Option.some.inj h
    exact ⟨_, rfl, (wg 3 [0, 1, 2] [] rfl (le_upd (le_top _) (DLe.tup (ac (TLe.one .sc) (ac (TLe.one .sc) an)))) (ac (.cells id (ac (.ref rfl) (ac .same (ac .same (ac .sc an))))) (ac (qs rfl) (ac .map an))))⟩
   ·refine AW.cond_no rfl c7 (AW.skip ?_)
    refine AW.seqJ (fun st => ∃ (x11 : Int) (x12 : Int) (x13 : Bool) (x14 : List (ByteArray × vdisk_file)), journal_Journal_scan_33.j1 ql0 x11 x12 x13 x14 p0 x1 = some r ∧ st = ⟨57, (upd 57 (upd 57 topF 0 (rf 0 0)) 6 (D.one (C.own 3 0 x1.length 1))), [(o_journal_Journal_0 false (C.ref 1 0) p0), (some (AObj.cells false [(C.mp 2), (ci x11), (ci x12), np, (cb x13)])), (om_ e_vdisk_file x14), (some (AObj.cells true (rowC (e_sl e_u8) x1)))]⟩) ?_ ?_
    ·refine AW.seq (AW.region ?_)
     refine s_move (d := (si x2)) rfl (s_move (d := (ds_ e_u8 a1)) rfl (s_len (n := a1.length) F.u_22 rfl (.inr ⟨(fun _ _ h => by cases h), ⟨_, rfl⟩⟩) (s_binI (v := (.bool (decide (x2 < (a1.length : Int))))) rfl rfl rfl (AWops.nil ?_))))
     rcases itH h with ⟨c8, h⟩ | ⟨c8, h⟩
     ·refine AW.cond_yes rfl c8 (AW.seq (AW.region ?_))
      refine s_move (d := (rf 0 0)) rfl (s_nilCheck (d := (rf 0 0)) rfl (.inl ⟨_, _, rfl⟩) (s_fieldRef F.fo_27_0 (by decide) rfl (s_load1 (c' := (C.ref 1 0)) F.ag_24 rfl rfl (s_move (d := (si x2)) rfl ?_))))
      obtain ⟨r9, er9, h⟩ := bnd h
      refine cc [1, 2] [(o_journal_Journal_0 false (C.ref 1 0) p0), (o_vdisk_Disk_03 false (C.mp 2) np r9.2), (om_ e_vdisk_file r9.2.files), (some (AObj.cells true (rowC (e_sl e_u8) x1)))] (si r9.1) F.ca_44 rfl rfl (ac (.one (.ref rfl)) (ac (.one .sc) (ac (.one .sc) an))) (ac (.cells (ac (.mp rfl) (ac .sc (ac .sc (ac .sc (ac .sc an)))))) (ac .map an)) (vdisk_Disk_Truncate_44.meets _ p1 (⟨#[106, 111, 117, 114, 110, 97, 108]⟩ : ByteArray) x2 r9 er9) (s_assign (d := (si r9.1)) rfl (AWops.nil (AW.seq (AW.region (s_move (d := (si r9.1)) rfl (s_binI (v := (.bool (r9.1 != 0))) rfl rfl rfl (AWops.nil ?_)))))))
      rcases itH h with ⟨c10, h⟩ | ⟨c10, h⟩
      ·refine AW.cond_yes rfl c10 (AW.seq (AW.region ?_))
       refine s_move (d := (si r9.1)) rfl (s_assign (d := (sc (.pointer none))) rfl (s_assign (d := (si r9.1)) rfl (AWops.nil (AW.ret ?_))))
       obtain rfl := Option.some.inj h
       exact ⟨_, rfl, (wg 3 [0, 1, 2] [] rfl (le_upd (le_top _) (DLe.tup (ac (TLe.one .sc) (ac (TLe.one .sc) an)))) (ac (.cells id (ac (.ref rfl) (ac .same (ac .same (ac .sc an))))) (ac (qs rfl) (ac .map an))))⟩
      ·refine AW.cond_no rfl c10 (AW.skip ?_)
       exact ⟨⟨57, (upd 57 (upd 57 topF 0 (rf 0 0)) 6 (D.one (C.own 3 0 x1.length 1))), [(o_journal_Journal_0 false (C.ref 1 0) p0), (some (AObj.cells false [(C.mp 2), (ci r9.2.room), (ci r9.2.used), np, (cb r9.2.dead)])), (om_ e_vdisk_file r9.2.files), (some (AObj.cells true (rowC (e_sl e_u8) x1)))]⟩, (wg 3 [0, 1, 2, 3] [] hx (le_upd (le_upd (le_top _) (o1 (.ref rfl))) (o1 (.own rfl))) (ac (.cells id (ac (.ref rfl) (ac .same (ac .same (ac .sc an))))) (ac (qs rfl) (ac .map (ac (.cells (fun _ => rfl) (all2_row _)) an))))), r9.2.room, r9.2.used, r9.2.dead, r9.2.files, h, rfl⟩
     ·refine AW.cond_no rfl c8 (AW.skip ?_)
      exact ⟨⟨57, (upd 57 (upd 57 topF 0 (rf 0 0)) 6 (D.one (C.own 3 0 x1.length 1))), [(o_journal_Journal_0 false (C.ref 1 0) p0), (some (AObj.cells false [(C.mp 2), (ci p1.room), (ci p1.used), np, (cb p1.dead)])), (om_ e_vdisk_file p1.files), (some (AObj.cells true (rowC (e_sl e_u8) x1)))]⟩, (wg 3 [0, 1, 2, 3] [] hx (le_upd (le_upd (le_top _) (o1 (.ref rfl))) (o1 (.own rfl))) (ac (.cells id (ac (.ref rfl) (ac .same (ac .same (ac .sc an))))) (ac (qs rfl) (ac .map (ac (.cells (fun _ => rfl) (all2_row _)) an))))), p1.room, p1.used, p1.dead, p1.files, h, rfl⟩
    ·rintro st ⟨x11, x12, x13, x14, h, rfl⟩
     cases ql0 with
     | zero => exact absurd h (by simp [journal_Journal_scan_33.j1])
     | succ qj1 =>
      replace h := (journal_Journal_scan_33.j1.eq_2 _ _ _ _ _ _ _).symm.trans h
      refine AW.seq ?_
      refine AW.weak (st' := ⟨57, (upd 57 (upd 57 topF 0 (rf 0 0)) 6 (D.one (C.p false (.sl x1.length (x1.flatMap (e_sl e_u8)))))), [(o_journal_Journal_0 false (C.ref 1 0) p0), (some (AObj.cells false [(C.mp 2), (ci x11), (ci x12), np, (cb x13)])), (om_ e_vdisk_file x14)]⟩) (wg 3 [0, 1, 2] [3] hx (le_upd (le_upd (le_top _) (o1 (.ref rfl))) (o1 (CLe.frz (e_sl_len _) rfl rfl rfl))) (ac (.cells id (ac (.ref rfl) (ac .same (ac .same (ac .sc an))))) (ac (qs rfl) (ac .map an)))) ?_
      refine AW.weak (st' := ⟨57, (upd 57 (upd 57 topF 0 (rf 0 0)) 6 (D.one (C.p false (.sl x1.length (x1.flatMap (e_sl e_u8)))))), [(o_journal_Journal_0 false (C.ref 1 0) p0), (some (AObj.cells false [(C.mp 2), (ci x11), (ci x12), np, (cb x13)])), (om_ e_vdisk_file x14)]⟩) (wg 3 [0, 1, 2] [] hx (le_upd (le_upd (le_top _) (o1 (.ref rfl))) (o1 .same)) (ac (.cells id (ac (.ref rfl) (ac .same (ac .same (ac .sc an))))) (ac (qs rfl) (ac .map an)))) ?_
      obtain ⟨v15, ev15, h⟩ := bnd h
      obtain ⟨pv15, qv15, gv15⟩ := rd_some ev15
      obtain ⟨c16, h⟩ := gdH h
      have dc16 := of_decide_eq_true c16
      refine AW.draw (n := 57) (L := 3) [(ft 0 45 (rf 0 0) [(0, (rf 0 0))]), (ft 1 46 (rf 0 0) [(0, (rf 0 0))]), (ft 2 47 (D.one (C.p false (.sl x1.length (x1.flatMap (e_sl e_u8))))) [(6, (D.one (C.p false (.sl x1.length (x1.flatMap (e_sl e_u8))))))]), (ft 3 48 (D.one (C.peek false [P.sl v15.length (v15.flatMap e_u8)])) [(47, (D.one (C.p false (.sl x1.length (x1.flatMap (e_sl e_u8))))))]), (ft 4 49 (ds_ e_u8 v15) [(48, (D.one (C.peek false [P.sl v15.length (v15.flatMap e_u8)])))]), (ft 5 50 (D.one (C.p false (.sl x1.length (x1.flatMap (e_sl e_u8))))) [(6, (D.one (C.p false (.sl x1.length (x1.flatMap (e_sl e_u8))))))]), (ft 6 51 (D.one (C.p false (.sl (sub x1 1 (x1.length : Int)).length ((sub x1 1 (x1.length : Int)).flatMap (e_sl e_u8))))) [(50, (D.one (C.p false (.sl x1.length (x1.flatMap (e_sl e_u8))))))]), (ft 7 52 (rf 0 0) [(45, (rf 0 0))]), (ft 8 53 (rf 0 1) [(52, (rf 0 0))]), (9, ⟨none, (D.one C.top), [(49, (ds_ e_u8 v15)), (53, (rf 0 1))], [(0, (o_journal_Journal_0 false (C.ref 1 0) p0))], [(0, (some (AObj.cells false [(C.ref 1 0), (cl_ e_u8 v15), (C.p false (.sl p0.l.length (p0.l.flatMap (e_sl e_u8)))), (cb p0.stopped)])))], none⟩), (ft 10 54 (rf 0 0) [(46, (rf 0 0))]), (ft 11 55 (rf 0 2) [(54, (rf 0 0))]), (12, ⟨none, (D.one C.top), [(51, (D.one (C.p false (.sl (sub x1 1 (x1.length : Int)).length ((sub x1 1 (x1.length : Int)).flatMap (e_sl e_u8)))))), (55, (rf 0 2))], [(0, (some (AObj.cells false [(C.ref 1 0), (cl_ e_u8 v15), (C.p false (.sl p0.l.length (p0.l.flatMap (e_sl e_u8)))), (cb p0.stopped)])))], [(0, (some (AObj.cells false [(C.ref 1 0), (cl_ e_u8 v15), (C.p false (.sl (sub x1 1 (x1.length : Int)).length ((sub x1 1 (x1.length : Int)).flatMap (e_sl e_u8)))), (cb p0.stopped)])))], none⟩)] [[], [], [], [2], [2, 3], [], [5], [0, 2, 3, 4], [0, 2, 3, 4, 7], [0, 2, 3, 4, 7, 8], (.range 10), (.range 11), (.range 12)] (nl rfl) [0, 6, 0, 1, 2, 0, 1, 3, 4, 5, 7, 8, 9] rfl (TK := []) rfl AllK.nil' (by repeat (first | refine fC ⟨?_, ?_⟩ ?_ | refine sC rfl ?_ | refine hC rfl ?_ | trivial)) ?_ ?_
      ·refine y8 ?_ ?_ ?_ ?_ ?_ ?_ ?_ ?_ (y4 ?_ ?_ ?_ ?_ (pC ?_ yN))
       ·intro K _ f w u k
        show Wp K ⟨57, (upd 57 f 0 (rf 0 0)), _⟩
        refine s_move (d := (rf 0 0)) rfl k
       ·intro K _ f w u k
        show Wp K ⟨57, (upd 57 f 0 (rf 0 0)), _⟩
        refine s_move (d := (rf 0 0)) rfl k
       ·intro K _ f w u k
        show Wp K ⟨57, (upd 57 f 6 (D.one (C.p false (.sl x1.length (x1.flatMap (e_sl e_u8)))))), _⟩
        refine s_move (d := (D.one (C.p false (.sl x1.length (x1.flatMap (e_sl e_u8)))))) rfl k
       ·intro K _ f w u k
        show Wp K ⟨57, (upd 57 f 47 (D.one (C.p false (.sl x1.length (x1.flatMap (e_sl e_u8)))))), [_, _, _]⟩
        refine s_indexImm (ps := [P.sl v15.length (v15.flatMap e_u8)]) F.u_25 F.sz_22 rfl rfl pv15 qv15 (flat_at (e_sl_len _) gv15 (e_sl_eq _ v15)) k
       ·intro K _ f w u k
        show Wp K ⟨57, (upd 57 f 48 (D.one (C.peek false [P.sl v15.length (v15.flatMap e_u8)]))), [_, _, _]⟩
        refine s_load1 (c' := (cl_ e_u8 v15)) F.ag_22 rfl rfl k
       ·intro K _ f w u k
        show Wp K ⟨57, (upd 57 f 6 (D.one (C.p false (.sl x1.length (x1.flatMap (e_sl e_u8)))))), _⟩
        refine s_move (d := (D.one (C.p false (.sl x1.length (x1.flatMap (e_sl e_u8)))))) rfl k
       ·intro K _ f w u k
        show Wp K ⟨57, (upd 57 f 50 (D.one (C.p false (.sl x1.length (x1.flatMap (e_sl e_u8)))))), [_, _, _]⟩
        refine t_sliceImm (a := 1) (b := (x1.length : Int)) F.u_25 F.sz_22 (e_sl_len _) rfl (by omega) (by omega) (by omega) (.yes rfl (by omega) rfl) .no k
       ·intro K _ f w u k
        show Wp K ⟨57, (upd 57 f 45 (rf 0 0)), [_, _, _]⟩
        refine s_nilCheck (d := (rf 0 0)) rfl (.inl ⟨_, _, rfl⟩) k
       ·intro K _ f w u k
        show Wp K ⟨57, (upd 57 f 52 (rf 0 0)), [_, _, _]⟩
        refine s_fieldRef F.fo_27_1 (by decide) rfl k
       ·intro K _ f w u k
        show Wp K ⟨57, (upd 57 (upd 57 f 53 (rf 0 1)) 49 (ds_ e_u8 v15)), [(o_journal_Journal_0 false (C.ref 1 0) p0), _, _]⟩
        refine s_store (cs' := [(C.ref 1 0), (cl_ e_u8 v15), (C.p false (.sl p0.l.length (p0.l.flatMap (e_sl e_u8)))), (cb p0.stopped)]) rfl rfl rfl (List.cons_ne_nil _ _) rfl F.sz_22 (nl rfl) rfl k
       ·intro K _ f w u k
        show Wp K ⟨57, (upd 57 f 46 (rf 0 0)), [_, _, _]⟩
        refine s_nilCheck (d := (rf 0 0)) rfl (.inl ⟨_, _, rfl⟩) k
       ·intro K _ f w u k
        show Wp K ⟨57, (upd 57 f 54 (rf 0 0)), [_, _, _]⟩
        refine s_fieldRef F.fo_27_2 (by decide) rfl k
       ·intro K _ f w u k
        show Wp K ⟨57, (upd 57 (upd 57 f 55 (rf 0 2)) 51 (D.one (C.p false (.sl (sub x1 1 (x1.length : Int)).length ((sub x1 1 (x1.length : Int)).flatMap (e_sl e_u8)))))), [(some (AObj.cells false [(C.ref 1 0), (cl_ e_u8 v15), (C.p false (.sl p0.l.length (p0.l.flatMap (e_sl e_u8)))), (cb p0.stopped)])), _, _]⟩
        refine s_store (cs' := [(C.ref 1 0), (cl_ e_u8 v15), (C.p false (.sl (sub x1 1 (x1.length : Int)).length ((sub x1 1 (x1.length : Int)).flatMap (e_sl e_u8)))), (cb p0.stopped)]) rfl rfl rfl (List.cons_ne_nil _ _) rfl F.sz_25 (nl rfl) rfl k
      ·refine AWops.weak (st' := ⟨57, (upd 57 topF 0 (rf 0 0)), [(some (AObj.cells false [(C.ref 1 0), (cl_ e_u8 v15), (C.p false (.sl (sub x1 1 (x1.length : Int)).length ((sub x1 1 (x1.length : Int)).flatMap (e_sl e_u8)))), (cb p0.stopped)])), (some (AObj.cells false [(C.mp 2), (ci x11), (ci x12), np, (cb x13)])), (om_ e_vdisk_file x14)]⟩) (wg 3 [0, 1, 2] [] hx (le_upd (le_top _) (o1 (.ref rfl))) (ac (.cells id (ac (.ref rfl) (ac .same (ac .same (ac .sc an))))) (ac (qs rfl) (ac .map an)))) (AWops.nil (AW.seq (AW.region ?_)))
       refine s_move (d := (rf 0 0)) rfl (s_assign (d := (rf 0 0)) rfl (s_assign (d := (si 0)) rfl (AWops.nil (AW.ret ?_))))
       obtain rfl := Option.some.inj h
       exact ⟨_, rfl, (wg 3 [0, 1, 2] [] rfl (le_upd (le_top _) (DLe.tup (ac (TLe.one (.ref rfl)) (ac (TLe.one .sc) an)))) (ac (.cells id (ac (.ref rfl) (ac .same (ac .same (ac .sc an))))) (ac (qs rfl) (ac .map an))))⟩
mutual
def journal_Open_12.j0 : Nat → Bool → (List Int) → (Int × vdisk_Disk) → Option ((Option journal_Journal) × Int × vdisk_Disk)
 | 0, _, _, _ => none
 | k + 1, x3, a1, r1 => if x3 = true then ((vdisk_Disk_Read.f k r1.2 (⟨#[106, 111, 117, 114, 110, 97, 108]⟩ : ByteArray)).bind fun r5 => if (r5.2 == 0) = true then ((journal_Journal_scan_33.f k (⟨(), ([] : List Int), ([] : List (List Int)), false⟩ : journal_Journal) r5.1 r1.2).bind fun r7 => optE r7.1 (some ((none : Option journal_Journal), r7.2.1, r7.2.2.2)) (fun y9 => some (some (⟨(), r7.2.2.1.snap, r7.2.2.1.l, r7.2.2.1.stopped⟩ : journal_Journal), r7.2.1, r7.2.2.2))) else (if (r5.2 != 33) = true then (some ((none : Option journal_Journal), r5.2, r1.2)) else (if (decide ((a1.length : Int) > 4194304)) = true then (some ((none : Option journal_Journal), 1, r1.2)) else ((journal_replace.f k r1.2 a1).bind fun r12 => if (r12.1 != 0) = true then (some ((none : Option journal_Journal), r12.1, r12.2)) else ((slices_Clone_byte_byte.f k a1).bind fun r14 => some (some (⟨(), r14, ([] : List (List Int)), false⟩ : journal_Journal), 0, r12.2)))))) else (some ((none : Option journal_Journal), r1.1, r1.2))
end
def journal_Open_12.f (k : Nat) (p0 : vdisk_Disk) (a1 : List Int) : Option ((Option journal_Journal) × Int × vdisk_Disk) := (vdisk_Disk_Remove.f k p0 (⟨#[106, 111, 117, 114, 110, 97, 108, 46, 110, 101, 119]⟩ : ByteArray)).bind fun r1 => if (r1.1 == 0) = true then (journal_Open_12.j0 k (r1.1 == 0) a1 r1) else (journal_Open_12.j0 k (r1.1 == 33) a1 r1)
theorem journal_Open_12.meets (k : Nat) (p0 : vdisk_Disk) (a1 : List Int) (r : (Option journal_Journal) × Int × vdisk_Disk) (h : journal_Open_12.f k p0 a1 = some r) : Meets Try.prog 12 [(rf 0 0), (ds_ e_u8 a1)] [(o_vdisk_Disk_03 false (C.mp 1) np p0), (om_ e_vdisk_file p0.files)] (optE r.1 (D.tup [(sc (.pointer none)), (si r.2.1)]) (fun z1 : journal_Journal => (D.tup [(rf 2 0), (si r.2.1)]))) (optE r.1 [(o_vdisk_Disk_03 false (C.mp 1) np r.2.2), (om_ e_vdisk_file r.2.2.files)] (fun z1 : journal_Journal => [(o_vdisk_Disk_03 false (C.mp 1) np r.2.2), (om_ e_vdisk_file r.2.2.files), (o_journal_Journal_0 true (C.ref 0 0) z1)])) := by
 unfold journal_Open_12.f at h
 refine Meets.of_body (n := 54) Try.func12 rfl rfl (nl rfl) fun x hx => ?_
 replace hx : x.k = 2 := hx
 show AW _ x _ _ ⟨54, fr0 [(rf 0 0), (ds_ e_u8 a1)], [(o_vdisk_Disk_03 false (C.mp 1) np p0), (om_ e_vdisk_file p0.files)]⟩
 refine AW.seq (AW.region ?_)
 refine s_assign (d := (sc (.pointer none))) rfl (s_assign (d := (si 0)) rfl (AWops.nil (AW.seq (AW.seq (AW.region (s_move (d := (rf 0 0)) rfl ?_))))))
 obtain ⟨r1, er1, h⟩ := bnd h
 refine cc [0, 1] [(o_vdisk_Disk_03 false (C.mp 1) np r1.2), (om_ e_vdisk_file r1.2.files)] (si r1.1) F.ca_31 rfl rfl (ac (.one (.ref rfl)) (ac (.one .sc) an)) (ac (.cells (ac (.mp rfl) (ac .sc (ac .sc (ac .sc (ac .sc an)))))) (ac .map an)) (vdisk_Disk_Remove.meets _ p0 (⟨#[106, 111, 117, 114, 110, 97, 108, 46, 110, 101, 119]⟩ : ByteArray) r1 er1) (s_assign (d := (si r1.1)) rfl (AWops.nil (AW.seq (AW.region (s_move (d := (si r1.1)) rfl (AWops.nil (AW.block ?_)))))))
 refine AW.seqJ (fun st => ∃ (x3 : Bool), journal_Open_12.j0 k x3 a1 r1 = some r ∧ st = ⟨54, (upd 54 (upd 54 (upd 54 (upd 54 topF 0 (rf 0 0)) 1 (ds_ e_u8 a1)) 6 (si r1.1)) 15 (sb x3)), [(o_vdisk_Disk_03 false (C.mp 1) np r1.2), (om_ e_vdisk_file r1.2.files)]⟩) ?_ ?_
 ·refine AW.seq (AW.region ?_)
  refine s_binI (v := (.bool (r1.1 == 0))) rfl rfl rfl (s_assign (d := (sb (r1.1 == 0))) rfl (AWops.nil ?_))
  rcases itH h with ⟨c2, h⟩ | ⟨c2, h⟩
  ·refine AW.cond_yes rfl c2 (AW.skip ?_)
   exact ⟨⟨54, (upd 54 (upd 54 (upd 54 (upd 54 topF 0 (rf 0 0)) 1 (ds_ e_u8 a1)) 6 (si r1.1)) 15 (sb (r1.1 == 0))), [(o_vdisk_Disk_03 false (C.mp 1) np r1.2), (om_ e_vdisk_file r1.2.files)]⟩, (wg 2 [0, 1] [] hx (le_upd (le_upd (le_upd (le_upd (le_top _) (o1 (.ref rfl))) (o1 .same)) (o1 .sc)) (o1 .sc)) (ac (qs rfl) (ac .map an))), (r1.1 == 0), h, rfl⟩
  ·refine AW.cond_no rfl c2 (AW.region ?_)
   refine s_binI (v := (.bool (r1.1 == 33))) rfl rfl rfl (s_assign (d := (sb (r1.1 == 33))) rfl (AWops.nil ?_))
   exact ⟨⟨54, (upd 54 (upd 54 (upd 54 (upd 54 topF 0 (rf 0 0)) 1 (ds_ e_u8 a1)) 6 (si r1.1)) 15 (sb (r1.1 == 33))), [(o_vdisk_Disk_03 false (C.mp 1) np r1.2), (om_ e_vdisk_file r1.2.files)]⟩, (wg 2 [0, 1] [] hx (le_upd (le_upd (le_upd (le_upd (le_top _) (o1 (.ref rfl))) (o1 .same)) (o1 .sc)) (o1 .sc)) (ac (qs rfl) (ac .map an))), (r1.1 == 33), h, rfl⟩
 ·rintro st ⟨x3, h, rfl⟩
  cases k with
  | zero => exact absurd h (by simp [journal_Open_12.j0])
  | succ qj0 =>
   replace h := (journal_Open_12.j0.eq_2 _ _ _ _).symm.trans h
   rcases itH h with ⟨c4, h⟩ | ⟨c4, h⟩
   ·refine AW.cond_yes rfl c4 (AW.skip (AW.seq (AW.region ?_)))
    refine s_move (d := (rf 0 0)) rfl (s_build (ps := [(0, (rf 0 0))]) (cs := [(C.ref 0 0), (C.p true (.v (.slice none 0 0))), (C.p true (.v (.slice none 0 0))), (cb false)]) F.z_27 rfl F.so_27 rfl rfl (s_box (cs := [(C.ref 0 0), (C.p true (.v (.slice none 0 0))), (C.p true (.v (.slice none 0 0))), (cb false)]) rfl (List.cons_ne_nil _ _) rfl (s_assign (d := (rf 2 0)) rfl (AWops.nil (AW.seq (AW.region (s_move (d := (rf 0 0)) rfl ?_)))))))
    obtain ⟨r5, er5, h⟩ := bnd h
    refine cc [0, 1] [(o_vdisk_Disk_03 false (C.mp 1) np r1.2), (om_ e_vdisk_file r1.2.files), (some (AObj.cells true [(C.ref 0 0), (C.p true (.v (.slice none 0 0))), (C.p true (.v (.slice none 0 0))), (cb false)]))] (D.tup [(ds_ e_u8 r5.1), (si r5.2)]) F.ca_32 rfl rfl (ac (.one (.ref rfl)) (ac (.one .sc) an)) (ac (.cells (ac (.mp rfl) (ac .sc (ac .sc (ac .sc (ac .sc an)))))) (ac .map an)) (vdisk_Disk_Read.meets _ r1.2 (⟨#[106, 111, 117, 114, 110, 97, 108]⟩ : ByteArray) r5 er5) (s_move (d := (D.tup [(ds_ e_u8 r5.1), (si r5.2)])) rfl (s_extract (d := (ds_ e_u8 r5.1)) rfl rfl (s_extract (d := (si r5.2)) rfl rfl (s_assign (d := (ds_ e_u8 r5.1)) rfl (s_assign (d := (si r5.2)) rfl (AWops.nil (AW.seq (AW.block (AW.seq (AW.region ?_))))))))))
    refine s_move (d := (si r5.2)) rfl (s_binI (v := (.bool (r5.2 == 0))) rfl rfl rfl (s_assign (d := (sb (r5.2 == 0))) rfl (AWops.nil ?_)))
    rcases itH h with ⟨c6, h⟩ | ⟨c6, h⟩
    ·refine AW.cond_yes rfl c6 (AW.seq (AW.region ?_))
     refine s_move (d := (rf 2 0)) rfl (s_move (d := (ds_ e_u8 r5.1)) rfl ?_)
     obtain ⟨r7, er7, h⟩ := bnd h
     rcases optH h with ⟨c8, h⟩ | ⟨y9, c8, h⟩
     ·refine cc [2, 0, 1] [(o_vdisk_Disk_03 false (C.mp 1) np r7.2.2.2), (om_ e_vdisk_file r7.2.2.2.files), (o_journal_Journal_0 true (C.ref 0 0) r7.2.2.1)] (D.tup [(sc (.pointer none)), (si r7.2.1)]) F.ca_33 rfl rfl (ac (.one (.ref rfl)) (ac (.one .imm) an)) (ac (.cells (ac (.ref rfl) (ac .nil (ac .nil (ac .sc an))))) (ac (.cells (ac (.mp rfl) (ac .sc (ac .sc (ac .sc (ac .sc an)))))) (ac .map an))) (Meets.eqs (optE_none c8) (optE_none c8) (journal_Journal_scan_33.meets _ (⟨(), ([] : List Int), ([] : List (List Int)), false⟩ : journal_Journal) r5.1 r1.2 r7 er7)) (s_extract (d := (sc (.pointer none))) rfl rfl (s_extract (d := (si r7.2.1)) rfl rfl (s_assign (d := (sc (.pointer none))) rfl (s_assign (d := (si r7.2.1)) rfl (AWops.nil (AW.ret ?_))))))
      obtain rfl := Option.some.inj h
      exact ⟨_, rfl, (wg 2 [0, 1] [] rfl (le_upd (le_top _) (DLe.tup (ac (TLe.one .sc) (ac (TLe.one .sc) an)))) (ac (qs rfl) (ac .map an)))⟩
     ·refine cc [2, 0, 1] [(o_vdisk_Disk_03 false (C.mp 1) np r7.2.2.2), (om_ e_vdisk_file r7.2.2.2.files), (o_journal_Journal_0 true (C.ref 0 0) r7.2.2.1)] (D.tup [(rf 2 0), (si r7.2.1)]) F.ca_33 rfl rfl (ac (.one (.ref rfl)) (ac (.one .imm) an)) (ac (.cells (ac (.ref rfl) (ac .nil (ac .nil (ac .sc an))))) (ac (.cells (ac (.mp rfl) (ac .sc (ac .sc (ac .sc (ac .sc an)))))) (ac .map an))) (Meets.eqs (optE_some c8) (optE_some c8) (journal_Journal_scan_33.meets _ (⟨(), ([] : List Int), ([] : List (List Int)), false⟩ : journal_Journal) r5.1 r1.2 r7 er7)) (s_extract (d := (rf 2 0)) rfl rfl (s_extract (d := (si r7.2.1)) rfl rfl (s_assign (d := (rf 2 0)) rfl (s_assign (d := (si r7.2.1)) rfl (AWops.nil (AW.ret ?_))))))
      obtain rfl := Option.some.inj h
      exact ⟨_, rfl, (wg 2 [0, 1, 2] [] rfl (le_upd (le_top _) (DLe.tup (ac (TLe.one (.ref rfl)) (ac (TLe.one .sc) an)))) (ac (qs rfl) (ac .map (ac (.cells (fun _ => rfl) (ac (.ref rfl) (ac .same (ac .same (ac .sc an))))) an))))⟩
    ·refine AW.cond_no rfl c6 (AW.seq (AW.region ?_))
     refine s_move (d := (si r5.2)) rfl (s_binI (v := (.bool (r5.2 != 33))) rfl rfl rfl (s_assign (d := (sb (r5.2 != 33))) rfl (AWops.nil ?_)))
     rcases itH h with ⟨c10, h⟩ | ⟨c10, h⟩
     ·refine AW.cond_yes rfl c10 (AW.seq (AW.region ?_))
      refine s_move (d := (si r5.2)) rfl (s_assign (d := (sc (.pointer none))) rfl (s_assign (d := (si r5.2)) rfl (AWops.nil (AW.ret ?_))))
      obtain rfl := Option.some.inj h
      exact ⟨_, rfl, (wg 2 [0, 1] [] rfl (le_upd (le_top _) (DLe.tup (ac (TLe.one .sc) (ac (TLe.one .sc) an)))) (ac (qs rfl) (ac .map an)))⟩
     ·refine AW.cond_no rfl c10 (AW.seq (AW.region ?_))
      refine s_move (d := (ds_ e_u8 a1)) rfl (s_len (n := a1.length) F.u_22 rfl (.inr ⟨(fun _ _ h => by cases h), ⟨_, rfl⟩⟩) (s_binI (v := (.bool (decide ((a1.length : Int) > 4194304)))) rfl rfl rfl (s_assign (d := (sb (decide ((a1.length : Int) > 4194304)))) rfl (AWops.nil ?_))))
      rcases itH h with ⟨c11, h⟩ | ⟨c11, h⟩
      ·refine AW.cond_yes rfl c11 (AW.seq (AW.region ?_))
       refine s_assign (d := (sc (.pointer none))) rfl (s_assign (d := (si 1)) rfl (AWops.nil (AW.ret ?_)))
       obtain rfl := Option.some.inj h
       exact ⟨_, rfl, (wg 2 [0, 1] [] rfl (le_upd (le_top _) (DLe.tup (ac (TLe.one .sc) (ac (TLe.one .sc) an)))) (ac (qs rfl) (ac .map an)))⟩
      ·refine AW.cond_no rfl c11 (AW.skip (AW.seq (AW.seq (AW.region ?_))))
       refine s_move (d := (rf 0 0)) rfl (s_move (d := (ds_ e_u8 a1)) rfl ?_)
       obtain ⟨r12, er12, h⟩ := bnd h
       refine cc [0, 1] [(o_vdisk_Disk_03 false (C.mp 1) np r12.2), (om_ e_vdisk_file r12.2.files), (some (AObj.cells true [(C.ref 0 0), (C.p true (.v (.slice none 0 0))), (C.p true (.v (.slice none 0 0))), (cb false)]))] (si r12.1) F.ca_29 rfl rfl (ac (.one (.ref rfl)) (ac (.one .imm) an)) (ac (.cells (ac (.mp rfl) (ac .sc (ac .sc (ac .sc (ac .sc an)))))) (ac .map an)) (journal_replace.meets _ r1.2 a1 r12 er12) (s_assign (d := (si r12.1)) rfl (AWops.nil (AW.seq (AW.region (s_move (d := (si r12.1)) rfl (s_binI (v := (.bool (r12.1 != 0))) rfl rfl rfl (AWops.nil ?_)))))))
       rcases itH h with ⟨c13, h⟩ | ⟨c13, h⟩
       ·refine AW.cond_yes rfl c13 (AW.seq (AW.region ?_))
        refine s_move (d := (si r12.1)) rfl (s_assign (d := (sc (.pointer none))) rfl (s_assign (d := (si r12.1)) rfl (AWops.nil (AW.ret ?_))))
        obtain rfl := Option.some.inj h
        exact ⟨_, rfl, (wg 2 [0, 1] [] rfl (le_upd (le_top _) (DLe.tup (ac (TLe.one .sc) (ac (TLe.one .sc) an)))) (ac (qs rfl) (ac .map an)))⟩
       ·refine AW.cond_no rfl c13 (AW.skip (AW.seq (AW.region ?_)))
        refine s_move (d := (rf 2 0)) rfl (s_move (d := (ds_ e_u8 a1)) rfl ?_)
        obtain ⟨r14, er14, h⟩ := bnd h
        refine cc [] [(o_vdisk_Disk_03 false (C.mp 1) np r12.2), (om_ e_vdisk_file r12.2.files), (some (AObj.cells true [(C.ref 0 0), (C.p true (.v (.slice none 0 0))), (C.p true (.v (.slice none 0 0))), (cb false)])), (ow_ e_u8 r14)] (D.one (C.own 3 0 r14.length 1)) F.ca_28 rfl rfl (ac (.one .imm) an) an (slices_Clone_byte_byte.meets _ a1 r14 er14) (s_nilCheck (d := (rf 2 0)) rfl (.inl ⟨_, _, rfl⟩) (s_fieldRef F.fo_27_1 (by decide) rfl (s_store (cs' := [(C.ref 0 0), (C.own 3 0 r14.length 1), (C.p true (.v (.slice none 0 0))), (cb false)]) rfl rfl rfl (List.cons_ne_nil _ _) rfl F.sz_22 (nl rfl) rfl (AWops.nil (AW.seq (AW.region (s_move (d := (rf 2 0)) rfl (s_assign (d := (rf 2 0)) rfl ?_))))))))
        refine s_assign (d := (si 0)) rfl (AWops.nil (AW.ret ?_))
        obtain rfl := Option.some.inj h
        exact ⟨_, rfl, (wg 2 [0, 1, 2] [3] rfl (le_upd (le_top _) (DLe.tup (ac (TLe.one (.ref rfl)) (ac (TLe.one .sc) an)))) (ac (qs rfl) (ac .map (ac (.cells (fun _ => rfl) (ac (.ref rfl) (ac (CLe.frz e_u8_len rfl rfl rfl) (ac .nil (ac .sc an))))) an))))⟩
   ·refine AW.cond_no rfl c4 (AW.seq (AW.region ?_))
    refine s_move (d := (si r1.1)) rfl (s_assign (d := (sc (.pointer none))) rfl (s_assign (d := (si r1.1)) rfl (AWops.nil (AW.ret ?_))))
    obtain rfl := Option.some.inj h
    exact ⟨_, rfl, (wg 2 [0, 1] [] rfl (le_upd (le_top _) (DLe.tup (ac (TLe.one .sc) (ac (TLe.one .sc) an)))) (ac (qs rfl) (ac .map an)))⟩
def journal_Journal_none_nil0.f (k : Nat) : Option Bool := some true
theorem journal_Journal_none_nil0.meets (k : Nat) (r : Bool) (h : journal_Journal_none_nil0.f k = some r) : Meets Try.prog 30 [(sc (.pointer none))] [] (sb r) [] := by
 unfold journal_Journal_none_nil0.f at h
 refine Meets.of_body (n := 12) Try.func30 rfl rfl (nl rfl) fun x hx => ?_
 replace hx : x.k = 0 := hx
 show AW _ x _ _ ⟨12, fr0 [(sc (.pointer none))], []⟩
 refine AW.seq (AW.region ?_)
 refine s_assign (d := (sb false)) rfl (AWops.nil (AW.seq (AW.region ?_)))
 refine s_move (d := (sc (.pointer none))) rfl (s_ptrNil (b := true) F.u_23 rfl (.inr ⟨⟨_, rfl⟩, rfl⟩) (.inl rfl) (s_move (d := (sb true)) rfl ?_))
 iterate 5 refine AWops.guard_no rfl (nl rfl) rfl rfl ?_
 refine s_pick_yes (d := (sb true)) rfl rfl rfl (s_assign (d := (sb true)) rfl (AWops.nil (AW.ret ?_)))
 obtain rfl := Option.some.inj h
 exact ⟨_, rfl, (wg 0 [] [] rfl (le_upd (le_top _) (o1 .sc)) an)⟩
theorem journal_Journal_none_nil0.const {k : Nat} {r : Bool} (h : journal_Journal_none_nil0.f k = some r) : r = true := by
 unfold journal_Journal_none_nil0.f at h
 exact (Option.some.inj h).symm
def journal_Journal_Snapshot_nil0.f (k : Nat) : Option (List Int) := (journal_Journal_none_nil0.f k).bind fun r1 => some ([] : List Int)
theorem journal_Journal_Snapshot_nil0.meets (k : Nat) (r : (List Int)) (h : journal_Journal_Snapshot_nil0.f k = some r) : Meets Try.prog 9 [(sc (.pointer none))] [] (D.one (C.own 0 0 r.length 1)) [(ow_ e_u8 r)] := by
 unfold journal_Journal_Snapshot_nil0.f at h
 refine Meets.of_body (n := 10) Try.func9 rfl rfl (nl rfl) fun x hx => ?_
 replace hx : x.k = 0 := hx
 show AW _ x _ _ ⟨10, fr0 [(sc (.pointer none))], []⟩
 refine AW.seq (AW.region ?_)
 refine s_assign (d := (sc (.slice none 0 0))) rfl (AWops.nil (AW.seq (AW.seq (AW.region ?_))))
 refine s_move (d := (sc (.pointer none))) rfl ?_
 obtain ⟨r1, er1, h⟩ := bnd h
 have kr1 := journal_Journal_none_nil0.const er1
 subst kr1
 refine cc [] [] (sb true) F.ca_30 rfl rfl (ac (.one .sc) an) an (journal_Journal_none_nil0.meets _  true er1) (AWops.nil ?_)
 refine AW.cond_yes rfl rfl (AW.seq (AW.region ?_))
 refine s_assign (d := (sc (.slice none 0 0))) rfl (AWops.nil (AW.ret ?_))
 obtain rfl := Option.some.inj h
 exact ⟨_, rfl, (Weak.trans (Weak.nil (sz := 1) (i := 0) rfl) (wg 0 [0] [] rfl (le_upd (le_top _) (o1 (CLe.ownN rfl (by simp)))) (ac (.cells (fun _ => rfl) an) an)))⟩
def bytes_Equal.f (k : Nat) (a0 : List Int) (a1 : List Int) : Option Bool := some ((ofNums a0).toList == (ofNums a1).toList)
theorem bytes_Equal.meets (k : Nat) (a0 : List Int) (a1 : List Int) (r : Bool) (h : bytes_Equal.f k a0 a1 = some r) : Meets Try.prog 17 [(ds_ e_u8 a0), (ds_ e_u8 a1)] [] (sb r) [] := by
 unfold bytes_Equal.f at h
 refine Meets.of_body (n := 10) Try.func17 rfl rfl (nl rfl) fun x hx => ?_
 replace hx : x.k = 0 := hx
 show AW _ x _ _ ⟨10, fr0 [(ds_ e_u8 a0), (ds_ e_u8 a1)], []⟩
 refine AW.seq (AW.region ?_)
 refine s_assign (d := (sb false)) rfl (AWops.nil (AW.seq (AW.region ?_)))
 refine s_move (d := (ds_ e_u8 a0)) rfl (t_toStr (xs := a0) F.u_22 F.u_5 F.u_9 .imm (s_move (d := (ds_ e_u8 a1)) rfl (t_toStr (xs := a1) F.u_22 F.u_5 F.u_9 .imm (s_binS (v := (.bool ((ofNums a0).toList == (ofNums a1).toList))) rfl rfl rfl (s_assign (d := (sb ((ofNums a0).toList == (ofNums a1).toList))) rfl (AWops.nil (AW.ret ?_)))))))
 obtain rfl := Option.some.inj h
 exact ⟨_, rfl, (wg 0 [] [] rfl (le_upd (le_top _) (o1 .sc)) an)⟩
def journal_Journal_Records_nil0.f (k : Nat) : Option (List (List Int)) := (journal_Journal_none_nil0.f k).bind fun r1 => some ([] : List (List Int))
theorem journal_Journal_Records_nil0.meets (k : Nat) (r : (List (List Int))) (h : journal_Journal_Records_nil0.f k = some r) : Meets Try.prog 10 [(sc (.pointer none))] [] (D.one (C.own 0 0 r.length 1)) [(some (AObj.cells true (rowC (e_sl e_u8) r)))] := by
 unfold journal_Journal_Records_nil0.f at h
 refine Meets.of_body (n := 24) Try.func10 rfl rfl (nl rfl) fun x hx => ?_
 replace hx : x.k = 0 := hx
 show AW _ x _ _ ⟨24, fr0 [(sc (.pointer none))], []⟩
 refine AW.seq (AW.region ?_)
 refine s_assign (d := (sc (.slice none 0 0))) rfl (AWops.nil (AW.seq (AW.seq (AW.region ?_))))
 refine s_move (d := (sc (.pointer none))) rfl ?_
 obtain ⟨r1, er1, h⟩ := bnd h
 have kr1 := journal_Journal_none_nil0.const er1
 subst kr1
 refine cc [] [] (sb true) F.ca_30 rfl rfl (ac (.one .sc) an) an (journal_Journal_none_nil0.meets _  true er1) (AWops.nil ?_)
 refine AW.cond_yes rfl rfl (AW.seq (AW.region ?_))
 refine s_assign (d := (sc (.slice none 0 0))) rfl (AWops.nil (AW.ret ?_))
 obtain rfl := Option.some.inj h
 exact ⟨_, rfl, (Weak.trans (Weak.nil (sz := 1) (i := 0) rfl) (wg 0 [0] [] rfl (le_upd (le_top _) (o1 (CLe.ownN rfl (by simp)))) (ac (.cells (fun _ => rfl) an) an)))⟩
mutual
def slices_EqualFunc_byte__byte__byte__byte.l0 : Nat → Int → (List (List Int)) → (List (List Int)) → Option Bool
 | 0, _, _, _ => none
 | k + 1, x2, a0, a1 => if (decide (x2 < (a0.length : Int))) = true then ((rd a0 x2).bind fun v4 => (rd a1 x2).bind fun v5 => (bytes_Equal.f k v4 v5).bind fun r6 => if r6 = true then (slices_EqualFunc_byte__byte__byte__byte.l0 k (IntKind.i64.wrap (x2 + 1)) a0 a1) else (some false)) else (some true)
end
def slices_EqualFunc_byte__byte__byte__byte.f (k : Nat) (a0 : List (List Int)) (a1 : List (List Int)) : Option Bool := if ((a0.length : Int) != (a1.length : Int)) = true then (some false) else (slices_EqualFunc_byte__byte__byte__byte.l0 k 0 a0 a1)
theorem slices_EqualFunc_byte__byte__byte__byte.meets (k : Nat) (a0 : List (List Int)) (a1 : List (List Int)) (r : Bool) (h : slices_EqualFunc_byte__byte__byte__byte.f k a0 a1 = some r) : Meets Try.prog 37 [(D.one (C.p false (.sl a0.length (a0.flatMap (e_sl e_u8))))), (D.one (C.p false (.sl a1.length (a1.flatMap (e_sl e_u8))))), (D.one (C.clo 17 []))] [] (sb r) [] := by
 unfold slices_EqualFunc_byte__byte__byte__byte.f at h
 refine Meets.of_body (n := 32) Try.func37 rfl rfl (nl rfl) fun x hx => ?_
 replace hx : x.k = 0 := hx
 show AW _ x _ _ ⟨32, fr0 [(D.one (C.p false (.sl a0.length (a0.flatMap (e_sl e_u8))))), (D.one (C.p false (.sl a1.length (a1.flatMap (e_sl e_u8))))), (D.one (C.clo 17 []))], []⟩
 refine AW.seq (AW.region ?_)
 refine s_assign (d := (sb false)) rfl (AWops.nil (AW.seq (AW.seq (AW.region ?_))))
 refine s_move (d := (D.one (C.p false (.sl a0.length (a0.flatMap (e_sl e_u8)))))) rfl (s_len (n := a0.length) F.u_25 rfl (.inr ⟨(fun _ _ h => by cases h), ⟨_, rfl⟩⟩) (s_move (d := (D.one (C.p false (.sl a1.length (a1.flatMap (e_sl e_u8)))))) rfl (s_len (n := a1.length) F.u_25 rfl (.inr ⟨(fun _ _ h => by cases h), ⟨_, rfl⟩⟩) (s_binI (v := (.bool ((a0.length : Int) != (a1.length : Int)))) rfl rfl rfl (AWops.nil ?_)))))
 rcases itH h with ⟨c1, h⟩ | ⟨c1, h⟩
 ·refine AW.cond_yes rfl c1 (AW.seq (AW.region ?_))
  refine s_assign (d := (sb false)) rfl (AWops.nil (AW.ret ?_))
  obtain rfl := Option.some.inj h
  exact ⟨_, rfl, (wg 0 [] [] rfl (le_upd (le_top _) (o1 .sc)) an)⟩
 ·refine AW.cond_no rfl c1 (AW.skip (AW.seq (AW.seq (AW.region ?_))))
  refine s_move (d := (D.one (C.p false (.sl a0.length (a0.flatMap (e_sl e_u8)))))) rfl (s_len (n := a0.length) F.u_25 rfl (.inr ⟨(fun _ _ h => by cases h), ⟨_, rfl⟩⟩) (s_move (d := (si 0)) rfl (AWops.nil (AW.block ?_))))
  refine AW.loopw (st0 := ⟨32, (upd 32 (upd 32 (upd 32 (upd 32 (upd 32 topF 1 (D.one (C.p false (.sl a1.length (a1.flatMap (e_sl e_u8)))))) 2 (D.one (C.clo 17 []))) 15 (D.one (C.p false (.sl a0.length (a0.flatMap (e_sl e_u8)))))) 16 (si (a0.length : Int))) 17 (si 0)), []⟩) (fun kv st => kv ≤ k ∧ ∃ (x2 : Int), slices_EqualFunc_byte__byte__byte__byte.l0 kv x2 a0 a1 = some r ∧ st = ⟨32, (upd 32 (upd 32 (upd 32 (upd 32 (upd 32 topF 1 (D.one (C.p false (.sl a1.length (a1.flatMap (e_sl e_u8)))))) 2 (D.one (C.clo 17 []))) 15 (D.one (C.p false (.sl a0.length (a0.flatMap (e_sl e_u8)))))) 16 (si (a0.length : Int))) 17 (si x2)), []⟩) (k := k) (wg 0 [] [] hx (le_upd (le_upd (le_upd (le_upd (le_upd (le_top _) (o1 .same)) (o1 (CLe.cloL an))) (o1 .same)) (o1 .sc)) (o1 .sc)) an) ⟨Nat.le_refl _, 0, h, rfl⟩ ?_
  rintro ql0 st ⟨hkl0, x2, h, rfl⟩
  cases ql0 with
  | zero => exact absurd h (by simp [slices_EqualFunc_byte__byte__byte__byte.l0])
  | succ ql0 =>
   replace h := (slices_EqualFunc_byte__byte__byte__byte.l0.eq_2 _ _ _ _).symm.trans h
   refine AW.seq (AW.region ?_)
   refine s_binI (v := (.bool (decide (x2 < (a0.length : Int))))) rfl rfl rfl (AWops.nil (AW.seq ?_))
   rcases itH h with ⟨c3, h⟩ | ⟨c3, h⟩
   ·refine AW.cond_yes rfl c3 (AW.skip (AW.seq (AW.block (AW.seq (AW.region ?_)))))
    refine s_move (d := (si x2)) rfl ?_
    obtain ⟨v4, ev4, h⟩ := bnd h
    obtain ⟨pv4, qv4, gv4⟩ := rd_some ev4
    refine s_indexImm (ps := [P.sl v4.length (v4.flatMap e_u8)]) F.u_25 F.sz_22 rfl rfl pv4 qv4 (flat_at (e_sl_len _) gv4 (e_sl_eq _ v4)) (s_load1 (c' := (cl_ e_u8 v4)) F.ag_22 rfl rfl (s_assign (d := (si x2)) rfl (s_assign (d := (ds_ e_u8 v4)) rfl (AWops.nil (AW.seq (AW.region (s_move (d := (D.one (C.p false (.sl a1.length (a1.flatMap (e_sl e_u8)))))) rfl (s_move (d := (si x2)) rfl ?_))))))))
    obtain ⟨v5, ev5, h⟩ := bnd h
    obtain ⟨pv5, qv5, gv5⟩ := rd_some ev5
    refine s_indexImm (ps := [P.sl v5.length (v5.flatMap e_u8)]) F.u_25 F.sz_22 rfl rfl pv5 qv5 (flat_at (e_sl_len _) gv5 (e_sl_eq _ v5)) (s_load1 (c' := (cl_ e_u8 v5)) F.ag_22 rfl rfl (s_assign (d := (ds_ e_u8 v5)) rfl (AWops.nil (AW.seq (AW.region (s_move (d := (D.one (C.clo 17 []))) rfl (s_move (d := (ds_ e_u8 v4)) rfl (s_move (d := (ds_ e_u8 v5)) rfl ?_))))))))
    obtain ⟨r6, er6, h⟩ := bnd h
    refine cc [] [] (sb r6) F.ca_17 rfl rfl (ac (.one .imm) (ac (.one .imm) an)) an (bytes_Equal.meets _ v4 v5 r6 er6) (s_not rfl (AWops.nil ?_))
    rcases itH h with ⟨c7, h⟩ | ⟨c7, h⟩
    ·refine AW.cond_no rfl (by rw [c7] <;> rfl) (AW.skip (AW.region ?_))
     refine s_binI (v := (.int .i64 (IntKind.i64.wrap (x2 + 1)))) rfl rfl rfl (s_move (d := (si (IntKind.i64.wrap (x2 + 1)))) rfl (AWops.nil ?_))
     exact ⟨_, ⟨32, (upd 32 (upd 32 (upd 32 (upd 32 (upd 32 topF 1 (D.one (C.p false (.sl a1.length (a1.flatMap (e_sl e_u8)))))) 2 (D.one (C.clo 17 []))) 15 (D.one (C.p false (.sl a0.length (a0.flatMap (e_sl e_u8)))))) 16 (si (a0.length : Int))) 17 (si (IntKind.i64.wrap (x2 + 1)))), []⟩, by omega, (wg 0 [] [] hx (le_upd (le_upd (le_upd (le_upd (le_upd (le_top _) (o1 .same)) (o1 (CLe.cloL an))) (o1 .same)) (o1 .sc)) (o1 .sc)) an), by omega, IntKind.i64.wrap (x2 + 1), h, rfl⟩
    ·refine AW.cond_yes rfl (by rw [c7] <;> rfl) (AW.seq (AW.region ?_))
     refine s_assign (d := (sb false)) rfl (AWops.nil (AW.ret ?_))
     obtain rfl := Option.some.inj h
     exact ⟨_, rfl, (wg 0 [] [] rfl (le_upd (le_top _) (o1 .sc)) an)⟩
   ·refine AW.cond_no rfl c3 (AW.exit (AW.seq (AW.region ?_)))
    refine s_assign (d := (sb true)) rfl (AWops.nil (AW.ret ?_))
    obtain rfl := Option.some.inj h
    exact ⟨_, rfl, (wg 0 [] [] rfl (le_upd (le_top _) (o1 .sc)) an)⟩
def dossierplain_SameTexts.f (k : Nat) (a0 : List (List Int)) (a1 : List (List Int)) : Option Bool := (slices_EqualFunc_byte__byte__byte__byte.f k a0 a1).bind fun r1 => some r1
theorem dossierplain_SameTexts.meets (k : Nat) (a0 : List (List Int)) (a1 : List (List Int)) (r : Bool) (h : dossierplain_SameTexts.f k a0 a1 = some r) : Meets Try.prog 18 [(D.one (C.p false (.sl a0.length (a0.flatMap (e_sl e_u8))))), (D.one (C.p false (.sl a1.length (a1.flatMap (e_sl e_u8)))))] [] (sb r) [] := by
 unfold dossierplain_SameTexts.f at h
 refine Meets.of_body (n := 8) Try.func18 rfl rfl (nl rfl) fun x hx => ?_
 replace hx : x.k = 0 := hx
 show AW _ x _ _ ⟨8, fr0 [(D.one (C.p false (.sl a0.length (a0.flatMap (e_sl e_u8))))), (D.one (C.p false (.sl a1.length (a1.flatMap (e_sl e_u8)))))], []⟩
 refine AW.seq (AW.region ?_)
 refine s_assign (d := (sb false)) rfl (AWops.nil (AW.seq (AW.region ?_)))
 refine s_move (d := (D.one (C.p false (.sl a0.length (a0.flatMap (e_sl e_u8)))))) rfl (s_move (d := (D.one (C.p false (.sl a1.length (a1.flatMap (e_sl e_u8)))))) rfl ?_)
 obtain ⟨r1, er1, h⟩ := bnd h
 refine cc [] [] (sb r1) F.ca_37 rfl rfl (ac (.one .imm) (ac (.one .imm) (ac (.one (LendC.cloL an)) an))) an (slices_EqualFunc_byte__byte__byte__byte.meets _ a0 a1 r1 er1) (s_assign (d := (sb r1)) rfl (AWops.nil (AW.ret ?_)))
 obtain rfl := Option.some.inj h
 exact ⟨_, rfl, (wg 0 [] [] rfl (le_upd (le_top _) (o1 .sc)) an)⟩
def dossierlaw04_awake.f (k : Nat) : Option Bool := (vdisk_New.f k 100).bind fun r1 => if (r1.2 != 0) = true then (some false) else ((journal_Open_fresh.f k r1.1 ([115] : List Int)).bind fun r3 => if (r3.2.1 == 0) = true then ((journal_Journal_Append_fresh_7.f k (⟨(), r3.1.snap, r3.1.l, r3.1.stopped⟩ : journal_Journal) ([97] : List Int) r3.2.2).bind fun r5 => if (r5.1 == 0) = true then ((journal_Journal_Records_fresh.f k (⟨(), r5.2.1.snap, r5.2.1.l, r5.2.1.stopped⟩ : journal_Journal) r5.2.2).bind fun r7 => if ((r7.1.length : Int) == 1) = true then ((journal_Journal_Snapshot_fresh.f k (⟨(), r7.2.snap, r7.2.l, r7.2.stopped⟩ : journal_Journal) r5.2.2).bind fun r9 => some ((ofNums r9.1).toList == (⟨#[115]⟩ : ByteArray).toList)) else (some false)) else (some false)) else (some false))
theorem dossierlaw04_awake.meets (k : Nat) (r : Bool) (h : dossierlaw04_awake.f k = some r) : Meets Try.prog 13 [] [] (sb r) [] := by
 unfold dossierlaw04_awake.f at h
 refine Meets.of_body (n := 42) Try.func13 rfl rfl (nl rfl) fun x hx => ?_
 replace hx : x.k = 0 := hx
 show AW _ x _ _ ⟨42, fr0 [], []⟩
 refine AW.seq (AW.region ?_)
 refine s_assign (d := (sb false)) rfl (AWops.nil (AW.seq (AW.region ?_)))
 obtain ⟨r1, er1, h⟩ := bnd h
 refine cc [] [(o_vdisk_Disk_03 true (C.mp 1) np r1.1), (om_ e_vdisk_file r1.1.files)] (D.tup [(rf 0 0), (si r1.2)]) F.ca_14 rfl rfl (ac (.one .sc) an) an (vdisk_New.meets _ 100 r1 er1) (s_move (d := (D.tup [(rf 0 0), (si r1.2)])) rfl (s_extract (d := (rf 0 0)) rfl rfl (s_extract (d := (si r1.2)) rfl rfl (s_assign (d := (rf 0 0)) rfl (s_assign (d := (si r1.2)) rfl (AWops.nil (AW.seq (AW.seq (AW.region ?_)))))))))
 refine s_move (d := (si r1.2)) rfl (s_binI (v := (.bool (r1.2 != 0))) rfl rfl rfl (s_move (d := (sb (r1.2 != 0))) rfl ?_))
 rcases itH h with ⟨c2, h⟩ | ⟨c2, h⟩
 ·refine AWops.guard_no rfl (nl rfl) rfl c2 ?_
  refine AWops.guard_no rfl (nl rfl) rfl c2 ?_
  refine s_pick_yes (d := (sb true)) rfl c2 rfl (AWops.nil ?_)
  refine AW.cond_yes rfl rfl (AW.seq (AW.region ?_))
  refine s_assign (d := (sb false)) rfl (AWops.nil (AW.ret ?_))
  obtain rfl := Option.some.inj h
  exact ⟨_, rfl, (wg 0 [] [] rfl (le_upd (le_top _) (o1 .sc)) an)⟩
 ·refine AWops.guard_yes rfl (nl rfl) rfl c2 ?_
  refine s_move (d := (rf 0 0)) rfl ?_
  refine AWops.guard_yes rfl (nl rfl) rfl c2 ?_
  refine s_ptrNil (b := false) F.u_24 rfl (.inl ⟨⟨_, _, rfl⟩, rfl⟩) (.inl rfl) (s_pick_no (d := (sb false)) rfl c2 rfl (AWops.nil ?_))
  refine AW.cond_no rfl rfl (AW.skip (AW.seq (AW.region ?_)))
  refine s_move (d := (rf 0 0)) rfl (s_buildSlice (n := 1) (ps := [(0, (sc (.int .u8 115)))]) (cs := rowC e_u8 ([115] : List Int)) F.u_22 F.sz_5 F.z_5 rfl rfl (by decide) (by decide) rfl rfl (t_convConst (xs := ([115] : List Int)) F.u_22 F.u_5 rfl rfl rfl (by decide) rfl ?_))
  obtain ⟨r3, er3, h⟩ := bnd h
  refine cc [0, 1] [(o_vdisk_Disk_03 true (C.mp 1) np r3.2.2), (om_ e_vdisk_file r3.2.2.files), none, (o_journal_Journal_02 true (C.ref 0 0) (C.own 4 0 r3.1.l.length 1) r3.1), (some (AObj.cells false (rowC (e_sl e_u8) r3.1.l)))] (D.tup [(rf 3 0), (si r3.2.1)]) F.ca_12 rfl rfl (ac (.one (.ref rfl)) (ac (.one .imm) an)) (ac (.cells (ac (.mp rfl) (ac .sc (ac .sc (ac .sc (ac .sc an)))))) (ac .map an)) (journal_Open_fresh.meets _ r1.1 ([115] : List Int) r3 er3) (s_move (d := (D.tup [(rf 3 0), (si r3.2.1)])) rfl (s_extract (d := (rf 3 0)) rfl rfl (s_extract (d := (si r3.2.1)) rfl rfl (s_assign (d := (rf 3 0)) rfl (s_assign (d := (si r3.2.1)) rfl (AWops.nil (AW.seq (AW.region ?_))))))))
  refine s_move (d := (si r3.2.1)) rfl (s_binI (v := (.bool (r3.2.1 == 0))) rfl rfl rfl (s_move (d := (sb (r3.2.1 == 0))) rfl ?_))
  rcases itH h with ⟨c4, h⟩ | ⟨c4, h⟩
  ·refine AWops.guard_yes rfl (nl rfl) rfl c4 ?_
   refine s_move (d := (rf 3 0)) rfl ?_
   refine AWops.guard_yes rfl (nl rfl) rfl c4 ?_
   refine s_buildSlice (n := 1) (ps := [(0, (sc (.int .u8 97)))]) (cs := rowC e_u8 ([97] : List Int)) F.u_22 F.sz_5 F.z_5 rfl rfl (by decide) (by decide) rfl rfl ?_
   refine AWops.guard_yes rfl (nl rfl) rfl c4 ?_
   refine t_convConst (xs := ([97] : List Int)) F.u_22 F.u_5 rfl rfl rfl (by decide) rfl ?_
   refine AWops.guard_yes rfl (nl rfl) rfl c4 ?_
   obtain ⟨r5, er5, h⟩ := bnd h
   refine cc [3, 0, 1, 4] [(o_vdisk_Disk_03 true (C.mp 1) np r5.2.2), (om_ e_vdisk_file r5.2.2.files), none, (o_journal_Journal_02 true (C.ref 0 0) (C.own 6 0 r5.2.1.l.length 1) r5.2.1), none, none, (some (AObj.cells false (rowC (e_sl e_u8) r5.2.1.l)))] (si r5.1) F.ca_7 rfl rfl (ac (.one (.ref rfl)) (ac (.one .imm) an)) (ac (.cells (ac (.ref rfl) (ac .imm (ac (.own rfl) (ac .sc an))))) (ac (.cells (ac (.mp rfl) (ac .sc (ac .sc (ac .sc (ac .sc an)))))) (ac .map (ac (.cells (lend_row _)) an)))) (journal_Journal_Append_fresh_7.meets _ (⟨(), r3.1.snap, r3.1.l, r3.1.stopped⟩ : journal_Journal) ([97] : List Int) r3.2.2 r5 er5) ?_
   refine AWops.guard_yes rfl (nl rfl) rfl c4 ?_
   refine s_binI (v := (.bool (r5.1 == 0))) rfl rfl rfl (s_pick_yes (d := (sb (r5.1 == 0))) rfl c4 rfl (s_move (d := (sb (r5.1 == 0))) rfl ?_))
   rcases itH h with ⟨c6, h⟩ | ⟨c6, h⟩
   ·refine AWops.guard_yes rfl (nl rfl) rfl c6 ?_
    refine s_move (d := (rf 3 0)) rfl ?_
    refine AWops.guard_yes rfl (nl rfl) rfl c6 ?_
    obtain ⟨r7, er7, h⟩ := bnd h
    refine cc [3, 0, 6, 1] [(o_vdisk_Disk_03 true (C.mp 1) np r5.2.2), (om_ e_vdisk_file r5.2.2.files), none, (o_journal_Journal_02 true (C.ref 0 0) (C.own 6 0 r7.2.l.length 1) r7.2), none, none, (some (AObj.cells false (rowC (e_sl e_u8) r7.2.l))), (some (AObj.cells true (rowC (e_sl e_u8) r7.1)))] (D.one (C.own 7 0 r7.1.length 1)) F.ca_10 rfl rfl (ac (.one (.ref rfl)) an) (ac (.cells (ac (.ref rfl) (ac .imm (ac (.own rfl) (ac .sc an))))) (ac (.cells (ac (.mp rfl) (ac .sc (ac .sc (ac .sc (ac .sc an)))))) (ac (.cells (lend_row _)) (ac .map an)))) (journal_Journal_Records_fresh.meets _ (⟨(), r5.2.1.snap, r5.2.1.l, r5.2.1.stopped⟩ : journal_Journal) r5.2.2 r7 er7) ?_
    refine AWops.guard_yes rfl (nl rfl) rfl c6 ?_
    refine s_len (n := r7.1.length) F.u_25 rfl (.inr ⟨(fun _ _ h => by cases h), ⟨_, rfl⟩⟩) ?_
    refine AWops.guard_yes rfl (nl rfl) rfl c6 ?_
    refine s_binI (v := (.bool ((r7.1.length : Int) == 1))) rfl rfl rfl (s_pick_yes (d := (sb ((r7.1.length : Int) == 1))) rfl c6 rfl (s_move (d := (sb ((r7.1.length : Int) == 1))) rfl ?_))
    rcases itH h with ⟨c8, h⟩ | ⟨c8, h⟩
    ·refine AWops.guard_yes rfl (nl rfl) rfl c8 ?_
     refine s_move (d := (rf 3 0)) rfl ?_
     refine AWops.guard_yes rfl (nl rfl) rfl c8 ?_
     obtain ⟨r9, er9, h⟩ := bnd h
     refine cc [3, 0, 6, 1] [(o_vdisk_Disk_03 true (C.mp 1) np r5.2.2), (om_ e_vdisk_file r5.2.2.files), none, (o_journal_Journal_02 true (C.ref 0 0) (C.own 6 0 r9.2.l.length 1) r9.2), none, none, (some (AObj.cells false (rowC (e_sl e_u8) r9.2.l))), (some (AObj.cells true (rowC (e_sl e_u8) r7.1))), (ow_ e_u8 r9.1)] (D.one (C.own 8 0 r9.1.length 1)) F.ca_9 rfl rfl (ac (.one (.ref rfl)) an) (ac (.cells (ac (.ref rfl) (ac .imm (ac (.own rfl) (ac .sc an))))) (ac (.cells (ac (.mp rfl) (ac .sc (ac .sc (ac .sc (ac .sc an)))))) (ac (.cells (lend_row _)) (ac .map an)))) (journal_Journal_Snapshot_fresh.meets _ (⟨(), r7.2.snap, r7.2.l, r7.2.stopped⟩ : journal_Journal) r5.2.2 r9 er9) ?_
     refine AWops.guard_yes rfl (nl rfl) rfl c8 ?_
     refine t_toStr (xs := r9.1) F.u_22 F.u_5 F.u_9 (.own rfl rfl) ?_
     refine AWops.guard_yes rfl (nl rfl) rfl c8 ?_
     refine s_binS (v := (.bool ((ofNums r9.1).toList == (⟨#[115]⟩ : ByteArray).toList))) rfl rfl rfl (s_pick_yes (d := (sb ((ofNums r9.1).toList == (⟨#[115]⟩ : ByteArray).toList))) rfl c8 rfl (s_assign (d := (sb ((ofNums r9.1).toList == (⟨#[115]⟩ : ByteArray).toList))) rfl (AWops.nil (AW.ret ?_))))
     obtain rfl := Option.some.inj h
     exact ⟨_, rfl, (wg 0 [] [] rfl (le_upd (le_top _) (o1 .sc)) an)⟩
    ·iterate 4 refine AWops.guard_no rfl (nl rfl) rfl c8 ?_
     refine s_pick_no (d := (sb false)) rfl c8 rfl (s_assign (d := (sb false)) rfl (AWops.nil (AW.ret ?_)))
     obtain rfl := Option.some.inj h
     exact ⟨_, rfl, (wg 0 [] [] rfl (le_upd (le_top _) (o1 .sc)) an)⟩
   ·iterate 4 refine AWops.guard_no rfl (nl rfl) rfl c6 ?_
    refine s_pick_no (d := (sb false)) rfl c6 rfl (s_move (d := (sb false)) rfl ?_)
    iterate 4 refine AWops.guard_no rfl (nl rfl) rfl rfl ?_
    refine s_pick_no (d := (sb false)) rfl rfl rfl (s_assign (d := (sb false)) rfl (AWops.nil (AW.ret ?_)))
    obtain rfl := Option.some.inj h
    exact ⟨_, rfl, (wg 0 [] [] rfl (le_upd (le_top _) (o1 .sc)) an)⟩
  ·iterate 5 refine AWops.guard_no rfl (nl rfl) rfl c4 ?_
   refine s_pick_no (d := (sb false)) rfl c4 rfl (s_move (d := (sb false)) rfl ?_)
   iterate 4 refine AWops.guard_no rfl (nl rfl) rfl rfl ?_
   refine s_pick_no (d := (sb false)) rfl rfl rfl (s_move (d := (sb false)) rfl ?_)
   iterate 4 refine AWops.guard_no rfl (nl rfl) rfl rfl ?_
   refine s_pick_no (d := (sb false)) rfl rfl rfl (s_assign (d := (sb false)) rfl (AWops.nil (AW.ret ?_)))
   obtain rfl := Option.some.inj h
   exact ⟨_, rfl, (wg 0 [] [] rfl (le_upd (le_top _) (o1 .sc)) an)⟩
def journal_Journal_none.f (k : Nat) (p0 : journal_Journal) (p1 : vdisk_Disk) : Option (Bool × journal_Journal) := some (false, (⟨(), p0.snap, p0.l, p0.stopped⟩ : journal_Journal))
theorem journal_Journal_none.meets (k : Nat) (p0 : journal_Journal) (p1 : vdisk_Disk) (r : Bool × journal_Journal) (h : journal_Journal_none.f k p0 p1 = some r) : Meets Try.prog 30 [(rf 0 0)] [(o_journal_Journal_0 false (C.ref 1 0) p0), (o_vdisk_Disk_03 false (C.mp 2) np p1), (om_ e_vdisk_file p1.files)] (sb r.1) [(o_journal_Journal_0 false (C.ref 1 0) r.2), (o_vdisk_Disk_03 false (C.mp 2) np p1), (om_ e_vdisk_file p1.files)] := by
 unfold journal_Journal_none.f at h
 refine Meets.of_body (n := 12) Try.func30 rfl rfl (nl rfl) fun x hx => ?_
 replace hx : x.k = 3 := hx
 show AW _ x _ _ ⟨12, fr0 [(rf 0 0)], [(o_journal_Journal_0 false (C.ref 1 0) p0), (o_vdisk_Disk_03 false (C.mp 2) np p1), (om_ e_vdisk_file p1.files)]⟩
 refine AW.seq (AW.region ?_)
 refine s_assign (d := (sb false)) rfl (AWops.nil (AW.seq (AW.region ?_)))
 refine s_move (d := (rf 0 0)) rfl (s_ptrNil (b := false) F.u_23 rfl (.inl ⟨⟨_, _, rfl⟩, rfl⟩) (.inl rfl) (s_move (d := (sb false)) rfl ?_))
 refine AWops.guard_yes rfl (nl rfl) rfl rfl ?_
 refine s_move (d := (rf 0 0)) rfl ?_
 refine AWops.guard_yes rfl (nl rfl) rfl rfl ?_
 refine s_nilCheck (d := (rf 0 0)) rfl (.inl ⟨_, _, rfl⟩) ?_
 refine AWops.guard_yes rfl (nl rfl) rfl rfl ?_
 refine s_fieldRef F.fo_27_0 (by decide) rfl ?_
 refine AWops.guard_yes rfl (nl rfl) rfl rfl ?_
 refine s_load1 (c' := (C.ref 1 0)) F.ag_24 rfl rfl ?_
 refine AWops.guard_yes rfl (nl rfl) rfl rfl ?_
 refine s_ptrNil (b := false) F.u_24 rfl (.inl ⟨⟨_, _, rfl⟩, rfl⟩) (.inl rfl) (s_pick_no (d := (sb false)) rfl rfl rfl (s_assign (d := (sb false)) rfl (AWops.nil (AW.ret ?_))))
 obtain rfl := Option.some.inj h
 exact ⟨_, rfl, (wg 3 [0, 1, 2] [] rfl (le_upd (le_top _) (o1 .sc)) (ac (.cells id (ac (.ref rfl) (ac .same (ac .same (ac .sc an))))) (ac (qs rfl) (ac .map an))))⟩
def journal_Journal_Snapshot.f (k : Nat) (p0 : journal_Journal) (p1 : vdisk_Disk) : Option ((List Int) × journal_Journal) := (journal_Journal_none.f k (⟨(), p0.snap, p0.l, p0.stopped⟩ : journal_Journal) p1).bind fun r1 => if r1.1 = true then (some (([] : List Int), (⟨(), r1.2.snap, r1.2.l, r1.2.stopped⟩ : journal_Journal))) else ((slices_Clone_byte_byte.f k r1.2.snap).bind fun r3 => some (r3, (⟨(), r1.2.snap, r1.2.l, r1.2.stopped⟩ : journal_Journal)))
theorem journal_Journal_Snapshot.meets (k : Nat) (p0 : journal_Journal) (p1 : vdisk_Disk) (r : (List Int) × journal_Journal) (h : journal_Journal_Snapshot.f k p0 p1 = some r) : Meets Try.prog 9 [(rf 0 0)] [(o_journal_Journal_0 false (C.ref 1 0) p0), (o_vdisk_Disk_03 false (C.mp 2) np p1), (om_ e_vdisk_file p1.files)] (D.one (C.own 3 0 r.1.length 1)) [(o_journal_Journal_0 false (C.ref 1 0) r.2), (o_vdisk_Disk_03 false (C.mp 2) np p1), (om_ e_vdisk_file p1.files), (ow_ e_u8 r.1)] := by
 unfold journal_Journal_Snapshot.f at h
 refine Meets.of_body (n := 10) Try.func9 rfl rfl (nl rfl) fun x hx => ?_
 replace hx : x.k = 3 := hx
 show AW _ x _ _ ⟨10, fr0 [(rf 0 0)], [(o_journal_Journal_0 false (C.ref 1 0) p0), (o_vdisk_Disk_03 false (C.mp 2) np p1), (om_ e_vdisk_file p1.files)]⟩
 refine AW.seq (AW.region ?_)
 refine s_assign (d := (sc (.slice none 0 0))) rfl (AWops.nil (AW.seq (AW.seq (AW.region ?_))))
 refine s_move (d := (rf 0 0)) rfl ?_
 obtain ⟨r1, er1, h⟩ := bnd h
 refine cc [0, 1, 2] [(o_journal_Journal_0 false (C.ref 1 0) r1.2), (o_vdisk_Disk_03 false (C.mp 2) np p1), (om_ e_vdisk_file p1.files)] (sb r1.1) F.ca_30 rfl rfl (ac (.one (.ref rfl)) an) (ac (.cells (ac (.ref rfl) (ac .imm (ac .imm (ac .sc an))))) (ac (.cells (ac (.mp rfl) (ac .sc (ac .sc (ac .sc (ac .sc an)))))) (ac .map an))) (journal_Journal_none.meets _ (⟨(), p0.snap, p0.l, p0.stopped⟩ : journal_Journal) p1 r1 er1) (AWops.nil ?_)
 rcases itH h with ⟨c2, h⟩ | ⟨c2, h⟩
 ·refine AW.cond_yes rfl c2 (AW.seq (AW.region ?_))
  refine s_assign (d := (sc (.slice none 0 0))) rfl (AWops.nil (AW.ret ?_))
  obtain rfl := Option.some.inj h
  exact ⟨_, rfl, (Weak.trans (Weak.nil (sz := 1) (i := 0) rfl) (wg 3 [0, 1, 2, 3] [] rfl (le_upd (le_top _) (o1 (CLe.ownN rfl (by simp)))) (ac (.cells id (ac (.ref rfl) (ac .same (ac .same (ac .sc an))))) (ac (qs rfl) (ac .map (ac (.cells (fun _ => rfl) an) an))))))⟩
 ·refine AW.cond_no rfl c2 (AW.skip (AW.seq (AW.region ?_)))
  refine s_move (d := (rf 0 0)) rfl (s_nilCheck (d := (rf 0 0)) rfl (.inl ⟨_, _, rfl⟩) (s_fieldRef F.fo_27_1 (by decide) rfl (s_load1 (c' := (cl_ e_u8 r1.2.snap)) F.ag_22 rfl rfl ?_)))
  obtain ⟨r3, er3, h⟩ := bnd h
  refine cc [] [(o_journal_Journal_0 false (C.ref 1 0) r1.2), (o_vdisk_Disk_03 false (C.mp 2) np p1), (om_ e_vdisk_file p1.files), (ow_ e_u8 r3)] (D.one (C.own 3 0 r3.length 1)) F.ca_28 rfl rfl (ac (.one .imm) an) an (slices_Clone_byte_byte.meets _ r1.2.snap r3 er3) (s_assign (d := (D.one (C.own 3 0 r3.length 1))) rfl (AWops.nil (AW.ret ?_)))
  obtain rfl := Option.some.inj h
  exact ⟨_, rfl, (wg 3 [0, 1, 2, 3] [] rfl (le_upd (le_top _) (o1 (.own rfl))) (ac (.cells id (ac (.ref rfl) (ac .same (ac .same (ac .sc an))))) (ac (qs rfl) (ac .map (ac (.cells (fun _ => rfl) (all2_row _)) an)))))⟩
mutual
def journal_Journal_Records.l0 : Nat → (List (List Int)) → Int → (Bool × journal_Journal) → Option ((List (List Int)) × journal_Journal)
 | 0, _, _, _ => none
 | k + 1, x3, x4, r1 => if (decide (x4 < (r1.2.l.length : Int))) = true then ((rd r1.2.l x4).bind fun v6 => (slices_Clone_byte_byte.f k v6).bind fun r7 => if (decide (x3.length + ([r7] : List (List Int)).length ≤ 5864062014805)) = true then (journal_Journal_Records.l0 k (x3 ++ ([r7] : List (List Int))) (IntKind.i64.wrap (x4 + 1)) r1) else none) else (some (x3, (⟨(), r1.2.snap, r1.2.l, r1.2.stopped⟩ : journal_Journal)))
end
def journal_Journal_Records.f (k : Nat) (p0 : journal_Journal) (p1 : vdisk_Disk) : Option ((List (List Int)) × journal_Journal) := (journal_Journal_none.f k (⟨(), p0.snap, p0.l, p0.stopped⟩ : journal_Journal) p1).bind fun r1 => if r1.1 = true then (some (([] : List (List Int)), (⟨(), r1.2.snap, r1.2.l, r1.2.stopped⟩ : journal_Journal))) else (journal_Journal_Records.l0 k ([] : List (List Int)) 0 r1)
theorem journal_Journal_Records.meets (k : Nat) (p0 : journal_Journal) (p1 : vdisk_Disk) (r : (List (List Int)) × journal_Journal) (h : journal_Journal_Records.f k p0 p1 = some r) : Meets Try.prog 10 [(rf 0 0)] [(o_journal_Journal_0 false (C.ref 1 0) p0), (o_vdisk_Disk_03 false (C.mp 2) np p1), (om_ e_vdisk_file p1.files)] (D.one (C.own 3 0 r.1.length 1)) [(o_journal_Journal_0 false (C.ref 1 0) r.2), (o_vdisk_Disk_03 false (C.mp 2) np p1), (om_ e_vdisk_file p1.files), (some (AObj.cells true (rowC (e_sl e_u8) r.1)))] := by
 unfold journal_Journal_Records.f at h
 refine Meets.of_body (n := 24) Try.func10 rfl rfl (nl rfl) fun x hx => ?_
 replace hx : x.k = 3 := hx
 show AW _ x _ _ ⟨24, fr0 [(rf 0 0)], [(o_journal_Journal_0 false (C.ref 1 0) p0), (o_vdisk_Disk_03 false (C.mp 2) np p1), (om_ e_vdisk_file p1.files)]⟩
 refine AW.seq (AW.region ?_)
 refine s_assign (d := (sc (.slice none 0 0))) rfl (AWops.nil (AW.seq (AW.seq (AW.region ?_))))
 refine s_move (d := (rf 0 0)) rfl ?_
 obtain ⟨r1, er1, h⟩ := bnd h
 refine cc [0, 1, 2] [(o_journal_Journal_0 false (C.ref 1 0) r1.2), (o_vdisk_Disk_03 false (C.mp 2) np p1), (om_ e_vdisk_file p1.files)] (sb r1.1) F.ca_30 rfl rfl (ac (.one (.ref rfl)) an) (ac (.cells (ac (.ref rfl) (ac .imm (ac .imm (ac .sc an))))) (ac (.cells (ac (.mp rfl) (ac .sc (ac .sc (ac .sc (ac .sc an)))))) (ac .map an))) (journal_Journal_none.meets _ (⟨(), p0.snap, p0.l, p0.stopped⟩ : journal_Journal) p1 r1 er1) (AWops.nil ?_)
 rcases itH h with ⟨c2, h⟩ | ⟨c2, h⟩
 ·refine AW.cond_yes rfl c2 (AW.seq (AW.region ?_))
  refine s_assign (d := (sc (.slice none 0 0))) rfl (AWops.nil (AW.ret ?_))
  obtain rfl := Option.some.inj h
  exact ⟨_, rfl, (Weak.trans (Weak.nil (sz := 1) (i := 0) rfl) (wg 3 [0, 1, 2, 3] [] rfl (le_upd (le_top _) (o1 (CLe.ownN rfl (by simp)))) (ac (.cells id (ac (.ref rfl) (ac .same (ac .same (ac .sc an))))) (ac (qs rfl) (ac .map (ac (.cells (fun _ => rfl) an) an))))))⟩
 ·refine AW.cond_no rfl c2 (AW.skip (AW.seq (AW.region ?_)))
  refine s_assign (d := (sc (.slice none 0 0))) rfl (AWops.nil (AW.seq (AW.seq (AW.region ?_))))
  refine s_move (d := (rf 0 0)) rfl (s_nilCheck (d := (rf 0 0)) rfl (.inl ⟨_, _, rfl⟩) (s_fieldRef F.fo_27_2 (by decide) rfl (s_load1 (c' := (C.p false (.sl r1.2.l.length (r1.2.l.flatMap (e_sl e_u8))))) F.ag_25 rfl rfl (s_len (n := r1.2.l.length) F.u_25 rfl (.inr ⟨(fun _ _ h => by cases h), ⟨_, rfl⟩⟩) (s_move (d := (si 0)) rfl (AWops.nil (AW.block ?_)))))))
  refine AW.loopw (st0 := ⟨24, (upd 24 (upd 24 (upd 24 (upd 24 topF 3 (D.one (C.own 3 0 ([] : List (List Int)).length 1))) 11 (D.one (C.p false (.sl r1.2.l.length (r1.2.l.flatMap (e_sl e_u8)))))) 12 (si (r1.2.l.length : Int))) 13 (si 0)), [(o_journal_Journal_0 false (C.ref 1 0) r1.2), (o_vdisk_Disk_03 false (C.mp 2) np p1), (om_ e_vdisk_file p1.files), (some (AObj.cells true (rowC (e_sl e_u8) ([] : List (List Int)))))]⟩) (fun kv st => kv ≤ k ∧ ∃ (x3 : List (List Int)) (x4 : Int), journal_Journal_Records.l0 kv x3 x4 r1 = some r ∧ st = ⟨24, (upd 24 (upd 24 (upd 24 (upd 24 topF 3 (D.one (C.own 3 0 x3.length 1))) 11 (D.one (C.p false (.sl r1.2.l.length (r1.2.l.flatMap (e_sl e_u8)))))) 12 (si (r1.2.l.length : Int))) 13 (si x4)), [(o_journal_Journal_0 false (C.ref 1 0) r1.2), (o_vdisk_Disk_03 false (C.mp 2) np p1), (om_ e_vdisk_file p1.files), (some (AObj.cells true (rowC (e_sl e_u8) x3)))]⟩) (k := k) (Weak.trans (Weak.nil (sz := 1) (i := 3) rfl) (wg 3 [0, 1, 2, 3] [] hx (le_upd (le_upd (le_upd (le_upd (le_top _) (o1 (.own rfl))) (o1 .same)) (o1 .sc)) (o1 .sc)) (ac (.cells id (ac (.ref rfl) (ac .same (ac .same (ac .sc an))))) (ac (qs rfl) (ac .map (ac (.cells (fun _ => rfl) an) an)))))) ⟨Nat.le_refl _, ([] : List (List Int)), 0, h, rfl⟩ ?_
  rintro ql0 st ⟨hkl0, x3, x4, h, rfl⟩
  cases ql0 with
  | zero => exact absurd h (by simp [journal_Journal_Records.l0])
  | succ ql0 =>
   replace h := (journal_Journal_Records.l0.eq_2 _ _ _ _).symm.trans h
   refine AW.seq (AW.region ?_)
   refine s_binI (v := (.bool (decide (x4 < (r1.2.l.length : Int))))) rfl rfl rfl (AWops.nil (AW.seq ?_))
   rcases itH h with ⟨c5, h⟩ | ⟨c5, h⟩
   ·refine AW.cond_yes rfl c5 (AW.skip (AW.seq (AW.block (AW.seq (AW.region ?_)))))
    obtain ⟨v6, ev6, h⟩ := bnd h
    obtain ⟨pv6, qv6, gv6⟩ := rd_some ev6
    refine s_indexImm (ps := [P.sl v6.length (v6.flatMap e_u8)]) F.u_25 F.sz_22 rfl rfl pv6 qv6 (flat_at (e_sl_len _) gv6 (e_sl_eq _ v6)) (s_load1 (c' := (cl_ e_u8 v6)) F.ag_22 rfl rfl (s_assign (d := (ds_ e_u8 v6)) rfl (AWops.nil (AW.region (s_move (d := (D.one (C.own 3 0 x3.length 1))) rfl (s_move (d := (ds_ e_u8 v6)) rfl ?_))))))
    obtain ⟨r7, er7, h⟩ := bnd h
    refine cc [] [(o_journal_Journal_0 false (C.ref 1 0) r1.2), (o_vdisk_Disk_03 false (C.mp 2) np p1), (om_ e_vdisk_file p1.files), (some (AObj.cells true (rowC (e_sl e_u8) x3))), (ow_ e_u8 r7)] (D.one (C.own 4 0 r7.length 1)) F.ca_28 rfl rfl (ac (.one .imm) an) an (slices_Clone_byte_byte.meets _ v6 r7 er7) ?_
    refine AWops.weak (st' := ⟨24, (upd 24 (upd 24 (upd 24 (upd 24 (upd 24 (upd 24 (upd 24 (upd 24 (upd 24 (upd 24 (upd 24 topF 3 (D.one (C.own 3 0 x3.length 1))) 5 (ds_ e_u8 v6)) 11 (D.one (C.p false (.sl r1.2.l.length (r1.2.l.flatMap (e_sl e_u8)))))) 12 (si (r1.2.l.length : Int))) 13 (si x4)) 14 (sb (decide (x4 < (r1.2.l.length : Int))))) 15 (D.one (C.peek false [P.sl v6.length (v6.flatMap e_u8)]))) 16 (ds_ e_u8 v6)) 17 (D.one (C.own 3 0 x3.length 1))) 18 (ds_ e_u8 v6)) 19 (ds_ e_u8 r7)), [(o_journal_Journal_0 false (C.ref 1 0) r1.2), (o_vdisk_Disk_03 false (C.mp 2) np p1), (om_ e_vdisk_file p1.files), (some (AObj.cells true (rowC (e_sl e_u8) x3)))]⟩) (wg 3 [0, 1, 2, 3] [4] hx (le_upd (le_upd (le_upd (le_upd (le_upd (le_upd (le_upd (le_upd (le_upd (le_upd (le_upd (le_top _) (o1 (.own rfl))) (o1 .same)) (o1 .same)) (o1 .sc)) (o1 .sc)) (o1 .sc)) (o1 .peek)) (o1 .same)) (o1 (.own rfl))) (o1 .same)) (o1 (CLe.frz e_u8_len rfl rfl rfl))) (ac (.cells id (ac (.ref rfl) (ac .same (ac .same (ac .sc an))))) (ac (qs rfl) (ac .map (ac (.cells (fun _ => rfl) (all2_row _)) an))))) ?_
    refine s_buildSlice (n := 1) (ps := [(0, (ds_ e_u8 r7))]) (cs := rowC (e_sl e_u8) ([r7] : List (List Int))) F.u_25 F.sz_22 F.z_22 rfl rfl (by decide) (by decide) rfl rfl ?_
    obtain ⟨c8, h⟩ := gdH h
    have dc8 := of_decide_eq_true c8
    refine t_append (xs := x3) (ys := ([r7] : List (List Int))) (zs := x3 ++ ([r7] : List (List Int))) (H' := [(o_journal_Journal_0 false (C.ref 1 0) r1.2), (o_vdisk_Disk_03 false (C.mp 2) np p1), (om_ e_vdisk_file p1.files), none, (some (AObj.cells true (rowC (e_sl e_u8) ([r7] : List (List Int))))), (some (AObj.cells true (rowC (e_sl e_u8) (x3 ++ ([r7] : List (List Int))))))]) F.u_25 F.in_22 rfl (e_sl_len _) (.own rfl rfl) (.own rfl rfl) F.u_25 (by omega) (by omega) rfl rfl (s_assign (d := (D.one (C.own 5 0 ((x3 ++ ([r7] : List (List Int))).length) 1))) rfl (AWops.nil (AW.region (s_binI (v := (.int .i64 (IntKind.i64.wrap (x4 + 1)))) rfl rfl rfl (s_move (d := (si (IntKind.i64.wrap (x4 + 1)))) rfl (AWops.nil ?_))))))
    exact ⟨_, ⟨24, (upd 24 (upd 24 (upd 24 (upd 24 topF 3 (D.one (C.own 3 0 (x3 ++ ([r7] : List (List Int))).length 1))) 11 (D.one (C.p false (.sl r1.2.l.length (r1.2.l.flatMap (e_sl e_u8)))))) 12 (si (r1.2.l.length : Int))) 13 (si (IntKind.i64.wrap (x4 + 1)))), [(o_journal_Journal_0 false (C.ref 1 0) r1.2), (o_vdisk_Disk_03 false (C.mp 2) np p1), (om_ e_vdisk_file p1.files), (some (AObj.cells true (rowC (e_sl e_u8) (x3 ++ ([r7] : List (List Int))))))]⟩, by omega, (wg 3 [0, 1, 2, 5] [] hx (le_upd (le_upd (le_upd (le_upd (le_top _) (o1 (.own rfl))) (o1 .same)) (o1 .sc)) (o1 .sc)) (ac (.cells id (ac (.ref rfl) (ac .same (ac .same (ac .sc an))))) (ac (qs rfl) (ac .map (ac (.cells (fun _ => rfl) (all2_row _)) an))))), by omega, x3 ++ ([r7] : List (List Int)), IntKind.i64.wrap (x4 + 1), h, rfl⟩
   ·refine AW.cond_no rfl c5 (AW.exit (AW.seq (AW.region ?_)))
    refine s_move (d := (D.one (C.own 3 0 x3.length 1))) rfl (s_assign (d := (D.one (C.own 3 0 x3.length 1))) rfl (AWops.nil (AW.ret ?_)))
    obtain rfl := Option.some.inj h
    exact ⟨_, rfl, (wg 3 [0, 1, 2, 3] [] rfl (le_upd (le_top _) (o1 (.own rfl))) (ac (.cells id (ac (.ref rfl) (ac .same (ac .same (ac .sc an))))) (ac (qs rfl) (ac .map (ac (.cells (fun _ => rfl) (all2_row _)) an)))))⟩
end Go.Abs.GenK
