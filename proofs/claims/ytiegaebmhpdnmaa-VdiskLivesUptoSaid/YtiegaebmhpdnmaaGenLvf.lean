import Derived.Test.YtiegaebmhpdnmaaGenLve
set_option linter.unusedVariables false
set_option linter.unusedSimpArgs false
set_option maxRecDepth 100000
set_option maxHeartbeats 4000000
namespace Go.Abs.GenLv
open Go.Abs Go.Proofs
def vdisk_Disk_Truncate_19.f (k : Nat) (p0 : vdisk_Disk) (a1 : ByteArray) (a2 : Int) (p2 : Int) : Option (Int × vdisk_Disk × Int) := (vdisk_Disk_change_31.f k p0 (decide (a2 ≥ 0)) a1 false 0 p2).bind fun r1 => if (r1.1 == 0) = true then (if (decide (0 ≤ (if (((lk_vdisk_file a1 r1.2.1.files).b).length : Int) < a2 then (((lk_vdisk_file a1 r1.2.1.files).b).length : Int) else a2) ∧ (if (((lk_vdisk_file a1 r1.2.1.files).b).length : Int) < a2 then (((lk_vdisk_file a1 r1.2.1.files).b).length : Int) else a2) ≤ (((lk_vdisk_file a1 r1.2.1.files).b).length : Int))) = true then ((vdisk_Disk_set_33.f k r1.2.1 a1 (⟨sub ((lk_vdisk_file a1 r1.2.1.files).b) 0 (if (((lk_vdisk_file a1 r1.2.1.files).b).length : Int) < a2 then (((lk_vdisk_file a1 r1.2.1.files).b).length : Int) else a2), (if ((lk_vdisk_file a1 r1.2.1.files).sure) < (if (((lk_vdisk_file a1 r1.2.1.files).b).length : Int) < a2 then (((lk_vdisk_file a1 r1.2.1.files).b).length : Int) else a2) then ((lk_vdisk_file a1 r1.2.1.files).sure) else (if (((lk_vdisk_file a1 r1.2.1.files).b).length : Int) < a2 then (((lk_vdisk_file a1 r1.2.1.files).b).length : Int) else a2))⟩ : vdisk_file) r1.2.2).bind fun r4 => some (r1.1, r4, r1.2.2)) else none) else (some (r1.1, r1.2.1, r1.2.2))
theorem vdisk_Disk_Truncate_19.meets (k : Nat) (p0 : vdisk_Disk) (a1 : ByteArray) (a2 : Int) (p2 : Int) (r : Int × vdisk_Disk × Int) (h : vdisk_Disk_Truncate_19.f k p0 a1 a2 p2 = some r) : Meets Try.prog 19 [(rf 0 0), (st_ a1), (si a2)] [(o_vdisk_Disk_03 false (C.mp 1) (C.ref 2 0) p0), (om_ e_vdisk_file p0.files), (some (AObj.cells false [(ci p2)]))] (si r.1) [(o_vdisk_Disk_03 false (C.mp 1) (C.ref 2 0) r.2.1), (om_ e_vdisk_file r.2.1.files), (some (AObj.cells false [(ci r.2.2)]))] := by
 unfold vdisk_Disk_Truncate_19.f at h
 refine Meets.of_body (n := 41) Try.func19 rfl rfl (nl rfl) fun x hx => ?_
 replace hx : x.k = 3 := hx
 show AW _ x _ _ ⟨41, fr0 [(rf 0 0), (st_ a1), (si a2)], [(o_vdisk_Disk_03 false (C.mp 1) (C.ref 2 0) p0), (om_ e_vdisk_file p0.files), (some (AObj.cells false [(ci p2)]))]⟩
 refine AW.seq (AW.region ?_)
 refine s_assign (d := (si 0)) rfl (AWops.nil (AW.seq (AW.region ?_)))
 refine s_move (d := (rf 0 0)) rfl ?_
 refine s_move (d := (si a2)) rfl ?_
 refine s_binI (v := (.bool (decide (a2 ≥ 0)))) rfl rfl rfl ?_
 refine s_move (d := (st_ a1)) rfl ?_
 obtain ⟨r1, er1, h⟩ := bnd h
 refine s_call2 (ρ := [0, 1, 2]) (br := false) (H2 := [(o_vdisk_Disk_03 false (C.mp 1) (C.ref 2 0) r1.2.1), (om_ e_vdisk_file r1.2.1.files), (some (AObj.cells false [(ci r1.2.2)]))]) (d := (si r1.1)) F.ca_31 rfl rfl (ac (.one (.ref rfl)) (ac (.one .sc) (ac (.one .sc) (ac (.one .sc) (ac (.one .sc) an))))) (ac (.cells (ac (.mp rfl) (ac .sc (ac .sc (ac (.ref rfl) (ac .sc an)))))) (ac .map (ac (.cells (ac .sc an)) an))) (by decide) rfl (vdisk_Disk_change_31.meets _ p0 (decide (a2 ≥ 0)) a1 false 0 p2 r1 er1) (.inl rfl) rfl rfl ?_
 refine s_assign (d := (si r1.1)) rfl (AWops.nil (AW.seq (AW.seq (AW.region ?_))))
 refine s_move (d := (si r1.1)) rfl ?_
 refine s_binI (v := (.bool (r1.1 == 0))) rfl rfl rfl (AWops.nil ?_)
 rcases itH h with ⟨c2, h⟩ | ⟨c2, h⟩
 ·refine AW.cond_yes rfl c2 (AW.seq (AW.region ?_))
  refine s_move (d := (rf 0 0)) rfl ?_
  refine s_nilCheck (d := (rf 0 0)) rfl (.inl ⟨_, _, rfl⟩) ?_
  refine s_fieldRef F.fo_50_0 (by decide) rfl ?_
  refine s_load1 (c' := (C.mp 1)) F.ag_47 rfl rfl ?_
  refine s_move (d := (st_ a1)) rfl ?_
  refine t_lookup (b := true) F.u_47 F.u_9 F.z_65 (z := ((⟨([] : List Int), 0⟩ : vdisk_file) : vdisk_file)) (zs := [(.slice none 0 0), (.int .i64 0)]) rfl (fun h => by cases h) (ac ZRel.n (ac (ZRel.v _ rfl) an)) rfl rfl rfl rfl ?_
  refine s_alloc (cs := [(C.p true (.v (.slice none 0 0))), (ci 0)]) F.z_65 rfl rfl ?_
  refine s_store (cs' := (c_vdisk_file (lk_vdisk_file a1 r1.2.1.files))) rfl rfl rfl (List.cons_ne_nil _ _) rfl F.sz_65 (nl rfl) rfl (AWops.nil (AW.seq (AW.region ?_)))
  refine s_move (d := (si a2)) rfl ?_
  refine s_fieldRef F.fo_65_0 (by decide) rfl ?_
  refine s_load1 (c' := (C.p false (.sl ((lk_vdisk_file a1 r1.2.1.files).b).length (((lk_vdisk_file a1 r1.2.1.files).b).flatMap e_u8)))) F.ag_22 rfl rfl ?_
  refine s_len (n := ((lk_vdisk_file a1 r1.2.1.files).b).length) F.u_22 rfl (.inr ⟨(fun _ _ h => by cases h), ⟨_, rfl⟩⟩) ?_
  refine s_min2 (r := (if (((lk_vdisk_file a1 r1.2.1.files).b).length : Int) < a2 then (((lk_vdisk_file a1 r1.2.1.files).b).length : Int) else a2)) rfl rfl rfl ?_
  refine s_assign (d := (si (if (((lk_vdisk_file a1 r1.2.1.files).b).length : Int) < a2 then (((lk_vdisk_file a1 r1.2.1.files).b).length : Int) else a2))) rfl (AWops.nil ?_)
  refine AW.weak (st' := ⟨41, (upd 41 (upd 41 (upd 41 (upd 41 (upd 41 topF 0 (rf 0 0)) 1 (st_ a1)) 2 (si (if (((lk_vdisk_file a1 r1.2.1.files).b).length : Int) < a2 then (((lk_vdisk_file a1 r1.2.1.files).b).length : Int) else a2))) 7 (si r1.1)) 8 (rf 3 0)), [(o_vdisk_Disk_03 false (C.mp 1) (C.ref 2 0) r1.2.1), (om_ e_vdisk_file r1.2.1.files), (some (AObj.cells false [(ci r1.2.2)])), (some (AObj.cells true (c_vdisk_file (lk_vdisk_file a1 r1.2.1.files))))]⟩) (wg 3 [0, 1, 2, 3] [] hx (le_upd (le_upd (le_upd (le_upd (le_upd (le_top _) (.t (.one (.ref rfl)))) (.t (.one .sc))) (.t (.one .sc))) (.t (.one .sc))) (.t (.one (.ref rfl)))) (ac (.cells id (ac (.mp rfl) (ac .sc (ac .sc (ac (.ref rfl) (ac .sc an)))))) (ac .map (ac (.cells id (ac .sc an)) (ac (.cells (fun _ => rfl) (ac .same (ac .sc an))) an))))) ?_
  obtain ⟨c3, h⟩ := gdH h
  have dc3 := of_decide_eq_true c3
  obtain ⟨r4, er4, h⟩ := bnd h
  refine AW.draw (n := 41) (L := 5) [(ft 0 27 (rf 0 0) [(0, (rf 0 0))]), (ft 1 28 (st_ a1) [(1, (st_ a1))]), (ft 2 29 (rf 3 0) [(8, (rf 3 0))]), (3, ⟨some 30, (D.one (C.p false (.sl ((lk_vdisk_file a1 r1.2.1.files).b).length (((lk_vdisk_file a1 r1.2.1.files).b).flatMap e_u8)))), [(29, (rf 3 0))], [(3, (some (AObj.cells true (c_vdisk_file (lk_vdisk_file a1 r1.2.1.files)))))], [], none⟩), (ft 4 31 (si (if (((lk_vdisk_file a1 r1.2.1.files).b).length : Int) < a2 then (((lk_vdisk_file a1 r1.2.1.files).b).length : Int) else a2)) [(2, (si (if (((lk_vdisk_file a1 r1.2.1.files).b).length : Int) < a2 then (((lk_vdisk_file a1 r1.2.1.files).b).length : Int) else a2)))]), (ft 5 32 (si (if (((lk_vdisk_file a1 r1.2.1.files).b).length : Int) < a2 then (((lk_vdisk_file a1 r1.2.1.files).b).length : Int) else a2)) [(2, (si (if (((lk_vdisk_file a1 r1.2.1.files).b).length : Int) < a2 then (((lk_vdisk_file a1 r1.2.1.files).b).length : Int) else a2)))]), (ft 6 33 (D.one (C.p false (.sl (sub ((lk_vdisk_file a1 r1.2.1.files).b) 0 (if (((lk_vdisk_file a1 r1.2.1.files).b).length : Int) < a2 then (((lk_vdisk_file a1 r1.2.1.files).b).length : Int) else a2)).length ((sub ((lk_vdisk_file a1 r1.2.1.files).b) 0 (if (((lk_vdisk_file a1 r1.2.1.files).b).length : Int) < a2 then (((lk_vdisk_file a1 r1.2.1.files).b).length : Int) else a2)).flatMap e_u8)))) [(30, (D.one (C.p false (.sl ((lk_vdisk_file a1 r1.2.1.files).b).length (((lk_vdisk_file a1 r1.2.1.files).b).flatMap e_u8))))), (31, (si (if (((lk_vdisk_file a1 r1.2.1.files).b).length : Int) < a2 then (((lk_vdisk_file a1 r1.2.1.files).b).length : Int) else a2))), (32, (si (if (((lk_vdisk_file a1 r1.2.1.files).b).length : Int) < a2 then (((lk_vdisk_file a1 r1.2.1.files).b).length : Int) else a2)))]), (ft 7 34 (si (if (((lk_vdisk_file a1 r1.2.1.files).b).length : Int) < a2 then (((lk_vdisk_file a1 r1.2.1.files).b).length : Int) else a2)) [(2, (si (if (((lk_vdisk_file a1 r1.2.1.files).b).length : Int) < a2 then (((lk_vdisk_file a1 r1.2.1.files).b).length : Int) else a2)))]), (ft 8 35 (rf 3 1) [(8, (rf 3 0))]), (9, ⟨some 36, (si ((lk_vdisk_file a1 r1.2.1.files).sure)), [(35, (rf 3 1))], [(3, (some (AObj.cells true (c_vdisk_file (lk_vdisk_file a1 r1.2.1.files)))))], [], none⟩), (ft 10 37 (si (if ((lk_vdisk_file a1 r1.2.1.files).sure) < (if (((lk_vdisk_file a1 r1.2.1.files).b).length : Int) < a2 then (((lk_vdisk_file a1 r1.2.1.files).b).length : Int) else a2) then ((lk_vdisk_file a1 r1.2.1.files).sure) else (if (((lk_vdisk_file a1 r1.2.1.files).b).length : Int) < a2 then (((lk_vdisk_file a1 r1.2.1.files).b).length : Int) else a2))) [(34, (si (if (((lk_vdisk_file a1 r1.2.1.files).b).length : Int) < a2 then (((lk_vdisk_file a1 r1.2.1.files).b).length : Int) else a2))), (36, (si ((lk_vdisk_file a1 r1.2.1.files).sure)))]), (ft 11 38 (D.agg [(C.p false (.sl (sub ((lk_vdisk_file a1 r1.2.1.files).b) 0 (if (((lk_vdisk_file a1 r1.2.1.files).b).length : Int) < a2 then (((lk_vdisk_file a1 r1.2.1.files).b).length : Int) else a2)).length ((sub ((lk_vdisk_file a1 r1.2.1.files).b) 0 (if (((lk_vdisk_file a1 r1.2.1.files).b).length : Int) < a2 then (((lk_vdisk_file a1 r1.2.1.files).b).length : Int) else a2)).flatMap e_u8))), (ci (if ((lk_vdisk_file a1 r1.2.1.files).sure) < (if (((lk_vdisk_file a1 r1.2.1.files).b).length : Int) < a2 then (((lk_vdisk_file a1 r1.2.1.files).b).length : Int) else a2) then ((lk_vdisk_file a1 r1.2.1.files).sure) else (if (((lk_vdisk_file a1 r1.2.1.files).b).length : Int) < a2 then (((lk_vdisk_file a1 r1.2.1.files).b).length : Int) else a2)))]) [(33, (D.one (C.p false (.sl (sub ((lk_vdisk_file a1 r1.2.1.files).b) 0 (if (((lk_vdisk_file a1 r1.2.1.files).b).length : Int) < a2 then (((lk_vdisk_file a1 r1.2.1.files).b).length : Int) else a2)).length ((sub ((lk_vdisk_file a1 r1.2.1.files).b) 0 (if (((lk_vdisk_file a1 r1.2.1.files).b).length : Int) < a2 then (((lk_vdisk_file a1 r1.2.1.files).b).length : Int) else a2)).flatMap e_u8))))), (37, (si (if ((lk_vdisk_file a1 r1.2.1.files).sure) < (if (((lk_vdisk_file a1 r1.2.1.files).b).length : Int) < a2 then (((lk_vdisk_file a1 r1.2.1.files).b).length : Int) else a2) then ((lk_vdisk_file a1 r1.2.1.files).sure) else (if (((lk_vdisk_file a1 r1.2.1.files).b).length : Int) < a2 then (((lk_vdisk_file a1 r1.2.1.files).b).length : Int) else a2))))]), (12, ⟨some 39, (D.tup []), [(27, (rf 0 0)), (28, (st_ a1)), (38, (D.agg [(C.p false (.sl (sub ((lk_vdisk_file a1 r1.2.1.files).b) 0 (if (((lk_vdisk_file a1 r1.2.1.files).b).length : Int) < a2 then (((lk_vdisk_file a1 r1.2.1.files).b).length : Int) else a2)).length ((sub ((lk_vdisk_file a1 r1.2.1.files).b) 0 (if (((lk_vdisk_file a1 r1.2.1.files).b).length : Int) < a2 then (((lk_vdisk_file a1 r1.2.1.files).b).length : Int) else a2)).flatMap e_u8))), (ci (if ((lk_vdisk_file a1 r1.2.1.files).sure) < (if (((lk_vdisk_file a1 r1.2.1.files).b).length : Int) < a2 then (((lk_vdisk_file a1 r1.2.1.files).b).length : Int) else a2) then ((lk_vdisk_file a1 r1.2.1.files).sure) else (if (((lk_vdisk_file a1 r1.2.1.files).b).length : Int) < a2 then (((lk_vdisk_file a1 r1.2.1.files).b).length : Int) else a2)))]))], [(0, (o_vdisk_Disk_03 false (C.mp 1) (C.ref 2 0) r1.2.1)), (1, (om_ e_vdisk_file r1.2.1.files)), (2, (some (AObj.cells false [(ci r1.2.2)])))], [(0, (o_vdisk_Disk_03 false (C.mp 1) (C.ref 2 0) r4)), (1, (om_ e_vdisk_file r4.files))], none⟩)] [[], [], [], [2], [], [], [2, 3, 4, 5], [], [], [8], [7, 8, 9], [2, 3, 4, 5, 6, 7, 8, 9, 10], (.range 12)] (nl rfl) [0, 0, 0, 1, 0, 0, 2, 0, 0, 1, 2, 3, 4] rfl (TK := []) rfl AllK.nil' (by repeat (first | refine fC ⟨?_, ?_⟩ ?_ | refine sC rfl ?_ | refine hC rfl ?_ | trivial)) ?_ ?_
  ·refine (pC ?_ (pC ?_ (pC ?_ (pC ?_ (pC ?_ (pC ?_ (pC ?_ (pC ?_ (pC ?_ (pC ?_ (pC ?_ (pC ?_ (pC ?_ AllStep.nil')))))))))))))
   ·intro K rest fr hv htk k
    show AWops _ x _ _ K ⟨41, (upd 41 fr 0 (rf 0 0)), _⟩
    refine s_move (d := (rf 0 0)) rfl k
   ·intro K rest fr hv htk k
    show AWops _ x _ _ K ⟨41, (upd 41 fr 1 (st_ a1)), _⟩
    refine s_move (d := (st_ a1)) rfl k
   ·intro K rest fr hv htk k
    show AWops _ x _ _ K ⟨41, (upd 41 fr 8 (rf 3 0)), [(hv 0), (hv 1), (hv 2), (hv 3), (hv 4)]⟩
    refine s_fieldRef F.fo_65_0 (by decide) rfl k
   ·intro K rest fr hv htk k
    show AWops _ x _ _ K ⟨41, (upd 41 fr 29 (rf 3 0)), [(hv 0), (hv 1), (hv 2), (some (AObj.cells true (c_vdisk_file (lk_vdisk_file a1 r1.2.1.files)))), (hv 4)]⟩
    refine s_load1 (c' := (C.p false (.sl ((lk_vdisk_file a1 r1.2.1.files).b).length (((lk_vdisk_file a1 r1.2.1.files).b).flatMap e_u8)))) F.ag_22 rfl rfl k
   ·intro K rest fr hv htk k
    show AWops _ x _ _ K ⟨41, (upd 41 fr 2 (si (if (((lk_vdisk_file a1 r1.2.1.files).b).length : Int) < a2 then (((lk_vdisk_file a1 r1.2.1.files).b).length : Int) else a2))), _⟩
    refine s_move (d := (si (if (((lk_vdisk_file a1 r1.2.1.files).b).length : Int) < a2 then (((lk_vdisk_file a1 r1.2.1.files).b).length : Int) else a2))) rfl k
   ·intro K rest fr hv htk k
    show AWops _ x _ _ K ⟨41, (upd 41 fr 2 (si (if (((lk_vdisk_file a1 r1.2.1.files).b).length : Int) < a2 then (((lk_vdisk_file a1 r1.2.1.files).b).length : Int) else a2))), _⟩
    refine s_move (d := (si (if (((lk_vdisk_file a1 r1.2.1.files).b).length : Int) < a2 then (((lk_vdisk_file a1 r1.2.1.files).b).length : Int) else a2))) rfl k
   ·intro K rest fr hv htk k
    show AWops _ x _ _ K ⟨41, (upd 41 (upd 41 (upd 41 fr 32 (si (if (((lk_vdisk_file a1 r1.2.1.files).b).length : Int) < a2 then (((lk_vdisk_file a1 r1.2.1.files).b).length : Int) else a2))) 31 (si (if (((lk_vdisk_file a1 r1.2.1.files).b).length : Int) < a2 then (((lk_vdisk_file a1 r1.2.1.files).b).length : Int) else a2))) 30 (D.one (C.p false (.sl ((lk_vdisk_file a1 r1.2.1.files).b).length (((lk_vdisk_file a1 r1.2.1.files).b).flatMap e_u8))))), [(hv 0), (hv 1), (hv 2), (hv 3), (hv 4)]⟩
    refine t_slice3Imm F.u_22 F.sz_5 e_u8_len rfl rfl rfl (by omega) (by omega) k
   ·intro K rest fr hv htk k
    show AWops _ x _ _ K ⟨41, (upd 41 fr 2 (si (if (((lk_vdisk_file a1 r1.2.1.files).b).length : Int) < a2 then (((lk_vdisk_file a1 r1.2.1.files).b).length : Int) else a2))), _⟩
    refine s_move (d := (si (if (((lk_vdisk_file a1 r1.2.1.files).b).length : Int) < a2 then (((lk_vdisk_file a1 r1.2.1.files).b).length : Int) else a2))) rfl k
   ·intro K rest fr hv htk k
    show AWops _ x _ _ K ⟨41, (upd 41 fr 8 (rf 3 0)), [(hv 0), (hv 1), (hv 2), (hv 3), (hv 4)]⟩
    refine s_fieldRef F.fo_65_1 (by decide) rfl k
   ·intro K rest fr hv htk k
    show AWops _ x _ _ K ⟨41, (upd 41 fr 35 (rf 3 1)), [(hv 0), (hv 1), (hv 2), (some (AObj.cells true (c_vdisk_file (lk_vdisk_file a1 r1.2.1.files)))), (hv 4)]⟩
    refine s_load1 (c' := (ci ((lk_vdisk_file a1 r1.2.1.files).sure))) F.ag_3 rfl rfl k
   ·intro K rest fr hv htk k
    show AWops _ x _ _ K ⟨41, (upd 41 (upd 41 fr 36 (si ((lk_vdisk_file a1 r1.2.1.files).sure))) 34 (si (if (((lk_vdisk_file a1 r1.2.1.files).b).length : Int) < a2 then (((lk_vdisk_file a1 r1.2.1.files).b).length : Int) else a2))), [(hv 0), (hv 1), (hv 2), (hv 3), (hv 4)]⟩
    refine s_min2 (r := (if ((lk_vdisk_file a1 r1.2.1.files).sure) < (if (((lk_vdisk_file a1 r1.2.1.files).b).length : Int) < a2 then (((lk_vdisk_file a1 r1.2.1.files).b).length : Int) else a2) then ((lk_vdisk_file a1 r1.2.1.files).sure) else (if (((lk_vdisk_file a1 r1.2.1.files).b).length : Int) < a2 then (((lk_vdisk_file a1 r1.2.1.files).b).length : Int) else a2))) rfl rfl rfl k
   ·intro K rest fr hv htk k
    show AWops _ x _ _ K ⟨41, (upd 41 (upd 41 fr 37 (si (if ((lk_vdisk_file a1 r1.2.1.files).sure) < (if (((lk_vdisk_file a1 r1.2.1.files).b).length : Int) < a2 then (((lk_vdisk_file a1 r1.2.1.files).b).length : Int) else a2) then ((lk_vdisk_file a1 r1.2.1.files).sure) else (if (((lk_vdisk_file a1 r1.2.1.files).b).length : Int) < a2 then (((lk_vdisk_file a1 r1.2.1.files).b).length : Int) else a2)))) 33 (D.one (C.p false (.sl (sub ((lk_vdisk_file a1 r1.2.1.files).b) 0 (if (((lk_vdisk_file a1 r1.2.1.files).b).length : Int) < a2 then (((lk_vdisk_file a1 r1.2.1.files).b).length : Int) else a2)).length ((sub ((lk_vdisk_file a1 r1.2.1.files).b) 0 (if (((lk_vdisk_file a1 r1.2.1.files).b).length : Int) < a2 then (((lk_vdisk_file a1 r1.2.1.files).b).length : Int) else a2)).flatMap e_u8))))), [(hv 0), (hv 1), (hv 2), (hv 3), (hv 4)]⟩
    refine s_build (ps := [(0, (D.one (C.p false (.sl (sub ((lk_vdisk_file a1 r1.2.1.files).b) 0 (if (((lk_vdisk_file a1 r1.2.1.files).b).length : Int) < a2 then (((lk_vdisk_file a1 r1.2.1.files).b).length : Int) else a2)).length ((sub ((lk_vdisk_file a1 r1.2.1.files).b) 0 (if (((lk_vdisk_file a1 r1.2.1.files).b).length : Int) < a2 then (((lk_vdisk_file a1 r1.2.1.files).b).length : Int) else a2)).flatMap e_u8))))), (1, (si (if ((lk_vdisk_file a1 r1.2.1.files).sure) < (if (((lk_vdisk_file a1 r1.2.1.files).b).length : Int) < a2 then (((lk_vdisk_file a1 r1.2.1.files).b).length : Int) else a2) then ((lk_vdisk_file a1 r1.2.1.files).sure) else (if (((lk_vdisk_file a1 r1.2.1.files).b).length : Int) < a2 then (((lk_vdisk_file a1 r1.2.1.files).b).length : Int) else a2))))]) (cs := [(C.p false (.sl (sub ((lk_vdisk_file a1 r1.2.1.files).b) 0 (if (((lk_vdisk_file a1 r1.2.1.files).b).length : Int) < a2 then (((lk_vdisk_file a1 r1.2.1.files).b).length : Int) else a2)).length ((sub ((lk_vdisk_file a1 r1.2.1.files).b) 0 (if (((lk_vdisk_file a1 r1.2.1.files).b).length : Int) < a2 then (((lk_vdisk_file a1 r1.2.1.files).b).length : Int) else a2)).flatMap e_u8))), (ci (if ((lk_vdisk_file a1 r1.2.1.files).sure) < (if (((lk_vdisk_file a1 r1.2.1.files).b).length : Int) < a2 then (((lk_vdisk_file a1 r1.2.1.files).b).length : Int) else a2) then ((lk_vdisk_file a1 r1.2.1.files).sure) else (if (((lk_vdisk_file a1 r1.2.1.files).b).length : Int) < a2 then (((lk_vdisk_file a1 r1.2.1.files).b).length : Int) else a2)))]) F.z_65 rfl F.so_65 rfl rfl k
   ·intro K rest fr hv htk k
    show AWops _ x _ _ K ⟨41, (upd 41 (upd 41 (upd 41 fr 38 (D.agg [(C.p false (.sl (sub ((lk_vdisk_file a1 r1.2.1.files).b) 0 (if (((lk_vdisk_file a1 r1.2.1.files).b).length : Int) < a2 then (((lk_vdisk_file a1 r1.2.1.files).b).length : Int) else a2)).length ((sub ((lk_vdisk_file a1 r1.2.1.files).b) 0 (if (((lk_vdisk_file a1 r1.2.1.files).b).length : Int) < a2 then (((lk_vdisk_file a1 r1.2.1.files).b).length : Int) else a2)).flatMap e_u8))), (ci (if ((lk_vdisk_file a1 r1.2.1.files).sure) < (if (((lk_vdisk_file a1 r1.2.1.files).b).length : Int) < a2 then (((lk_vdisk_file a1 r1.2.1.files).b).length : Int) else a2) then ((lk_vdisk_file a1 r1.2.1.files).sure) else (if (((lk_vdisk_file a1 r1.2.1.files).b).length : Int) < a2 then (((lk_vdisk_file a1 r1.2.1.files).b).length : Int) else a2)))])) 28 (st_ a1)) 27 (rf 0 0)), [(o_vdisk_Disk_03 false (C.mp 1) (C.ref 2 0) r1.2.1), (om_ e_vdisk_file r1.2.1.files), (some (AObj.cells false [(ci r1.2.2)])), (hv 3), (hv 4)]⟩
    refine s_call2 (ρ := [0, 1, 2]) (br := false) (H2 := [(o_vdisk_Disk_03 false (C.mp 1) (C.ref 2 0) r4), (om_ e_vdisk_file r4.files), (some (AObj.cells false [(ci r1.2.2)])), (hv 3), (hv 4)]) (d := (D.tup [])) F.ca_33 rfl rfl (ac (.one (.ref rfl)) (ac (.one .sc) (ac (LendT.aggL (ac .imm (ac .sc an))) an))) (ac (.cells (ac (.mp rfl) (ac .sc (ac .sc (ac (.ref rfl) (ac .sc an)))))) (ac .map (ac (.cells (ac .sc an)) an))) (by decide) rfl (vdisk_Disk_set_33.meets _ r1.2.1 a1 (⟨sub ((lk_vdisk_file a1 r1.2.1.files).b) 0 (if (((lk_vdisk_file a1 r1.2.1.files).b).length : Int) < a2 then (((lk_vdisk_file a1 r1.2.1.files).b).length : Int) else a2), (if ((lk_vdisk_file a1 r1.2.1.files).sure) < (if (((lk_vdisk_file a1 r1.2.1.files).b).length : Int) < a2 then (((lk_vdisk_file a1 r1.2.1.files).b).length : Int) else a2) then ((lk_vdisk_file a1 r1.2.1.files).sure) else (if (((lk_vdisk_file a1 r1.2.1.files).b).length : Int) < a2 then (((lk_vdisk_file a1 r1.2.1.files).b).length : Int) else a2))⟩ : vdisk_file) r1.2.2 r4 er4) (.inl rfl) rfl rfl k
  ·refine AWops.weak (st' := ⟨41, (upd 41 topF 7 (si r1.1)), [(o_vdisk_Disk_03 false (C.mp 1) (C.ref 2 0) r4), (om_ e_vdisk_file r4.files), (some (AObj.cells false [(ci r1.2.2)]))]⟩) (wg 3 [0, 1, 2] [] hx (le_upd (le_top _) (.t (.one .sc))) (ac (.cells id (ac (.mp rfl) (ac .sc (ac .sc (ac (.ref rfl) (ac .sc an)))))) (ac .map (ac (.cells id (ac .sc an)) an)))) (AWops.nil (AW.seq (AW.region ?_)))
   refine s_move (d := (si r1.1)) rfl ?_
   refine s_assign (d := (si r1.1)) rfl (AWops.nil (AW.ret ?_))
   obtain rfl := Option.some.inj h
   exact ⟨_, rfl, (wg 3 [0, 1, 2] [] rfl (le_upd (le_top _) (.t (.one .sc))) (ac (.cells id (ac (.mp rfl) (ac .sc (ac .sc (ac (.ref rfl) (ac .sc an)))))) (ac .map (ac (.cells id (ac .sc an)) an))))⟩
 ·refine AW.cond_no rfl c2 (AW.skip (AW.seq (AW.region ?_)))
  refine s_move (d := (si r1.1)) rfl ?_
  refine s_assign (d := (si r1.1)) rfl (AWops.nil (AW.ret ?_))
  obtain rfl := Option.some.inj h
  exact ⟨_, rfl, (wg 3 [0, 1, 2] [] rfl (le_upd (le_top _) (.t (.one .sc))) (ac (.cells id (ac (.mp rfl) (ac .sc (ac .sc (ac (.ref rfl) (ac .sc an)))))) (ac .map (ac (.cells id (ac .sc an)) an))))⟩
def vdisk_Disk_Remove_20.f (k : Nat) (p0 : vdisk_Disk) (a1 : ByteArray) (p2 : Int) : Option (Int × vdisk_Disk × Int) := (vdisk_Disk_change_31.f k p0 true a1 false 0 p2).bind fun r1 => if (r1.1 == 0) = true then ((vdisk_Disk_cut_46.f k r1.2.1 a1 r1.2.2).bind fun r3 => some (r1.1, r3, r1.2.2)) else (some (r1.1, r1.2.1, r1.2.2))
theorem vdisk_Disk_Remove_20.meets (k : Nat) (p0 : vdisk_Disk) (a1 : ByteArray) (p2 : Int) (r : Int × vdisk_Disk × Int) (h : vdisk_Disk_Remove_20.f k p0 a1 p2 = some r) : Meets Try.prog 20 [(rf 0 0), (st_ a1)] [(o_vdisk_Disk_03 false (C.mp 1) (C.ref 2 0) p0), (om_ e_vdisk_file p0.files), (some (AObj.cells false [(ci p2)]))] (si r.1) [(o_vdisk_Disk_03 false (C.mp 1) (C.ref 2 0) r.2.1), (om_ e_vdisk_file r.2.1.files), (some (AObj.cells false [(ci r.2.2)]))] := by
 unfold vdisk_Disk_Remove_20.f at h
 refine Meets.of_body (n := 15) Try.func20 rfl rfl (nl rfl) fun x hx => ?_
 replace hx : x.k = 3 := hx
 show AW _ x _ _ ⟨15, fr0 [(rf 0 0), (st_ a1)], [(o_vdisk_Disk_03 false (C.mp 1) (C.ref 2 0) p0), (om_ e_vdisk_file p0.files), (some (AObj.cells false [(ci p2)]))]⟩
 refine AW.seq (AW.region ?_)
 refine s_assign (d := (si 0)) rfl (AWops.nil (AW.seq (AW.region ?_)))
 refine s_move (d := (rf 0 0)) rfl ?_
 refine s_move (d := (st_ a1)) rfl ?_
 obtain ⟨r1, er1, h⟩ := bnd h
 refine s_call2 (ρ := [0, 1, 2]) (br := false) (H2 := [(o_vdisk_Disk_03 false (C.mp 1) (C.ref 2 0) r1.2.1), (om_ e_vdisk_file r1.2.1.files), (some (AObj.cells false [(ci r1.2.2)]))]) (d := (si r1.1)) F.ca_31 rfl rfl (ac (.one (.ref rfl)) (ac (.one .sc) (ac (.one .sc) (ac (.one .sc) (ac (.one .sc) an))))) (ac (.cells (ac (.mp rfl) (ac .sc (ac .sc (ac (.ref rfl) (ac .sc an)))))) (ac .map (ac (.cells (ac .sc an)) an))) (by decide) rfl (vdisk_Disk_change_31.meets _ p0 true a1 false 0 p2 r1 er1) (.inl rfl) rfl rfl ?_
 refine s_assign (d := (si r1.1)) rfl (AWops.nil (AW.seq (AW.seq (AW.region ?_))))
 refine s_move (d := (si r1.1)) rfl ?_
 refine s_binI (v := (.bool (r1.1 == 0))) rfl rfl rfl (AWops.nil ?_)
 rcases itH h with ⟨c2, h⟩ | ⟨c2, h⟩
 ·refine AW.cond_yes rfl c2 (AW.region ?_)
  refine s_move (d := (rf 0 0)) rfl ?_
  refine s_move (d := (st_ a1)) rfl ?_
  obtain ⟨r3, er3, h⟩ := bnd h
  refine s_call2 (ρ := [0, 1, 2]) (br := false) (H2 := [(o_vdisk_Disk_03 false (C.mp 1) (C.ref 2 0) r3), (om_ e_vdisk_file r3.files), (some (AObj.cells false [(ci r1.2.2)]))]) (d := (D.tup [])) F.ca_46 rfl rfl (ac (.one (.ref rfl)) (ac (.one .sc) an)) (ac (.cells (ac (.mp rfl) (ac .sc (ac .sc (ac (.ref rfl) (ac .sc an)))))) (ac .map (ac (.cells (ac .sc an)) an))) (by decide) rfl (vdisk_Disk_cut_46.meets _ r1.2.1 a1 r1.2.2 r3 er3) (.inl rfl) rfl rfl (AWops.nil (AW.seq (AW.region ?_)))
  refine s_move (d := (si r1.1)) rfl ?_
  refine s_assign (d := (si r1.1)) rfl (AWops.nil (AW.ret ?_))
  obtain rfl := Option.some.inj h
  exact ⟨_, rfl, (wg 3 [0, 1, 2] [] rfl (le_upd (le_top _) (.t (.one .sc))) (ac (.cells id (ac (.mp rfl) (ac .sc (ac .sc (ac (.ref rfl) (ac .sc an)))))) (ac .map (ac (.cells id (ac .sc an)) an))))⟩
 ·refine AW.cond_no rfl c2 (AW.skip (AW.seq (AW.region ?_)))
  refine s_move (d := (si r1.1)) rfl ?_
  refine s_assign (d := (si r1.1)) rfl (AWops.nil (AW.ret ?_))
  obtain rfl := Option.some.inj h
  exact ⟨_, rfl, (wg 3 [0, 1, 2] [] rfl (le_upd (le_top _) (.t (.one .sc))) (ac (.cells id (ac (.mp rfl) (ac .sc (ac .sc (ac (.ref rfl) (ac .sc an)))))) (ac .map (ac (.cells id (ac .sc an)) an))))⟩
def vdisk_Disk_Fuse_21x.f (k : Nat) (p0 : vdisk_Disk) (b0_3 : Int) (a1 : Int) : Option (Int × vdisk_Disk × Int) := (vdisk_Disk_none_35.f k p0 b0_3).bind fun r1 => if (decide (a1 < 0)) = true then (some (1, p0, b0_3)) else (some (0, p0, a1))
theorem vdisk_Disk_Fuse_21x.meets (k : Nat) (p0 : vdisk_Disk) (b0_3 : Int) (a1 : Int) (r : Int × vdisk_Disk × Int) (h : vdisk_Disk_Fuse_21x.f k p0 b0_3 a1 = some r) : Meets Try.prog 21 [(rf 0 0), (si a1)] [(o_vdisk_Disk_03 false (C.mp 1) (C.ref 2 0) p0), (om_ e_vdisk_file p0.files), (some (AObj.cells false [(ci b0_3)]))] (si r.1) [(o_vdisk_Disk_03 false (C.mp 1) (C.ref 3 0) r.2.1), (om_ e_vdisk_file r.2.1.files), none, (some (AObj.cells false [(ci r.2.2)]))] := by
 unfold vdisk_Disk_Fuse_21x.f at h
 refine Meets.of_body (n := 14) Try.func21 rfl rfl (nl rfl) fun x hx => ?_
 replace hx : x.k = 3 := hx
 show AW _ x _ _ ⟨14, fr0 [(rf 0 0), (si a1)], [(o_vdisk_Disk_03 false (C.mp 1) (C.ref 2 0) p0), (om_ e_vdisk_file p0.files), (some (AObj.cells false [(ci b0_3)]))]⟩
 refine AW.weak (st' := ⟨14, (upd 14 (upd 14 topF 0 (rf 0 0)) 1 (si a1)), [(o_vdisk_Disk_03 false (C.mp 1) (C.ref 3 0) p0), (om_ e_vdisk_file p0.files), none, (some (AObj.cells false [(ci b0_3)]))]⟩) (Weak.genL (kk := 3) [0, 1, 2, 2] [] hx rfl (by decide) rfl rfl rfl rfl (le_upd (le_upd (le_top _) (.t (.one (.ref rfl)))) (.t (.one .sc))) (ac (.cells id (ac (.mp rfl) (ac .sc (ac .sc (ac (.ref rfl) (ac .sc an)))))) (ac .map (ac (.none _) (ac (.cells id (ac .sc an)) an))))) (AW.seq (AW.region ?_))
 refine s_box (cs := [(ci a1)]) rfl (List.cons_ne_nil _ _) rfl ?_
 refine s_assign (d := (si 0)) rfl (AWops.nil (AW.seq (AW.block (AW.seq (AW.region ?_)))))
 refine s_move (d := (rf 0 0)) rfl ?_
 obtain ⟨r1, er1, h⟩ := bnd h
 have kr1 := vdisk_Disk_none_35.const er1
 subst kr1
 refine s_call2 (ρ := [0, 1, 3]) (br := false) (H2 := [(o_vdisk_Disk_03 false (C.mp 1) (C.ref 3 0) p0), (om_ e_vdisk_file p0.files), none, (some (AObj.cells false [(ci b0_3)])), (some (AObj.cells true [(ci a1)]))]) (d := (sb false)) F.ca_35 rfl rfl (ac (.one (.ref rfl)) an) (ac (.cells (ac (.mp rfl) (ac .sc (ac .sc (ac (.ref rfl) (ac .sc an)))))) (ac .map (ac (.cells (ac .sc an)) an))) (by decide) rfl (vdisk_Disk_none_35.meets _ p0 b0_3 false er1) (.inl rfl) rfl rfl ?_
 refine s_assign (d := (sb false)) rfl (AWops.nil ?_)
 refine AW.cond_no rfl rfl (AW.seq (AW.region ?_))
 refine s_load1 (c' := (ci a1)) F.ag_3 rfl rfl ?_
 refine s_binI (v := (.bool (decide (a1 < 0)))) rfl rfl rfl ?_
 refine s_assign (d := (sb (decide (a1 < 0)))) rfl (AWops.nil ?_)
 rcases itH h with ⟨c2, h⟩ | ⟨c2, h⟩
 ·refine AW.cond_yes rfl c2 (AW.seq (AW.region ?_))
  refine s_assign (d := (si 1)) rfl (AWops.nil (AW.ret ?_))
  obtain rfl := Option.some.inj h
  exact ⟨_, rfl, (wg 3 [0, 1, 2, 3] [] rfl (le_upd (le_top _) (.t (.one .sc))) (ac (.cells id (ac (.mp rfl) (ac .sc (ac .sc (ac (.ref rfl) (ac .sc an)))))) (ac .map (ac (.none _) (ac (.cells id (ac .sc an)) an)))))⟩
 ·refine AW.cond_no rfl c2 (AW.skip (AW.seq (AW.region ?_)))
  refine s_move (d := (rf 0 0)) rfl ?_
  refine s_nilCheck (d := (rf 0 0)) rfl (.inl ⟨_, _, rfl⟩) ?_
  refine s_fieldRef F.fo_50_3 (by decide) rfl ?_
  refine s_store (cs' := [(C.mp 1), (ci p0.room), (ci p0.used), (C.ref 4 0), (cb p0.dead)]) rfl rfl rfl (List.cons_ne_nil _ _) rfl F.sz_48 (nl rfl) rfl (AWops.nil (AW.seq (AW.region ?_)))
  refine s_assign (d := (si 0)) rfl (AWops.nil (AW.ret ?_))
  obtain rfl := Option.some.inj h
  exact ⟨_, rfl, (wg 3 [0, 1, 2, 4] [] rfl (le_upd (le_top _) (.t (.one .sc))) (ac (.cells id (ac (.mp rfl) (ac .sc (ac .sc (ac (.ref rfl) (ac .sc an)))))) (ac .map (ac (.none _) (ac (.cells (fun _ => rfl) (ac .sc an)) an)))))⟩
mutual
def vdisk_Disk_Crash_11x.l0 : Nat → Int → Int → Bool → (List (ByteArray × vdisk_file)) → Int → Int → (List Int) → (List ByteArray) → Option (Int × vdisk_Disk)
 | 0, _, _, _, _, _, _, _, _ => none
 | k + 1, x3, x4, x5, x6, x7, b0_3, a1, r2 => if (decide (x7 < (r2.length : Int))) = true then ((rd r2 x7).bind fun v9 => if (decide (x7 < (a1.length : Int))) = true then ((rd a1 x7).bind fun v12 => if (decide (v12 > 0)) = true then ((rd a1 x7).bind fun v14 => if (decide (0 ≤ (IntKind.i64.wrap (((lk_vdisk_file v9 x6).sure) + (if (IntKind.i64.wrap ((((lk_vdisk_file v9 x6).b).length : Int) - ((lk_vdisk_file v9 x6).sure))) < v14 then (IntKind.i64.wrap ((((lk_vdisk_file v9 x6).b).length : Int) - ((lk_vdisk_file v9 x6).sure))) else v14))) ∧ (IntKind.i64.wrap (((lk_vdisk_file v9 x6).sure) + (if (IntKind.i64.wrap ((((lk_vdisk_file v9 x6).b).length : Int) - ((lk_vdisk_file v9 x6).sure))) < v14 then (IntKind.i64.wrap ((((lk_vdisk_file v9 x6).b).length : Int) - ((lk_vdisk_file v9 x6).sure))) else v14))) ≤ (((lk_vdisk_file v9 x6).b).length : Int))) = true then ((vdisk_Disk_set_33.f k (⟨x6, x3, x4, (), x5⟩ : vdisk_Disk) v9 (⟨sub ((lk_vdisk_file v9 x6).b) 0 (IntKind.i64.wrap (((lk_vdisk_file v9 x6).sure) + (if (IntKind.i64.wrap ((((lk_vdisk_file v9 x6).b).length : Int) - ((lk_vdisk_file v9 x6).sure))) < v14 then (IntKind.i64.wrap ((((lk_vdisk_file v9 x6).b).length : Int) - ((lk_vdisk_file v9 x6).sure))) else v14))), IntKind.i64.wrap (((lk_vdisk_file v9 x6).sure) + (if (IntKind.i64.wrap ((((lk_vdisk_file v9 x6).b).length : Int) - ((lk_vdisk_file v9 x6).sure))) < v14 then (IntKind.i64.wrap ((((lk_vdisk_file v9 x6).b).length : Int) - ((lk_vdisk_file v9 x6).sure))) else v14))⟩ : vdisk_file) b0_3).bind fun r16 => vdisk_Disk_Crash_11x.l0 k r16.room r16.used r16.dead r16.files (IntKind.i64.wrap (x7 + 1)) b0_3 a1 r2) else none) else (if (decide (0 ≤ ((lk_vdisk_file v9 x6).sure) ∧ ((lk_vdisk_file v9 x6).sure) ≤ (((lk_vdisk_file v9 x6).b).length : Int))) = true then ((vdisk_Disk_set_33.f k (⟨x6, x3, x4, (), x5⟩ : vdisk_Disk) v9 (⟨sub ((lk_vdisk_file v9 x6).b) 0 ((lk_vdisk_file v9 x6).sure), (lk_vdisk_file v9 x6).sure⟩ : vdisk_file) b0_3).bind fun r18 => vdisk_Disk_Crash_11x.l0 k r18.room r18.used r18.dead r18.files (IntKind.i64.wrap (x7 + 1)) b0_3 a1 r2) else none)) else (if (decide (0 ≤ ((lk_vdisk_file v9 x6).sure) ∧ ((lk_vdisk_file v9 x6).sure) ≤ (((lk_vdisk_file v9 x6).b).length : Int))) = true then ((vdisk_Disk_set_33.f k (⟨x6, x3, x4, (), x5⟩ : vdisk_Disk) v9 (⟨sub ((lk_vdisk_file v9 x6).b) 0 ((lk_vdisk_file v9 x6).sure), (lk_vdisk_file v9 x6).sure⟩ : vdisk_file) b0_3).bind fun r20 => vdisk_Disk_Crash_11x.l0 k r20.room r20.used r20.dead r20.files (IntKind.i64.wrap (x7 + 1)) b0_3 a1 r2) else none)) else (some (0, (⟨x6, x3, x4, (), false⟩ : vdisk_Disk)))
end
def vdisk_Disk_Crash_11x.f (k : Nat) (p0 : vdisk_Disk) (b0_3 : Int) (a1 : List Int) : Option (Int × vdisk_Disk) := (vdisk_Disk_none_35.f k p0 b0_3).bind fun r1 => (vdisk_Disk_Names_24.f k p0 b0_3).bind fun r2 => vdisk_Disk_Crash_11x.l0 k p0.room p0.used p0.dead p0.files 0 b0_3 a1 r2
theorem vdisk_Disk_Crash_11x.meets (k : Nat) (p0 : vdisk_Disk) (b0_3 : Int) (a1 : List Int) (r : Int × vdisk_Disk) (h : vdisk_Disk_Crash_11x.f k p0 b0_3 a1 = some r) : Meets Try.prog 11 [(rf 0 0), (D.one (C.p false (.sl a1.length (a1.flatMap e_i64))))] [(o_vdisk_Disk_03 false (C.mp 1) (C.ref 2 0) p0), (om_ e_vdisk_file p0.files), (some (AObj.cells false [(ci b0_3)]))] (si r.1) [(o_vdisk_Disk_03 false (C.mp 1) (C.p true (.v (.pointer none))) r.2), (om_ e_vdisk_file r.2.files), none] := by
 unfold vdisk_Disk_Crash_11x.f at h
 refine Meets.of_body (n := 69) Try.func11 rfl rfl (nl rfl) fun x hx => ?_
 replace hx : x.k = 3 := hx
 show AW _ x _ _ ⟨69, fr0 [(rf 0 0), (D.one (C.p false (.sl a1.length (a1.flatMap e_i64))))], [(o_vdisk_Disk_03 false (C.mp 1) (C.ref 2 0) p0), (om_ e_vdisk_file p0.files), (some (AObj.cells false [(ci b0_3)]))]⟩
 refine AW.weak (st' := ⟨69, (upd 69 (upd 69 topF 0 (rf 0 0)) 1 (D.one (C.p false (.sl a1.length (a1.flatMap e_i64))))), [(o_vdisk_Disk_03 false (C.mp 1) (C.ref 3 0) p0), (om_ e_vdisk_file p0.files), none, (some (AObj.cells false [(ci b0_3)]))]⟩) (Weak.genL (kk := 3) [0, 1, 2, 2] [] hx rfl (by decide) rfl rfl rfl rfl (le_upd (le_upd (le_top _) (.t (.one (.ref rfl)))) (.t (.one .same))) (ac (.cells id (ac (.mp rfl) (ac .sc (ac .sc (ac (.ref rfl) (ac .sc an)))))) (ac .map (ac (.none _) (ac (.cells id (ac .sc an)) an))))) (AW.seq (AW.region ?_))
 refine s_assign (d := (si 0)) rfl (AWops.nil (AW.seq (AW.seq (AW.region ?_))))
 refine s_move (d := (rf 0 0)) rfl ?_
 obtain ⟨r1, er1, h⟩ := bnd h
 have kr1 := vdisk_Disk_none_35.const er1
 subst kr1
 refine s_call2 (ρ := [0, 1, 3]) (br := false) (H2 := [(o_vdisk_Disk_03 false (C.mp 1) (C.ref 3 0) p0), (om_ e_vdisk_file p0.files), none, (some (AObj.cells false [(ci b0_3)]))]) (d := (sb false)) F.ca_35 rfl rfl (ac (.one (.ref rfl)) an) (ac (.cells (ac (.mp rfl) (ac .sc (ac .sc (ac (.ref rfl) (ac .sc an)))))) (ac .map (ac (.cells (ac .sc an)) an))) (by decide) rfl (vdisk_Disk_none_35.meets _ p0 b0_3 false er1) (.inl rfl) rfl rfl (AWops.nil ?_)
 refine AW.cond_no rfl rfl (AW.skip (AW.seq (AW.seq (AW.region ?_))))
 refine s_move (d := (rf 0 0)) rfl ?_
 obtain ⟨r2, er2, h⟩ := bnd h
 refine s_call2 (ρ := [0, 1, 3]) (br := false) (H2 := [(o_vdisk_Disk_03 false (C.mp 1) (C.ref 3 0) p0), (om_ e_vdisk_file p0.files), none, (some (AObj.cells false [(ci b0_3)])), (ow_ e_str r2)]) (d := (D.one (C.own 4 0 r2.length 1))) F.ca_24 rfl rfl (ac (.one (.ref rfl)) an) (ac (.cells (ac (.mp rfl) (ac .sc (ac .sc (ac (.ref rfl) (ac .sc an)))))) (ac .map (ac (.cells (ac .sc an)) an))) (by decide) rfl (vdisk_Disk_Names_24.meets _ p0 b0_3 r2 er2) (.inl rfl) (by first | rfl | (simp only [mS]; done) | (simp only [mS]; rfl)) rfl ?_
 refine s_len (n := r2.length) F.u_55 rfl (.inr ⟨(fun _ _ h => by cases h), ⟨_, rfl⟩⟩) ?_
 refine s_move (d := (si 0)) rfl (AWops.nil (AW.block ?_))
 refine AW.loopw (st0 := ⟨69, (upd 69 (upd 69 (upd 69 (upd 69 (upd 69 topF 0 (rf 0 0)) 1 (D.one (C.p false (.sl a1.length (a1.flatMap e_i64))))) 12 (D.one (C.own 3 0 r2.length 1))) 13 (si (r2.length : Int))) 14 (si 0)), [(some (AObj.cells false [(C.mp 1), (ci p0.room), (ci p0.used), (C.ref 4 0), (cb p0.dead)])), (om_ e_vdisk_file p0.files), none, (ow_ e_str r2), (some (AObj.cells false [(ci b0_3)]))]⟩) (fun kv st => kv ≤ k ∧ ∃ (x3 : Int) (x4 : Int) (x5 : Bool) (x6 : List (ByteArray × vdisk_file)) (x7 : Int), vdisk_Disk_Crash_11x.l0 kv x3 x4 x5 x6 x7 b0_3 a1 r2 = some r ∧ st = ⟨69, (upd 69 (upd 69 (upd 69 (upd 69 (upd 69 topF 0 (rf 0 0)) 1 (D.one (C.p false (.sl a1.length (a1.flatMap e_i64))))) 12 (D.one (C.own 3 0 r2.length 1))) 13 (si (r2.length : Int))) 14 (si x7)), [(some (AObj.cells false [(C.mp 1), (ci x3), (ci x4), (C.ref 4 0), (cb x5)])), (om_ e_vdisk_file x6), none, (ow_ e_str r2), (some (AObj.cells false [(ci b0_3)]))]⟩) (k := k) (wg 3 [0, 1, 2, 4, 3] [] hx (le_upd (le_upd (le_upd (le_upd (le_upd (le_top _) (.t (.one (.ref rfl)))) (.t (.one .same))) (.t (.one (.own rfl)))) (.t (.one .sc))) (.t (.one .sc))) (ac (.cells id (ac (.mp rfl) (ac .sc (ac .sc (ac (.ref rfl) (ac .sc an)))))) (ac .map (ac (.none _) (ac (.cells (fun _ => rfl) (all2_row _)) (ac (.cells id (ac .sc an)) an)))))) ⟨Nat.le_refl _, p0.room, p0.used, p0.dead, p0.files, 0, h, rfl⟩ ?_
 rintro ql0 st ⟨hkl0, x3, x4, x5, x6, x7, h, rfl⟩
 cases ql0 with
 | zero => exact absurd h (by simp [vdisk_Disk_Crash_11x.l0])
 | succ ql0 =>
  replace h := (vdisk_Disk_Crash_11x.l0.eq_2 _ _ _ _ _ _ _ _ _).symm.trans h
  refine AW.seq (AW.region ?_)
  refine s_binI (v := (.bool (decide (x7 < (r2.length : Int))))) rfl rfl rfl (AWops.nil (AW.seq ?_))
  rcases itH h with ⟨c8, h⟩ | ⟨c8, h⟩
  ·refine AW.cond_yes rfl c8 (AW.skip (AW.seq (AW.block (AW.seq (AW.region ?_)))))
   refine s_move (d := (si x7)) rfl ?_
   obtain ⟨v9, ev9, h⟩ := bnd h
   obtain ⟨pv9, qv9, gv9⟩ := rd_some ev9
   refine s_indexOwn (d := (D.one (C.ref 3 (0 + x7.toNat * 1)))) F.u_55 F.sz_9 rfl rfl pv9 qv9 rfl ?_
   obtain ⟨R10, hR10⟩ := row_at (f := e_str) (sz := 1) (o := 0) e_str_len gv9 (e_str_eq v9) (by decide)
   refine s_load1 (c' := (ct v9)) F.ag_9 (congrArg some hR10) rfl ?_
   refine s_assign (d := (si x7)) rfl ?_
   refine s_assign (d := (st_ v9)) rfl (AWops.nil (AW.seq (AW.region ?_)))
   refine s_move (d := (rf 0 0)) rfl ?_
   refine s_nilCheck (d := (rf 0 0)) rfl (.inl ⟨_, _, rfl⟩) ?_
   refine s_fieldRef F.fo_50_0 (by decide) rfl ?_
   refine s_load1 (c' := (C.mp 1)) F.ag_47 rfl rfl ?_
   refine s_move (d := (st_ v9)) rfl ?_
   refine t_lookup (b := true) F.u_47 F.u_9 F.z_65 (z := ((⟨([] : List Int), 0⟩ : vdisk_file) : vdisk_file)) (zs := [(.slice none 0 0), (.int .i64 0)]) rfl (fun h => by cases h) (ac ZRel.n (ac (ZRel.v _ rfl) an)) rfl rfl rfl rfl ?_
   refine s_alloc (cs := [(C.p true (.v (.slice none 0 0))), (ci 0)]) F.z_65 rfl rfl ?_
   refine s_store (cs' := (c_vdisk_file (lk_vdisk_file v9 x6))) rfl rfl rfl (List.cons_ne_nil _ _) rfl F.sz_65 (nl rfl) rfl (AWops.nil (AW.seq (AW.region ?_)))
   refine s_fieldRef F.fo_65_1 (by decide) rfl ?_
   refine s_load1 (c' := (ci ((lk_vdisk_file v9 x6).sure))) F.ag_3 rfl rfl ?_
   refine s_assign (d := (si ((lk_vdisk_file v9 x6).sure))) rfl (AWops.nil (AW.seq (AW.seq (AW.region ?_))))
   refine s_move (d := (si x7)) rfl ?_
   refine s_move (d := (D.one (C.p false (.sl a1.length (a1.flatMap e_i64))))) rfl ?_
   refine s_len (n := a1.length) F.u_24 rfl (.inr ⟨(fun _ _ h => by cases h), ⟨_, rfl⟩⟩) ?_
   refine s_binI (v := (.bool (decide (x7 < (a1.length : Int))))) rfl rfl rfl ?_
   refine s_move (d := (sb (decide (x7 < (a1.length : Int))))) rfl ?_
   rcases itH h with ⟨c11, h⟩ | ⟨c11, h⟩
   ·refine AWops.guard_yes rfl (nl rfl) rfl c11 ?_
    refine s_move (d := (D.one (C.p false (.sl a1.length (a1.flatMap e_i64))))) rfl ?_
    refine AWops.guard_yes rfl (nl rfl) rfl c11 ?_
    refine s_move (d := (si x7)) rfl ?_
    refine AWops.guard_yes rfl (nl rfl) rfl c11 ?_
    obtain ⟨v12, ev12, h⟩ := bnd h
    obtain ⟨pv12, qv12, gv12⟩ := rd_some ev12
    refine s_indexImm (ps := [P.v (.int .i64 v12)]) F.u_24 F.sz_3 rfl rfl pv12 qv12 (flat_at e_i64_len gv12 (e_i64_eq v12)) ?_
    refine AWops.guard_yes rfl (nl rfl) rfl c11 ?_
    refine s_load1 (c' := (ci v12)) F.ag_3 rfl rfl ?_
    refine AWops.guard_yes rfl (nl rfl) rfl c11 ?_
    refine s_binI (v := (.bool (decide (v12 > 0)))) rfl rfl rfl ?_
    refine s_pick_yes (d := (sb (decide (v12 > 0)))) rfl c11 rfl (AWops.nil ?_)
    rcases itH h with ⟨c13, h⟩ | ⟨c13, h⟩
    ·refine AW.cond_yes rfl c13 ?_
     refine AW.weak (st' := ⟨69, (upd 69 (upd 69 (upd 69 (upd 69 (upd 69 (upd 69 (upd 69 (upd 69 (upd 69 (upd 69 (upd 69 (upd 69 (upd 69 (upd 69 topF 0 (rf 0 0)) 1 (D.one (C.p false (.sl a1.length (a1.flatMap e_i64))))) 5 (si x7)) 6 (st_ v9)) 7 (rf 3 0)) 8 (si ((lk_vdisk_file v9 x6).sure))) 12 (D.one (C.own 4 0 r2.length 1))) 13 (si (r2.length : Int))) 14 (si x7)) 32 (D.one (C.p false (.sl a1.length (a1.flatMap e_i64))))) 33 (si x7)) 34 (D.one (C.peek false [P.v (.int .i64 v12)]))) 35 (si v12)) 36 (sb (decide (v12 > 0)))), [(some (AObj.cells false [(C.mp 1), (ci x3), (ci x4), (C.ref 5 0), (cb x5)])), (om_ e_vdisk_file x6), none, (some (AObj.cells true (c_vdisk_file (lk_vdisk_file v9 x6)))), (ow_ e_str r2), (some (AObj.cells false [(ci b0_3)]))]⟩) (wg 3 [0, 1, 2, 5, 3, 4] [] hx (le_upd (le_upd (le_upd (le_upd (le_upd (le_upd (le_upd (le_upd (le_upd (le_upd (le_upd (le_upd (le_upd (le_upd (le_top _) (.t (.one (.ref rfl)))) (.t (.one .same))) (.t (.one .sc))) (.t (.one .sc))) (.t (.one (.ref rfl)))) (.t (.one .sc))) (.t (.one (.own rfl)))) (.t (.one .sc))) (.t (.one .sc))) (.t (.one .same))) (.t (.one .sc))) (.t (.one .peek))) (.t (.one .sc))) (.t (.one .sc))) (ac (.cells id (ac (.mp rfl) (ac .sc (ac .sc (ac (.ref rfl) (ac .sc an)))))) (ac .map (ac (.none _) (ac (.cells (fun _ => rfl) (ac .same (ac .sc an))) (ac (.cells (fun _ => rfl) (all2_row _)) (ac (.cells id (ac .sc an)) an))))))) ?_
     obtain ⟨v14, ev14, h⟩ := bnd h
     obtain ⟨pv14, qv14, gv14⟩ := rd_some ev14
     refine AW.draw (n := 69) (L := 6) [(ft 0 38 (rf 3 1) [(7, (rf 3 0))]), (1, ⟨some 39, (si ((lk_vdisk_file v9 x6).sure)), [(38, (rf 3 1))], [(3, (some (AObj.cells true (c_vdisk_file (lk_vdisk_file v9 x6)))))], [], none⟩), (ft 2 40 (D.one (C.p false (.sl a1.length (a1.flatMap e_i64)))) [(1, (D.one (C.p false (.sl a1.length (a1.flatMap e_i64)))))]), (ft 3 41 (si x7) [(5, (si x7))]), (ft 4 42 (D.one (C.peek false [P.v (.int .i64 v14)])) [(40, (D.one (C.p false (.sl a1.length (a1.flatMap e_i64))))), (41, (si x7))]), (ft 5 43 (si v14) [(42, (D.one (C.peek false [P.v (.int .i64 v14)])))]), (ft 6 44 (rf 3 0) [(7, (rf 3 0))]), (7, ⟨some 45, (D.one (C.p false (.sl ((lk_vdisk_file v9 x6).b).length (((lk_vdisk_file v9 x6).b).flatMap e_u8)))), [(44, (rf 3 0))], [(3, (some (AObj.cells true (c_vdisk_file (lk_vdisk_file v9 x6)))))], [], none⟩), (ft 8 46 (si (((lk_vdisk_file v9 x6).b).length : Int)) [(45, (D.one (C.p false (.sl ((lk_vdisk_file v9 x6).b).length (((lk_vdisk_file v9 x6).b).flatMap e_u8)))))]), (ft 9 47 (rf 3 1) [(7, (rf 3 0))]), (10, ⟨some 48, (si ((lk_vdisk_file v9 x6).sure)), [(47, (rf 3 1))], [(3, (some (AObj.cells true (c_vdisk_file (lk_vdisk_file v9 x6)))))], [], none⟩), (ft 11 49 (si (IntKind.i64.wrap ((((lk_vdisk_file v9 x6).b).length : Int) - ((lk_vdisk_file v9 x6).sure)))) [(46, (si (((lk_vdisk_file v9 x6).b).length : Int))), (48, (si ((lk_vdisk_file v9 x6).sure)))]), (ft 12 50 (si (if (IntKind.i64.wrap ((((lk_vdisk_file v9 x6).b).length : Int) - ((lk_vdisk_file v9 x6).sure))) < v14 then (IntKind.i64.wrap ((((lk_vdisk_file v9 x6).b).length : Int) - ((lk_vdisk_file v9 x6).sure))) else v14)) [(43, (si v14)), (49, (si (IntKind.i64.wrap ((((lk_vdisk_file v9 x6).b).length : Int) - ((lk_vdisk_file v9 x6).sure)))))]), (ft 13 51 (si (IntKind.i64.wrap (((lk_vdisk_file v9 x6).sure) + (if (IntKind.i64.wrap ((((lk_vdisk_file v9 x6).b).length : Int) - ((lk_vdisk_file v9 x6).sure))) < v14 then (IntKind.i64.wrap ((((lk_vdisk_file v9 x6).b).length : Int) - ((lk_vdisk_file v9 x6).sure))) else v14)))) [(39, (si ((lk_vdisk_file v9 x6).sure))), (50, (si (if (IntKind.i64.wrap ((((lk_vdisk_file v9 x6).b).length : Int) - ((lk_vdisk_file v9 x6).sure))) < v14 then (IntKind.i64.wrap ((((lk_vdisk_file v9 x6).b).length : Int) - ((lk_vdisk_file v9 x6).sure))) else v14)))]), (ft 14 8 (si (IntKind.i64.wrap (((lk_vdisk_file v9 x6).sure) + (if (IntKind.i64.wrap ((((lk_vdisk_file v9 x6).b).length : Int) - ((lk_vdisk_file v9 x6).sure))) < v14 then (IntKind.i64.wrap ((((lk_vdisk_file v9 x6).b).length : Int) - ((lk_vdisk_file v9 x6).sure))) else v14)))) [(51, (si (IntKind.i64.wrap (((lk_vdisk_file v9 x6).sure) + (if (IntKind.i64.wrap ((((lk_vdisk_file v9 x6).b).length : Int) - ((lk_vdisk_file v9 x6).sure))) < v14 then (IntKind.i64.wrap ((((lk_vdisk_file v9 x6).b).length : Int) - ((lk_vdisk_file v9 x6).sure))) else v14)))))])] [[], [0], [], [], [2, 3], [2, 3, 4], [], [6], [6, 7], [], [9], [6, 7, 8, 9, 10], [2, 3, 4, 5, 6, 7, 8, 9, 10, 11], (.range 13), (.range 14)] (nl rfl) [0, 1, 0, 0, 1, 2, 0, 1, 2, 0, 1, 3, 4, 5, 6] rfl (TK := []) rfl AllK.nil' (by repeat (first | refine fC ⟨?_, ?_⟩ ?_ | refine sC rfl ?_ | refine hC rfl ?_ | trivial)) ?_ ?_
     ·refine (pC ?_ (pC ?_ (pC ?_ (pC ?_ (pC ?_ (pC ?_ (pC ?_ (pC ?_ (pC ?_ (pC ?_ (pC ?_ (pC ?_ (pC ?_ (pC ?_ (pC ?_ AllStep.nil')))))))))))))))
      ·intro K rest fr hv htk k
       show AWops _ x _ _ K ⟨69, (upd 69 fr 7 (rf 3 0)), [(hv 0), (hv 1), (hv 2), (hv 3), (hv 4), (hv 5)]⟩
       refine s_fieldRef F.fo_65_1 (by decide) rfl k
      ·intro K rest fr hv htk k
       show AWops _ x _ _ K ⟨69, (upd 69 fr 38 (rf 3 1)), [(hv 0), (hv 1), (hv 2), (some (AObj.cells true (c_vdisk_file (lk_vdisk_file v9 x6)))), (hv 4), (hv 5)]⟩
       refine s_load1 (c' := (ci ((lk_vdisk_file v9 x6).sure))) F.ag_3 rfl rfl k
      ·intro K rest fr hv htk k
       show AWops _ x _ _ K ⟨69, (upd 69 fr 1 (D.one (C.p false (.sl a1.length (a1.flatMap e_i64))))), _⟩
       refine s_move (d := (D.one (C.p false (.sl a1.length (a1.flatMap e_i64))))) rfl k
      ·intro K rest fr hv htk k
       show AWops _ x _ _ K ⟨69, (upd 69 fr 5 (si x7)), _⟩
       refine s_move (d := (si x7)) rfl k
      ·intro K rest fr hv htk k
       show AWops _ x _ _ K ⟨69, (upd 69 (upd 69 fr 41 (si x7)) 40 (D.one (C.p false (.sl a1.length (a1.flatMap e_i64))))), [(hv 0), (hv 1), (hv 2), (hv 3), (hv 4), (hv 5)]⟩
       refine s_indexImm (ps := [P.v (.int .i64 v14)]) F.u_24 F.sz_3 rfl rfl pv14 qv14 (flat_at e_i64_len gv14 (e_i64_eq v14)) k
      ·intro K rest fr hv htk k
       show AWops _ x _ _ K ⟨69, (upd 69 fr 42 (D.one (C.peek false [P.v (.int .i64 v14)]))), [(hv 0), (hv 1), (hv 2), (hv 3), (hv 4), (hv 5)]⟩
       refine s_load1 (c' := (ci v14)) F.ag_3 rfl rfl k
      ·intro K rest fr hv htk k
       show AWops _ x _ _ K ⟨69, (upd 69 fr 7 (rf 3 0)), [(hv 0), (hv 1), (hv 2), (hv 3), (hv 4), (hv 5)]⟩
       refine s_fieldRef F.fo_65_0 (by decide) rfl k
      ·intro K rest fr hv htk k
       show AWops _ x _ _ K ⟨69, (upd 69 fr 44 (rf 3 0)), [(hv 0), (hv 1), (hv 2), (some (AObj.cells true (c_vdisk_file (lk_vdisk_file v9 x6)))), (hv 4), (hv 5)]⟩
       refine s_load1 (c' := (C.p false (.sl ((lk_vdisk_file v9 x6).b).length (((lk_vdisk_file v9 x6).b).flatMap e_u8)))) F.ag_22 rfl rfl k
      ·intro K rest fr hv htk k
       show AWops _ x _ _ K ⟨69, (upd 69 fr 45 (D.one (C.p false (.sl ((lk_vdisk_file v9 x6).b).length (((lk_vdisk_file v9 x6).b).flatMap e_u8))))), [(hv 0), (hv 1), (hv 2), (hv 3), (hv 4), (hv 5)]⟩
       refine s_len (n := ((lk_vdisk_file v9 x6).b).length) F.u_22 rfl (.inr ⟨(fun _ _ h => by cases h), ⟨_, rfl⟩⟩) k
      ·intro K rest fr hv htk k
       show AWops _ x _ _ K ⟨69, (upd 69 fr 7 (rf 3 0)), [(hv 0), (hv 1), (hv 2), (hv 3), (hv 4), (hv 5)]⟩
       refine s_fieldRef F.fo_65_1 (by decide) rfl k
      ·intro K rest fr hv htk k
       show AWops _ x _ _ K ⟨69, (upd 69 fr 47 (rf 3 1)), [(hv 0), (hv 1), (hv 2), (some (AObj.cells true (c_vdisk_file (lk_vdisk_file v9 x6)))), (hv 4), (hv 5)]⟩
       refine s_load1 (c' := (ci ((lk_vdisk_file v9 x6).sure))) F.ag_3 rfl rfl k
      ·intro K rest fr hv htk k
       show AWops _ x _ _ K ⟨69, (upd 69 (upd 69 fr 48 (si ((lk_vdisk_file v9 x6).sure))) 46 (si (((lk_vdisk_file v9 x6).b).length : Int))), _⟩
       refine s_binI (v := (.int .i64 (IntKind.i64.wrap ((((lk_vdisk_file v9 x6).b).length : Int) - ((lk_vdisk_file v9 x6).sure))))) rfl rfl rfl k
      ·intro K rest fr hv htk k
       show AWops _ x _ _ K ⟨69, (upd 69 (upd 69 fr 49 (si (IntKind.i64.wrap ((((lk_vdisk_file v9 x6).b).length : Int) - ((lk_vdisk_file v9 x6).sure))))) 43 (si v14)), [(hv 0), (hv 1), (hv 2), (hv 3), (hv 4), (hv 5)]⟩
       refine s_min2 (r := (if (IntKind.i64.wrap ((((lk_vdisk_file v9 x6).b).length : Int) - ((lk_vdisk_file v9 x6).sure))) < v14 then (IntKind.i64.wrap ((((lk_vdisk_file v9 x6).b).length : Int) - ((lk_vdisk_file v9 x6).sure))) else v14)) rfl rfl rfl k
      ·intro K rest fr hv htk k
       show AWops _ x _ _ K ⟨69, (upd 69 (upd 69 fr 50 (si (if (IntKind.i64.wrap ((((lk_vdisk_file v9 x6).b).length : Int) - ((lk_vdisk_file v9 x6).sure))) < v14 then (IntKind.i64.wrap ((((lk_vdisk_file v9 x6).b).length : Int) - ((lk_vdisk_file v9 x6).sure))) else v14))) 39 (si ((lk_vdisk_file v9 x6).sure))), _⟩
       refine s_binI (v := (.int .i64 (IntKind.i64.wrap (((lk_vdisk_file v9 x6).sure) + (if (IntKind.i64.wrap ((((lk_vdisk_file v9 x6).b).length : Int) - ((lk_vdisk_file v9 x6).sure))) < v14 then (IntKind.i64.wrap ((((lk_vdisk_file v9 x6).b).length : Int) - ((lk_vdisk_file v9 x6).sure))) else v14))))) rfl rfl rfl k
      ·intro K rest fr hv htk k
       show AWops _ x _ _ K ⟨69, (upd 69 fr 51 (si (IntKind.i64.wrap (((lk_vdisk_file v9 x6).sure) + (if (IntKind.i64.wrap ((((lk_vdisk_file v9 x6).b).length : Int) - ((lk_vdisk_file v9 x6).sure))) < v14 then (IntKind.i64.wrap ((((lk_vdisk_file v9 x6).b).length : Int) - ((lk_vdisk_file v9 x6).sure))) else v14))))), _⟩
       refine s_assign (d := (si (IntKind.i64.wrap (((lk_vdisk_file v9 x6).sure) + (if (IntKind.i64.wrap ((((lk_vdisk_file v9 x6).b).length : Int) - ((lk_vdisk_file v9 x6).sure))) < v14 then (IntKind.i64.wrap ((((lk_vdisk_file v9 x6).b).length : Int) - ((lk_vdisk_file v9 x6).sure))) else v14))))) rfl k
     ·refine AWops.weak (st' := ⟨69, (upd 69 (upd 69 (upd 69 (upd 69 (upd 69 (upd 69 (upd 69 (upd 69 (upd 69 (upd 69 (upd 69 (upd 69 (upd 69 topF 0 (rf 0 0)) 1 (D.one (C.p false (.sl a1.length (a1.flatMap e_i64))))) 6 (st_ v9)) 7 (rf 3 0)) 8 (si (IntKind.i64.wrap (((lk_vdisk_file v9 x6).sure) + (if (IntKind.i64.wrap ((((lk_vdisk_file v9 x6).b).length : Int) - ((lk_vdisk_file v9 x6).sure))) < v14 then (IntKind.i64.wrap ((((lk_vdisk_file v9 x6).b).length : Int) - ((lk_vdisk_file v9 x6).sure))) else v14))))) 12 (D.one (C.own 4 0 r2.length 1))) 13 (si (r2.length : Int))) 14 (si x7)) 32 (D.one (C.p false (.sl a1.length (a1.flatMap e_i64))))) 33 (si x7)) 34 (D.one (C.peek false [P.v (.int .i64 v12)]))) 35 (si v12)) 36 (sb (decide (v12 > 0)))), [(some (AObj.cells false [(C.mp 1), (ci x3), (ci x4), (C.ref 5 0), (cb x5)])), (om_ e_vdisk_file x6), none, (some (AObj.cells true (c_vdisk_file (lk_vdisk_file v9 x6)))), (ow_ e_str r2), (some (AObj.cells false [(ci b0_3)]))]⟩) (wg 3 [0, 1, 2, 3, 4, 5] [] hx (le_upd (le_upd (le_upd (le_upd (le_upd (le_upd (le_upd (le_upd (le_upd (le_upd (le_upd (le_upd (le_upd (le_top _) (.t (.one (.ref rfl)))) (.t (.one .same))) (.t (.one .sc))) (.t (.one (.ref rfl)))) (.t (.one .sc))) (.t (.one (.own rfl)))) (.t (.one .sc))) (.t (.one .sc))) (.t (.one .same))) (.t (.one .sc))) (.t (.one .peek))) (.t (.one .sc))) (.t (.one .sc))) (ac (.cells id (ac (.mp rfl) (ac .sc (ac .sc (ac (.ref rfl) (ac .sc an)))))) (ac .map (ac (.none _) (ac (.cells (fun _ => rfl) (ac .same (ac .sc an))) (ac (.cells (fun _ => rfl) (all2_row _)) (ac (.cells id (ac .sc an)) an))))))) (AWops.nil (AW.region ?_))
      refine s_move (d := (rf 0 0)) rfl ?_
      refine s_move (d := (st_ v9)) rfl ?_
      refine s_fieldRef F.fo_65_0 (by decide) rfl ?_
      refine s_load1 (c' := (C.p false (.sl ((lk_vdisk_file v9 x6).b).length (((lk_vdisk_file v9 x6).b).flatMap e_u8)))) F.ag_22 rfl rfl ?_
      refine s_move (d := (si (IntKind.i64.wrap (((lk_vdisk_file v9 x6).sure) + (if (IntKind.i64.wrap ((((lk_vdisk_file v9 x6).b).length : Int) - ((lk_vdisk_file v9 x6).sure))) < v14 then (IntKind.i64.wrap ((((lk_vdisk_file v9 x6).b).length : Int) - ((lk_vdisk_file v9 x6).sure))) else v14))))) rfl ?_
      refine s_move (d := (si (IntKind.i64.wrap (((lk_vdisk_file v9 x6).sure) + (if (IntKind.i64.wrap ((((lk_vdisk_file v9 x6).b).length : Int) - ((lk_vdisk_file v9 x6).sure))) < v14 then (IntKind.i64.wrap ((((lk_vdisk_file v9 x6).b).length : Int) - ((lk_vdisk_file v9 x6).sure))) else v14))))) rfl ?_
      obtain ⟨c15, h⟩ := gdH h
      have dc15 := of_decide_eq_true c15
      refine t_slice3Imm F.u_22 F.sz_5 e_u8_len rfl rfl rfl (by omega) (by omega) ?_
      refine s_move (d := (si (IntKind.i64.wrap (((lk_vdisk_file v9 x6).sure) + (if (IntKind.i64.wrap ((((lk_vdisk_file v9 x6).b).length : Int) - ((lk_vdisk_file v9 x6).sure))) < v14 then (IntKind.i64.wrap ((((lk_vdisk_file v9 x6).b).length : Int) - ((lk_vdisk_file v9 x6).sure))) else v14))))) rfl ?_
      refine s_build (ps := [(0, (D.one (C.p false (.sl (sub ((lk_vdisk_file v9 x6).b) 0 (IntKind.i64.wrap (((lk_vdisk_file v9 x6).sure) + (if (IntKind.i64.wrap ((((lk_vdisk_file v9 x6).b).length : Int) - ((lk_vdisk_file v9 x6).sure))) < v14 then (IntKind.i64.wrap ((((lk_vdisk_file v9 x6).b).length : Int) - ((lk_vdisk_file v9 x6).sure))) else v14)))).length ((sub ((lk_vdisk_file v9 x6).b) 0 (IntKind.i64.wrap (((lk_vdisk_file v9 x6).sure) + (if (IntKind.i64.wrap ((((lk_vdisk_file v9 x6).b).length : Int) - ((lk_vdisk_file v9 x6).sure))) < v14 then (IntKind.i64.wrap ((((lk_vdisk_file v9 x6).b).length : Int) - ((lk_vdisk_file v9 x6).sure))) else v14)))).flatMap e_u8))))), (1, (si (IntKind.i64.wrap (((lk_vdisk_file v9 x6).sure) + (if (IntKind.i64.wrap ((((lk_vdisk_file v9 x6).b).length : Int) - ((lk_vdisk_file v9 x6).sure))) < v14 then (IntKind.i64.wrap ((((lk_vdisk_file v9 x6).b).length : Int) - ((lk_vdisk_file v9 x6).sure))) else v14)))))]) (cs := [(C.p false (.sl (sub ((lk_vdisk_file v9 x6).b) 0 (IntKind.i64.wrap (((lk_vdisk_file v9 x6).sure) + (if (IntKind.i64.wrap ((((lk_vdisk_file v9 x6).b).length : Int) - ((lk_vdisk_file v9 x6).sure))) < v14 then (IntKind.i64.wrap ((((lk_vdisk_file v9 x6).b).length : Int) - ((lk_vdisk_file v9 x6).sure))) else v14)))).length ((sub ((lk_vdisk_file v9 x6).b) 0 (IntKind.i64.wrap (((lk_vdisk_file v9 x6).sure) + (if (IntKind.i64.wrap ((((lk_vdisk_file v9 x6).b).length : Int) - ((lk_vdisk_file v9 x6).sure))) < v14 then (IntKind.i64.wrap ((((lk_vdisk_file v9 x6).b).length : Int) - ((lk_vdisk_file v9 x6).sure))) else v14)))).flatMap e_u8))), (ci (IntKind.i64.wrap (((lk_vdisk_file v9 x6).sure) + (if (IntKind.i64.wrap ((((lk_vdisk_file v9 x6).b).length : Int) - ((lk_vdisk_file v9 x6).sure))) < v14 then (IntKind.i64.wrap ((((lk_vdisk_file v9 x6).b).length : Int) - ((lk_vdisk_file v9 x6).sure))) else v14))))]) F.z_65 rfl F.so_65 rfl rfl ?_
      obtain ⟨r16, er16, h⟩ := bnd h
      refine s_call2 (ρ := [0, 1, 5]) (br := false) (H2 := [(o_vdisk_Disk_03 false (C.mp 1) (C.ref 5 0) r16), (om_ e_vdisk_file r16.files), none, (some (AObj.cells true (c_vdisk_file (lk_vdisk_file v9 x6)))), (ow_ e_str r2), (some (AObj.cells false [(ci b0_3)]))]) (d := (D.tup [])) F.ca_33 rfl rfl (ac (.one (.ref rfl)) (ac (.one .sc) (ac (LendT.aggL (ac .imm (ac .sc an))) an))) (ac (.cells (ac (.mp rfl) (ac .sc (ac .sc (ac (.ref rfl) (ac .sc an)))))) (ac .map (ac (.cells (ac .sc an)) an))) (by decide) rfl (vdisk_Disk_set_33.meets _ (⟨x6, x3, x4, (), x5⟩ : vdisk_Disk) v9 (⟨sub ((lk_vdisk_file v9 x6).b) 0 (IntKind.i64.wrap (((lk_vdisk_file v9 x6).sure) + (if (IntKind.i64.wrap ((((lk_vdisk_file v9 x6).b).length : Int) - ((lk_vdisk_file v9 x6).sure))) < v14 then (IntKind.i64.wrap ((((lk_vdisk_file v9 x6).b).length : Int) - ((lk_vdisk_file v9 x6).sure))) else v14))), IntKind.i64.wrap (((lk_vdisk_file v9 x6).sure) + (if (IntKind.i64.wrap ((((lk_vdisk_file v9 x6).b).length : Int) - ((lk_vdisk_file v9 x6).sure))) < v14 then (IntKind.i64.wrap ((((lk_vdisk_file v9 x6).b).length : Int) - ((lk_vdisk_file v9 x6).sure))) else v14))⟩ : vdisk_file) b0_3 r16 er16) (.inl rfl) rfl rfl (AWops.nil (AW.region ?_))
      refine s_binI (v := (.int .i64 (IntKind.i64.wrap (x7 + 1)))) rfl rfl rfl ?_
      refine s_move (d := (si (IntKind.i64.wrap (x7 + 1)))) rfl (AWops.nil ?_)
      exact ⟨_, ⟨69, (upd 69 (upd 69 (upd 69 (upd 69 (upd 69 topF 0 (rf 0 0)) 1 (D.one (C.p false (.sl a1.length (a1.flatMap e_i64))))) 12 (D.one (C.own 3 0 r2.length 1))) 13 (si (r2.length : Int))) 14 (si (IntKind.i64.wrap (x7 + 1)))), [(some (AObj.cells false [(C.mp 1), (ci r16.room), (ci r16.used), (C.ref 4 0), (cb r16.dead)])), (om_ e_vdisk_file r16.files), none, (ow_ e_str r2), (some (AObj.cells false [(ci b0_3)]))]⟩, by omega, (wg 3 [0, 1, 2, 4, 5] [] hx (le_upd (le_upd (le_upd (le_upd (le_upd (le_top _) (.t (.one (.ref rfl)))) (.t (.one .same))) (.t (.one (.own rfl)))) (.t (.one .sc))) (.t (.one .sc))) (ac (.cells id (ac (.mp rfl) (ac .sc (ac .sc (ac (.ref rfl) (ac .sc an)))))) (ac .map (ac (.none _) (ac (.cells (fun _ => rfl) (all2_row _)) (ac (.cells id (ac .sc an)) an)))))), by omega, r16.room, r16.used, r16.dead, r16.files, IntKind.i64.wrap (x7 + 1), h, rfl⟩
    ·refine AW.cond_no rfl c13 (AW.skip (AW.region ?_))
     refine s_move (d := (rf 0 0)) rfl ?_
     refine s_move (d := (st_ v9)) rfl ?_
     refine s_fieldRef F.fo_65_0 (by decide) rfl ?_
     refine s_load1 (c' := (C.p false (.sl ((lk_vdisk_file v9 x6).b).length (((lk_vdisk_file v9 x6).b).flatMap e_u8)))) F.ag_22 rfl rfl ?_
     refine s_move (d := (si ((lk_vdisk_file v9 x6).sure))) rfl ?_
     refine s_move (d := (si ((lk_vdisk_file v9 x6).sure))) rfl ?_
     obtain ⟨c17, h⟩ := gdH h
     have dc17 := of_decide_eq_true c17
     refine t_slice3Imm F.u_22 F.sz_5 e_u8_len rfl rfl rfl (by omega) (by omega) ?_
     refine s_move (d := (si ((lk_vdisk_file v9 x6).sure))) rfl ?_
     refine s_build (ps := [(0, (D.one (C.p false (.sl (sub ((lk_vdisk_file v9 x6).b) 0 ((lk_vdisk_file v9 x6).sure)).length ((sub ((lk_vdisk_file v9 x6).b) 0 ((lk_vdisk_file v9 x6).sure)).flatMap e_u8))))), (1, (si ((lk_vdisk_file v9 x6).sure)))]) (cs := [(C.p false (.sl (sub ((lk_vdisk_file v9 x6).b) 0 ((lk_vdisk_file v9 x6).sure)).length ((sub ((lk_vdisk_file v9 x6).b) 0 ((lk_vdisk_file v9 x6).sure)).flatMap e_u8))), (ci ((lk_vdisk_file v9 x6).sure))]) F.z_65 rfl F.so_65 rfl rfl ?_
     obtain ⟨r18, er18, h⟩ := bnd h
     refine s_call2 (ρ := [0, 1, 4]) (br := false) (H2 := [(o_vdisk_Disk_03 false (C.mp 1) (C.ref 4 0) r18), (om_ e_vdisk_file r18.files), none, (ow_ e_str r2), (some (AObj.cells false [(ci b0_3)])), (some (AObj.cells true (c_vdisk_file (lk_vdisk_file v9 x6))))]) (d := (D.tup [])) F.ca_33 rfl rfl (ac (.one (.ref rfl)) (ac (.one .sc) (ac (LendT.aggL (ac .imm (ac .sc an))) an))) (ac (.cells (ac (.mp rfl) (ac .sc (ac .sc (ac (.ref rfl) (ac .sc an)))))) (ac .map (ac (.cells (ac .sc an)) an))) (by decide) rfl (vdisk_Disk_set_33.meets _ (⟨x6, x3, x4, (), x5⟩ : vdisk_Disk) v9 (⟨sub ((lk_vdisk_file v9 x6).b) 0 ((lk_vdisk_file v9 x6).sure), (lk_vdisk_file v9 x6).sure⟩ : vdisk_file) b0_3 r18 er18) (.inl rfl) rfl rfl (AWops.nil (AW.region ?_))
     refine s_binI (v := (.int .i64 (IntKind.i64.wrap (x7 + 1)))) rfl rfl rfl ?_
     refine s_move (d := (si (IntKind.i64.wrap (x7 + 1)))) rfl (AWops.nil ?_)
     exact ⟨_, ⟨69, (upd 69 (upd 69 (upd 69 (upd 69 (upd 69 topF 0 (rf 0 0)) 1 (D.one (C.p false (.sl a1.length (a1.flatMap e_i64))))) 12 (D.one (C.own 3 0 r2.length 1))) 13 (si (r2.length : Int))) 14 (si (IntKind.i64.wrap (x7 + 1)))), [(some (AObj.cells false [(C.mp 1), (ci r18.room), (ci r18.used), (C.ref 4 0), (cb r18.dead)])), (om_ e_vdisk_file r18.files), none, (ow_ e_str r2), (some (AObj.cells false [(ci b0_3)]))]⟩, by omega, (wg 3 [0, 1, 2, 3, 4] [] hx (le_upd (le_upd (le_upd (le_upd (le_upd (le_top _) (.t (.one (.ref rfl)))) (.t (.one .same))) (.t (.one (.own rfl)))) (.t (.one .sc))) (.t (.one .sc))) (ac (.cells id (ac (.mp rfl) (ac .sc (ac .sc (ac (.ref rfl) (ac .sc an)))))) (ac .map (ac (.none _) (ac (.cells (fun _ => rfl) (all2_row _)) (ac (.cells id (ac .sc an)) an)))))), by omega, r18.room, r18.used, r18.dead, r18.files, IntKind.i64.wrap (x7 + 1), h, rfl⟩
   ·iterate 5 refine AWops.guard_no rfl (nl rfl) rfl c11 ?_
    refine s_pick_no (d := (sb false)) rfl c11 rfl (AWops.nil ?_)
    refine AW.cond_no rfl rfl (AW.skip (AW.region ?_))
    refine s_move (d := (rf 0 0)) rfl ?_
    refine s_move (d := (st_ v9)) rfl ?_
    refine s_fieldRef F.fo_65_0 (by decide) rfl ?_
    refine s_load1 (c' := (C.p false (.sl ((lk_vdisk_file v9 x6).b).length (((lk_vdisk_file v9 x6).b).flatMap e_u8)))) F.ag_22 rfl rfl ?_
    refine s_move (d := (si ((lk_vdisk_file v9 x6).sure))) rfl ?_
    refine s_move (d := (si ((lk_vdisk_file v9 x6).sure))) rfl ?_
    obtain ⟨c19, h⟩ := gdH h
    have dc19 := of_decide_eq_true c19
    refine t_slice3Imm F.u_22 F.sz_5 e_u8_len rfl rfl rfl (by omega) (by omega) ?_
    refine s_move (d := (si ((lk_vdisk_file v9 x6).sure))) rfl ?_
    refine s_build (ps := [(0, (D.one (C.p false (.sl (sub ((lk_vdisk_file v9 x6).b) 0 ((lk_vdisk_file v9 x6).sure)).length ((sub ((lk_vdisk_file v9 x6).b) 0 ((lk_vdisk_file v9 x6).sure)).flatMap e_u8))))), (1, (si ((lk_vdisk_file v9 x6).sure)))]) (cs := [(C.p false (.sl (sub ((lk_vdisk_file v9 x6).b) 0 ((lk_vdisk_file v9 x6).sure)).length ((sub ((lk_vdisk_file v9 x6).b) 0 ((lk_vdisk_file v9 x6).sure)).flatMap e_u8))), (ci ((lk_vdisk_file v9 x6).sure))]) F.z_65 rfl F.so_65 rfl rfl ?_
    obtain ⟨r20, er20, h⟩ := bnd h
    refine s_call2 (ρ := [0, 1, 4]) (br := false) (H2 := [(o_vdisk_Disk_03 false (C.mp 1) (C.ref 4 0) r20), (om_ e_vdisk_file r20.files), none, (ow_ e_str r2), (some (AObj.cells false [(ci b0_3)])), (some (AObj.cells true (c_vdisk_file (lk_vdisk_file v9 x6))))]) (d := (D.tup [])) F.ca_33 rfl rfl (ac (.one (.ref rfl)) (ac (.one .sc) (ac (LendT.aggL (ac .imm (ac .sc an))) an))) (ac (.cells (ac (.mp rfl) (ac .sc (ac .sc (ac (.ref rfl) (ac .sc an)))))) (ac .map (ac (.cells (ac .sc an)) an))) (by decide) rfl (vdisk_Disk_set_33.meets _ (⟨x6, x3, x4, (), x5⟩ : vdisk_Disk) v9 (⟨sub ((lk_vdisk_file v9 x6).b) 0 ((lk_vdisk_file v9 x6).sure), (lk_vdisk_file v9 x6).sure⟩ : vdisk_file) b0_3 r20 er20) (.inl rfl) rfl rfl (AWops.nil (AW.region ?_))
    refine s_binI (v := (.int .i64 (IntKind.i64.wrap (x7 + 1)))) rfl rfl rfl ?_
    refine s_move (d := (si (IntKind.i64.wrap (x7 + 1)))) rfl (AWops.nil ?_)
    exact ⟨_, ⟨69, (upd 69 (upd 69 (upd 69 (upd 69 (upd 69 topF 0 (rf 0 0)) 1 (D.one (C.p false (.sl a1.length (a1.flatMap e_i64))))) 12 (D.one (C.own 3 0 r2.length 1))) 13 (si (r2.length : Int))) 14 (si (IntKind.i64.wrap (x7 + 1)))), [(some (AObj.cells false [(C.mp 1), (ci r20.room), (ci r20.used), (C.ref 4 0), (cb r20.dead)])), (om_ e_vdisk_file r20.files), none, (ow_ e_str r2), (some (AObj.cells false [(ci b0_3)]))]⟩, by omega, (wg 3 [0, 1, 2, 3, 4] [] hx (le_upd (le_upd (le_upd (le_upd (le_upd (le_top _) (.t (.one (.ref rfl)))) (.t (.one .same))) (.t (.one (.own rfl)))) (.t (.one .sc))) (.t (.one .sc))) (ac (.cells id (ac (.mp rfl) (ac .sc (ac .sc (ac (.ref rfl) (ac .sc an)))))) (ac .map (ac (.none _) (ac (.cells (fun _ => rfl) (all2_row _)) (ac (.cells id (ac .sc an)) an)))))), by omega, r20.room, r20.used, r20.dead, r20.files, IntKind.i64.wrap (x7 + 1), h, rfl⟩
  ·refine AW.cond_no rfl c8 (AW.exit (AW.seq (AW.region ?_)))
   refine s_move (d := (rf 0 0)) rfl ?_
   refine s_move (d := (rf 0 0)) rfl ?_
   refine s_nilCheck (d := (rf 0 0)) rfl (.inl ⟨_, _, rfl⟩) ?_
   refine s_fieldRef F.fo_50_4 (by decide) rfl ?_
   refine s_store (cs' := [(C.mp 1), (ci x3), (ci x4), (C.ref 4 0), (cb false)]) rfl rfl rfl (List.cons_ne_nil _ _) rfl F.sz_4 (nl rfl) rfl ?_
   refine s_nilCheck (d := (rf 0 0)) rfl (.inl ⟨_, _, rfl⟩) ?_
   refine s_fieldRef F.fo_50_3 (by decide) rfl ?_
   refine s_store (cs' := [(C.mp 1), (ci x3), (ci x4), (C.p true (.v (.pointer none))), (cb false)]) rfl rfl rfl (List.cons_ne_nil _ _) rfl F.sz_48 (nl rfl) rfl (AWops.nil (AW.seq (AW.region ?_)))
   refine s_assign (d := (si 0)) rfl (AWops.nil (AW.ret ?_))
   obtain rfl := Option.some.inj h
   exact ⟨_, rfl, (wg 3 [0, 1, 2] [] rfl (le_upd (le_top _) (.t (.one .sc))) (ac (.cells id (ac (.mp rfl) (ac .sc (ac .sc (ac .sc (ac .sc an)))))) (ac .map (ac (.none _) an))))⟩
def vdisk_Disk_Room_22.f (k : Nat) (p0 : vdisk_Disk) (a1 : Int) (p2 : Int) : Option (Int × vdisk_Disk) := (vdisk_Disk_none_35.f k p0 p2).bind fun r1 => if (decide (a1 < 0)) = true then (some (1, p0)) else (if (decide (a1 > 4194304)) = true then (some (1, p0)) else (some (0, (⟨p0.files, a1, p0.used, (), p0.dead⟩ : vdisk_Disk))))
theorem vdisk_Disk_Room_22.meets (k : Nat) (p0 : vdisk_Disk) (a1 : Int) (p2 : Int) (r : Int × vdisk_Disk) (h : vdisk_Disk_Room_22.f k p0 a1 p2 = some r) : Meets Try.prog 22 [(rf 0 0), (si a1)] [(o_vdisk_Disk_03 false (C.mp 1) (C.ref 2 0) p0), (om_ e_vdisk_file p0.files), (some (AObj.cells false [(ci p2)]))] (si r.1) [(o_vdisk_Disk_03 false (C.mp 1) (C.ref 2 0) r.2), (om_ e_vdisk_file r.2.files), (some (AObj.cells false [(ci p2)]))] := by
 unfold vdisk_Disk_Room_22.f at h
 refine Meets.of_body (n := 19) Try.func22 rfl rfl (nl rfl) fun x hx => ?_
 replace hx : x.k = 3 := hx
 show AW _ x _ _ ⟨19, fr0 [(rf 0 0), (si a1)], [(o_vdisk_Disk_03 false (C.mp 1) (C.ref 2 0) p0), (om_ e_vdisk_file p0.files), (some (AObj.cells false [(ci p2)]))]⟩
 refine AW.seq (AW.region ?_)
 refine s_assign (d := (si 0)) rfl (AWops.nil (AW.seq (AW.block (AW.seq (AW.region ?_)))))
 refine s_move (d := (rf 0 0)) rfl ?_
 obtain ⟨r1, er1, h⟩ := bnd h
 have kr1 := vdisk_Disk_none_35.const er1
 subst kr1
 refine s_call2 (ρ := [0, 1, 2]) (br := false) (H2 := [(o_vdisk_Disk_03 false (C.mp 1) (C.ref 2 0) p0), (om_ e_vdisk_file p0.files), (some (AObj.cells false [(ci p2)]))]) (d := (sb false)) F.ca_35 rfl rfl (ac (.one (.ref rfl)) an) (ac (.cells (ac (.mp rfl) (ac .sc (ac .sc (ac (.ref rfl) (ac .sc an)))))) (ac .map (ac (.cells (ac .sc an)) an))) (by decide) rfl (vdisk_Disk_none_35.meets _ p0 p2 false er1) (.inl rfl) rfl rfl ?_
 refine s_assign (d := (sb false)) rfl (AWops.nil ?_)
 refine AW.cond_no rfl rfl (AW.seq (AW.region ?_))
 refine s_move (d := (si a1)) rfl ?_
 refine s_binI (v := (.bool (decide (a1 < 0)))) rfl rfl rfl ?_
 refine s_move (d := (sb (decide (a1 < 0)))) rfl ?_
 rcases itH h with ⟨c2, h⟩ | ⟨c2, h⟩
 ·refine AWops.guard_no rfl (nl rfl) rfl c2 ?_
  refine AWops.guard_no rfl (nl rfl) rfl c2 ?_
  refine s_pick_yes (d := (sb true)) rfl c2 rfl ?_
  refine s_assign (d := (sb true)) rfl (AWops.nil ?_)
  refine AW.cond_yes rfl rfl (AW.seq (AW.region ?_))
  refine s_assign (d := (si 1)) rfl (AWops.nil (AW.ret ?_))
  obtain rfl := Option.some.inj h
  exact ⟨_, rfl, (wg 3 [0, 1, 2] [] rfl (le_upd (le_top _) (.t (.one .sc))) (ac (.cells id (ac (.mp rfl) (ac .sc (ac .sc (ac (.ref rfl) (ac .sc an)))))) (ac .map (ac (.cells id (ac .sc an)) an))))⟩
 ·refine AWops.guard_yes rfl (nl rfl) rfl c2 ?_
  refine s_move (d := (si a1)) rfl ?_
  refine AWops.guard_yes rfl (nl rfl) rfl c2 ?_
  refine s_binI (v := (.bool (decide (a1 > 4194304)))) rfl rfl rfl ?_
  refine s_pick_no (d := (sb (decide (a1 > 4194304)))) rfl c2 rfl ?_
  refine s_assign (d := (sb (decide (a1 > 4194304)))) rfl (AWops.nil ?_)
  rcases itH h with ⟨c3, h⟩ | ⟨c3, h⟩
  ·refine AW.cond_yes rfl c3 (AW.seq (AW.region ?_))
   refine s_assign (d := (si 1)) rfl (AWops.nil (AW.ret ?_))
   obtain rfl := Option.some.inj h
   exact ⟨_, rfl, (wg 3 [0, 1, 2] [] rfl (le_upd (le_top _) (.t (.one .sc))) (ac (.cells id (ac (.mp rfl) (ac .sc (ac .sc (ac (.ref rfl) (ac .sc an)))))) (ac .map (ac (.cells id (ac .sc an)) an))))⟩
  ·refine AW.cond_no rfl c3 (AW.skip (AW.seq (AW.region ?_)))
   refine s_move (d := (rf 0 0)) rfl ?_
   refine s_move (d := (si a1)) rfl ?_
   refine s_nilCheck (d := (rf 0 0)) rfl (.inl ⟨_, _, rfl⟩) ?_
   refine s_fieldRef F.fo_50_1 (by decide) rfl ?_
   refine s_store (cs' := [(C.mp 1), (ci a1), (ci p0.used), (C.ref 2 0), (cb p0.dead)]) rfl rfl rfl (List.cons_ne_nil _ _) rfl F.sz_3 (nl rfl) rfl (AWops.nil (AW.seq (AW.region ?_)))
   refine s_assign (d := (si 0)) rfl (AWops.nil (AW.ret ?_))
   obtain rfl := Option.some.inj h
   exact ⟨_, rfl, (wg 3 [0, 1, 2] [] rfl (le_upd (le_top _) (.t (.one .sc))) (ac (.cells id (ac (.mp rfl) (ac .sc (ac .sc (ac (.ref rfl) (ac .sc an)))))) (ac .map (ac (.cells id (ac .sc an)) an))))⟩
mutual
def dossierplain_Step_Do_16xx.j0 : Nat → Bool → dossierplain_Step → vdisk_Disk → Int → dossierref03_Disk → Option (Bool × vdisk_Disk × dossierref03_Disk × (Option Int))
 | 0, _, _, _, _, _ => none
 | k + 1, x2, a0, p0, b0_3, p1 => if x2 = true then ((bytes_Clone.f k a0.B).bind fun r4 => (vdisk_Disk_Append_9x.f k p0 a0.Name r4 b0_3).bind fun r5 => (dossierplain_Spoil.f k () r4).bind fun r6 => (dossierref03_Disk_Append_38.f k p1 a0.Name a0.B).bind fun r7 => some ((r5.1 == r7.1), r5.2.1, r7.2, some r5.2.2)) else (if ((IntKind.i64.wrap (Int.tmod (IntKind.u64.wrap a0.Op) 9)) == 2) = true then ((vdisk_Disk_Sync_10.f k p0 a0.Name b0_3).bind fun r9 => (dossierref03_Disk_Sync_39.f k p1 a0.Name).bind fun r10 => some ((r9.1 == r10.1), r9.2.1, r10.2, some r9.2.2)) else (if ((IntKind.i64.wrap (Int.tmod (IntKind.u64.wrap a0.Op) 9)) == 3) = true then ((vdisk_Disk_Rename_18.f k p0 a0.Name a0.To b0_3).bind fun r12 => (dossierref03_Disk_Rename_40.f k p1 a0.Name a0.To).bind fun r13 => some ((r12.1 == r13.1), r12.2.1, r13.2, some r12.2.2)) else (if ((IntKind.i64.wrap (Int.tmod (IntKind.u64.wrap a0.Op) 9)) == 4) = true then ((vdisk_Disk_Truncate_19.f k p0 a0.Name a0.N b0_3).bind fun r15 => (dossierref03_Disk_Truncate_41.f k p1 a0.Name a0.N).bind fun r16 => some ((r15.1 == r16.1), r15.2.1, r16.2, some r15.2.2)) else (if ((IntKind.i64.wrap (Int.tmod (IntKind.u64.wrap a0.Op) 9)) == 5) = true then ((vdisk_Disk_Remove_20.f k p0 a0.Name b0_3).bind fun r18 => (dossierref03_Disk_Remove_42.f k p1 a0.Name).bind fun r19 => some ((r18.1 == r19.1), r18.2.1, r19.2, some r18.2.2)) else (if ((IntKind.i64.wrap (Int.tmod (IntKind.u64.wrap a0.Op) 9)) == 6) = true then ((vdisk_Disk_Fuse_21x.f k p0 b0_3 a0.N).bind fun r21 => (dossierref03_Disk_Fuse.f k p1 a0.N).bind fun r22 => some ((r21.1 == r22.1), r21.2.1, r22.2, some r21.2.2)) else (if ((IntKind.i64.wrap (Int.tmod (IntKind.u64.wrap a0.Op) 9)) == 7) = true then ((dossierref03_Disk_Crash_44.f k p1 a0.Keeps).bind fun r24 => (vdisk_Disk_Crash_11x.f k p0 b0_3 a0.Keeps).bind fun r25 => some ((r25.1 == 0), r25.2, r24, (none : Option Int))) else ((vdisk_Disk_Room_22.f k p0 a0.N b0_3).bind fun r26 => (dossierref03_Disk_Room.f k p1 a0.N).bind fun r27 => some ((r26.1 == r27.1), r26.2, r27.2, some b0_3))))))))
end
def dossierplain_Step_Do_16xx.f (k : Nat) (a0 : dossierplain_Step) (p0 : vdisk_Disk) (b0_3 : Int) (p1 : dossierref03_Disk) : Option (Bool × vdisk_Disk × dossierref03_Disk × (Option Int)) := if ((IntKind.i64.wrap (Int.tmod (IntKind.u64.wrap a0.Op) 9)) == 0) = true then (dossierplain_Step_Do_16xx.j0 k ((IntKind.i64.wrap (Int.tmod (IntKind.u64.wrap a0.Op) 9)) == 0) a0 p0 b0_3 p1) else (dossierplain_Step_Do_16xx.j0 k ((IntKind.i64.wrap (Int.tmod (IntKind.u64.wrap a0.Op) 9)) == 1) a0 p0 b0_3 p1)
theorem dossierplain_Step_Do_16xx.meets (k : Nat) (a0 : dossierplain_Step) (p0 : vdisk_Disk) (b0_3 : Int) (p1 : dossierref03_Disk) (r : Bool × vdisk_Disk × dossierref03_Disk × (Option Int)) (h : dossierplain_Step_Do_16xx.f k a0 p0 b0_3 p1 = some r) : Meets Try.prog 16 [(D.agg (c_dossierplain_Step a0)), (rf 0 0), (rf 1 0)] [(o_vdisk_Disk_03 false (C.mp 2) (C.ref 3 0) p0), (o_dossierref03_Disk_0 false (C.own 4 0 p1.L.length 3) p1), (om_ e_vdisk_file p0.files), (some (AObj.cells false [(ci b0_3)])), (or_ e_dossierref03_File p1.L)] (optE r.2.2.2 (sb r.1) (fun z1 : Int => (sb r.1))) (optE r.2.2.2 [(o_vdisk_Disk_03 false (C.mp 2) (C.p true (.v (.pointer none))) r.2.1), (o_dossierref03_Disk_0 false (C.own 5 0 r.2.2.1.L.length 3) r.2.2.1), (om_ e_vdisk_file r.2.1.files), none, none, (or_ e_dossierref03_File r.2.2.1.L)] (fun z1 : Int => [(o_vdisk_Disk_03 false (C.mp 2) (C.ref 5 0) r.2.1), (o_dossierref03_Disk_0 false (C.own 6 0 r.2.2.1.L.length 3) r.2.2.1), (om_ e_vdisk_file r.2.1.files), none, none, (some (AObj.cells false [(ci z1)])), (or_ e_dossierref03_File r.2.2.1.L)])) := by
 unfold dossierplain_Step_Do_16xx.f at h
 refine Meets.of_body (n := 119) Try.func16 rfl rfl (nl rfl) fun x hx => ?_
 replace hx : x.k = 5 := hx
 show AW _ x _ _ ⟨119, fr0 [(D.agg (c_dossierplain_Step a0)), (rf 0 0), (rf 1 0)], [(o_vdisk_Disk_03 false (C.mp 2) (C.ref 3 0) p0), (o_dossierref03_Disk_0 false (C.own 4 0 p1.L.length 3) p1), (om_ e_vdisk_file p0.files), (some (AObj.cells false [(ci b0_3)])), (or_ e_dossierref03_File p1.L)]⟩
 refine AW.weak (st' := ⟨119, (upd 119 (upd 119 (upd 119 topF 0 (D.agg (c_dossierplain_Step a0))) 1 (rf 0 0)) 2 (rf 1 0)), [(o_vdisk_Disk_03 false (C.mp 2) (C.ref 5 0) p0), (o_dossierref03_Disk_0 false (C.own 6 0 p1.L.length 3) p1), (om_ e_vdisk_file p0.files), none, none, (some (AObj.cells false [(ci b0_3)])), (or_ e_dossierref03_File p1.L)]⟩) (Weak.genL (kk := 5) [0, 1, 2, 3, 4, 3, 4] [] hx rfl (by decide) rfl rfl rfl rfl (le_upd (le_upd (le_upd (le_top _) (.t (.agg (ac .sc (ac .sc (ac .sc (ac .sc (ac .same (ac .same an))))))))) (.t (.one (.ref rfl)))) (.t (.one (.ref rfl)))) (ac (.cells id (ac (.mp rfl) (ac .sc (ac .sc (ac (.ref rfl) (ac .sc an)))))) (ac (.cells id (ac (.own rfl) (ac .sc (ac .sc (ac .sc an))))) (ac .map (ac (.none _) (ac (.none _) (ac (.cells id (ac .sc an)) (ac (.cells id (all2_row _)) an)))))))) (AW.seq (AW.region ?_))
 refine s_box (cs := (c_dossierplain_Step a0)) rfl (List.cons_ne_nil _ _) rfl ?_
 refine s_assign (d := (sb false)) rfl (AWops.nil (AW.seq (AW.seq (AW.region ?_))))
 refine s_fieldRef F.fo_43_0 (by decide) rfl ?_
 refine s_load1 (c' := (ci a0.Op)) F.ag_3 rfl rfl ?_
 refine s_convI F.u_3 F.u_38 rfl ?_
 refine s_binI (v := (.int .u64 (Int.tmod (IntKind.u64.wrap a0.Op) 9))) rfl rfl rfl ?_
 refine s_convI F.u_38 F.u_3 rfl (AWops.nil (AW.block ?_))
 refine AW.seqJ (fun st => ∃ (x2 : Bool), dossierplain_Step_Do_16xx.j0 k x2 a0 p0 b0_3 p1 = some r ∧ st = ⟨119, (upd 119 (upd 119 (upd 119 (upd 119 (upd 119 topF 1 (rf 0 0)) 2 (rf 1 0)) 3 (rf 5 0)) 13 (si (IntKind.i64.wrap (Int.tmod (IntKind.u64.wrap a0.Op) 9)))) 14 (sb x2)), [(o_vdisk_Disk_03 false (C.mp 2) (C.ref 6 0) p0), (o_dossierref03_Disk_0 false (C.own 7 0 p1.L.length 3) p1), (om_ e_vdisk_file p0.files), none, none, (some (AObj.cells true (c_dossierplain_Step a0))), (some (AObj.cells false [(ci b0_3)])), (or_ e_dossierref03_File p1.L)]⟩) ?_ ?_
 ·refine AW.seq (AW.region ?_)
  refine s_binI (v := (.bool ((IntKind.i64.wrap (Int.tmod (IntKind.u64.wrap a0.Op) 9)) == 0))) rfl rfl rfl ?_
  refine s_assign (d := (sb ((IntKind.i64.wrap (Int.tmod (IntKind.u64.wrap a0.Op) 9)) == 0))) rfl (AWops.nil ?_)
  rcases itH h with ⟨c1, h⟩ | ⟨c1, h⟩
  ·refine AW.cond_yes rfl c1 (AW.skip ?_)
   exact ⟨⟨119, (upd 119 (upd 119 (upd 119 (upd 119 (upd 119 topF 1 (rf 0 0)) 2 (rf 1 0)) 3 (rf 5 0)) 13 (si (IntKind.i64.wrap (Int.tmod (IntKind.u64.wrap a0.Op) 9)))) 14 (sb ((IntKind.i64.wrap (Int.tmod (IntKind.u64.wrap a0.Op) 9)) == 0))), [(o_vdisk_Disk_03 false (C.mp 2) (C.ref 6 0) p0), (o_dossierref03_Disk_0 false (C.own 7 0 p1.L.length 3) p1), (om_ e_vdisk_file p0.files), none, none, (some (AObj.cells true (c_dossierplain_Step a0))), (some (AObj.cells false [(ci b0_3)])), (or_ e_dossierref03_File p1.L)]⟩, (wg 5 [0, 1, 2, 3, 4, 7, 5, 6] [] hx (le_upd (le_upd (le_upd (le_upd (le_upd (le_top _) (.t (.one (.ref rfl)))) (.t (.one (.ref rfl)))) (.t (.one (.ref rfl)))) (.t (.one .sc))) (.t (.one .sc))) (ac (.cells id (ac (.mp rfl) (ac .sc (ac .sc (ac (.ref rfl) (ac .sc an)))))) (ac (.cells id (ac (.own rfl) (ac .sc (ac .sc (ac .sc an))))) (ac .map (ac (.none _) (ac (.none _) (ac (.cells (fun _ => rfl) (ac .sc (ac .sc (ac .sc (ac .sc (ac .same (ac .same an))))))) (ac (.cells id (ac .sc an)) (ac (.cells id (all2_row _)) an))))))))), ((IntKind.i64.wrap (Int.tmod (IntKind.u64.wrap a0.Op) 9)) == 0), h, rfl⟩
  ·refine AW.cond_no rfl c1 (AW.region ?_)
   refine s_binI (v := (.bool ((IntKind.i64.wrap (Int.tmod (IntKind.u64.wrap a0.Op) 9)) == 1))) rfl rfl rfl ?_
   refine s_assign (d := (sb ((IntKind.i64.wrap (Int.tmod (IntKind.u64.wrap a0.Op) 9)) == 1))) rfl (AWops.nil ?_)
   exact ⟨⟨119, (upd 119 (upd 119 (upd 119 (upd 119 (upd 119 topF 1 (rf 0 0)) 2 (rf 1 0)) 3 (rf 5 0)) 13 (si (IntKind.i64.wrap (Int.tmod (IntKind.u64.wrap a0.Op) 9)))) 14 (sb ((IntKind.i64.wrap (Int.tmod (IntKind.u64.wrap a0.Op) 9)) == 1))), [(o_vdisk_Disk_03 false (C.mp 2) (C.ref 6 0) p0), (o_dossierref03_Disk_0 false (C.own 7 0 p1.L.length 3) p1), (om_ e_vdisk_file p0.files), none, none, (some (AObj.cells true (c_dossierplain_Step a0))), (some (AObj.cells false [(ci b0_3)])), (or_ e_dossierref03_File p1.L)]⟩, (wg 5 [0, 1, 2, 3, 4, 7, 5, 6] [] hx (le_upd (le_upd (le_upd (le_upd (le_upd (le_top _) (.t (.one (.ref rfl)))) (.t (.one (.ref rfl)))) (.t (.one (.ref rfl)))) (.t (.one .sc))) (.t (.one .sc))) (ac (.cells id (ac (.mp rfl) (ac .sc (ac .sc (ac (.ref rfl) (ac .sc an)))))) (ac (.cells id (ac (.own rfl) (ac .sc (ac .sc (ac .sc an))))) (ac .map (ac (.none _) (ac (.none _) (ac (.cells (fun _ => rfl) (ac .sc (ac .sc (ac .sc (ac .sc (ac .same (ac .same an))))))) (ac (.cells id (ac .sc an)) (ac (.cells id (all2_row _)) an))))))))), ((IntKind.i64.wrap (Int.tmod (IntKind.u64.wrap a0.Op) 9)) == 1), h, rfl⟩
 ·rintro st ⟨x2, h, rfl⟩
  cases k with
  | zero => exact absurd h (by simp [dossierplain_Step_Do_16xx.j0])
  | succ qj0 =>
   replace h := (dossierplain_Step_Do_16xx.j0.eq_2 _ _ _ _ _ _).symm.trans h
   rcases itH h with ⟨c3, h⟩ | ⟨c3, h⟩
   ·refine AW.cond_yes rfl c3 (AW.seq (AW.region ?_))
    refine s_fieldRef F.fo_43_4 (by decide) rfl ?_
    refine s_load1 (c' := (C.p false (.sl a0.B.length (a0.B.flatMap e_u8)))) F.ag_22 rfl rfl ?_
    obtain ⟨r4, er4, h⟩ := bnd h
    refine s_call2 (ρ := []) (br := false) (H2 := [(o_vdisk_Disk_03 false (C.mp 2) (C.ref 6 0) p0), (o_dossierref03_Disk_0 false (C.own 7 0 p1.L.length 3) p1), (om_ e_vdisk_file p0.files), none, none, (some (AObj.cells true (c_dossierplain_Step a0))), (some (AObj.cells false [(ci b0_3)])), (or_ e_dossierref03_File p1.L), (ow_ e_u8 r4)]) (d := (D.one (C.own 8 0 r4.length 1))) F.ca_37 rfl rfl (ac (.one .imm) an) an (by decide) rfl (bytes_Clone.meets _ a0.B r4 er4) (.inl rfl) (by first | rfl | (simp only [mS]; done) | (simp only [mS]; rfl)) rfl ?_
    refine s_assign (d := (D.one (C.own 8 0 r4.length 1))) rfl (AWops.nil (AW.seq (AW.region ?_)))
    refine s_move (d := (rf 0 0)) rfl ?_
    refine s_fieldRef F.fo_43_2 (by decide) rfl ?_
    refine s_load1 (c' := (ct a0.Name)) F.ag_9 rfl rfl ?_
    refine s_move (d := (D.one (C.own 8 0 r4.length 1))) rfl ?_
    obtain ⟨r5, er5, h⟩ := bnd h
    refine s_call2 (ρ := [0, 8, 2, 6]) (br := false) (H2 := [(o_vdisk_Disk_03 false (C.mp 2) (C.ref 6 0) r5.2.1), (o_dossierref03_Disk_0 false (C.own 7 0 p1.L.length 3) p1), (om_ e_vdisk_file r5.2.1.files), none, none, (some (AObj.cells true (c_dossierplain_Step a0))), (some (AObj.cells false [(ci r5.2.2)])), (or_ e_dossierref03_File p1.L), (ow_ e_u8 r4)]) (d := (si r5.1)) F.ca_9 rfl rfl (ac (.one (.ref rfl)) (ac (.one .sc) (ac (.one (.own rfl)) an))) (ac (.cells (ac (.mp rfl) (ac .sc (ac .sc (ac (.ref rfl) (ac .sc an)))))) (ac (.cells (lend_row _)) (ac .map (ac (.cells (ac .sc an)) an)))) (by decide) rfl (vdisk_Disk_Append_9x.meets _ p0 a0.Name r4 b0_3 r5 er5) (.inl rfl) (by first | rfl | (simp only [mS]; done) | (simp only [mS]; rfl)) rfl ?_
    refine s_assign (d := (si r5.1)) rfl (AWops.nil (AW.seq (AW.region ?_)))
    refine s_move (d := (D.one (C.own 8 0 r4.length 1))) rfl ?_
    refine s_buildSlice (n := 1) (ps := [(0, (D.one (C.own 8 0 r4.length 1)))]) (cs := [(C.own 8 0 r4.length 1)]) F.u_23 F.sz_22 F.z_22 rfl rfl (by decide) (by decide) rfl rfl ?_
    obtain ⟨r6, er6, h⟩ := bnd h
    refine s_call2 (ρ := [9, 8]) (br := false) (H2 := [(o_vdisk_Disk_03 false (C.mp 2) (C.ref 6 0) r5.2.1), (o_dossierref03_Disk_0 false (C.own 7 0 p1.L.length 3) p1), (om_ e_vdisk_file r5.2.1.files), none, none, (some (AObj.cells true (c_dossierplain_Step a0))), (some (AObj.cells false [(ci r5.2.2)])), (or_ e_dossierref03_File p1.L), (ow_ e_u8 r6), (some (AObj.cells true [(C.own 8 0 r6.length 1)]))]) (d := (D.tup [])) F.ca_29 rfl rfl (ac (.one (.own rfl)) an) (ac (.cells (ac (.own rfl) an)) (ac (.cells (lend_row _)) an)) (by decide) rfl (dossierplain_Spoil.meets _ () r4 r6 er6) (.inl rfl) (by first | rfl | (simp only [mS]; done) | (simp only [mS]; rfl)) rfl (AWops.nil (AW.seq (AW.region ?_)))
    refine s_move (d := (si r5.1)) rfl ?_
    refine s_move (d := (rf 1 0)) rfl ?_
    refine s_fieldRef F.fo_43_2 (by decide) rfl ?_
    refine s_load1 (c' := (ct a0.Name)) F.ag_9 rfl rfl ?_
    refine s_fieldRef F.fo_43_4 (by decide) rfl ?_
    refine s_load1 (c' := (C.p false (.sl a0.B.length (a0.B.flatMap e_u8)))) F.ag_22 rfl rfl ?_
    obtain ⟨r7, er7, h⟩ := bnd h
    refine s_call2 (ρ := [1, 7]) (br := false) (H2 := [(o_vdisk_Disk_03 false (C.mp 2) (C.ref 6 0) r5.2.1), (o_dossierref03_Disk_0 false (C.own 10 0 r7.2.L.length 3) r7.2), (om_ e_vdisk_file r5.2.1.files), none, none, (some (AObj.cells true (c_dossierplain_Step a0))), (some (AObj.cells false [(ci r5.2.2)])), none, (ow_ e_u8 r6), (some (AObj.cells true [(C.own 8 0 r6.length 1)])), (or_ e_dossierref03_File r7.2.L)]) (d := (si r7.1)) F.ca_38 rfl rfl (ac (.one (.ref rfl)) (ac (.one .sc) (ac (.one .imm) an))) (ac (.cells (ac (.own rfl) (ac .sc (ac .sc (ac .sc an))))) (ac (.cells (lend_row _)) an)) (by decide) rfl (dossierref03_Disk_Append_38.meets _ p1 a0.Name a0.B r7 er7) (.inl rfl) (by first | rfl | (simp only [mS]; done) | (simp only [mS]; rfl)) rfl ?_
    refine s_binI (v := (.bool (r5.1 == r7.1))) rfl rfl rfl ?_
    refine s_assign (d := (sb (r5.1 == r7.1))) rfl (AWops.nil (AW.ret ?_))
    obtain rfl := Option.some.inj h
    exact ⟨_, rfl, (wg 5 [0, 1, 2, 3, 4, 6, 10] [] rfl (le_upd (le_top _) (.t (.one .sc))) (ac (.cells id (ac (.mp rfl) (ac .sc (ac .sc (ac (.ref rfl) (ac .sc an)))))) (ac (.cells id (ac (.own rfl) (ac .sc (ac .sc (ac .sc an))))) (ac .map (ac (.none _) (ac (.none _) (ac (.cells id (ac .sc an)) (ac (.cells id (all2_row _)) an))))))))⟩
   ·refine AW.cond_no rfl c3 (AW.seq (AW.region ?_))
    refine s_binI (v := (.bool ((IntKind.i64.wrap (Int.tmod (IntKind.u64.wrap a0.Op) 9)) == 2))) rfl rfl rfl ?_
    refine s_assign (d := (sb ((IntKind.i64.wrap (Int.tmod (IntKind.u64.wrap a0.Op) 9)) == 2))) rfl (AWops.nil ?_)
    rcases itH h with ⟨c8, h⟩ | ⟨c8, h⟩
    ·refine AW.cond_yes rfl c8 (AW.seq ?_)
     refine AW.weak (st' := ⟨119, (upd 119 (upd 119 (upd 119 topF 1 (rf 0 0)) 2 (rf 1 0)) 3 (rf 5 0)), [(o_vdisk_Disk_03 false (C.mp 2) (C.ref 6 0) p0), (o_dossierref03_Disk_0 false (C.own 7 0 p1.L.length 3) p1), (om_ e_vdisk_file p0.files), none, none, (some (AObj.cells true (c_dossierplain_Step a0))), (some (AObj.cells false [(ci b0_3)])), (or_ e_dossierref03_File p1.L)]⟩) (wg 5 [0, 1, 2, 3, 4, 5, 6, 7] [] hx (le_upd (le_upd (le_upd (le_top _) (.t (.one (.ref rfl)))) (.t (.one (.ref rfl)))) (.t (.one (.ref rfl)))) (ac (.cells id (ac (.mp rfl) (ac .sc (ac .sc (ac (.ref rfl) (ac .sc an)))))) (ac (.cells id (ac (.own rfl) (ac .sc (ac .sc (ac .sc an))))) (ac .map (ac (.none _) (ac (.none _) (ac (.cells (fun _ => rfl) (ac .sc (ac .sc (ac .sc (ac .sc (ac .same (ac .same an))))))) (ac (.cells id (ac .sc an)) (ac (.cells id (all2_row _)) an))))))))) ?_
     obtain ⟨r9, er9, h⟩ := bnd h
     obtain ⟨r10, er10, h⟩ := bnd h
     refine AW.draw (n := 119) (L := 10) [(ft 0 38 (rf 0 0) [(1, (rf 0 0))]), (ft 1 39 (rf 5 2) [(3, (rf 5 0))]), (2, ⟨some 40, (st_ a0.Name), [(39, (rf 5 2))], [(5, (some (AObj.cells true (c_dossierplain_Step a0))))], [], none⟩), (3, ⟨some 41, (si r9.1), [(38, (rf 0 0)), (40, (st_ a0.Name))], [(0, (o_vdisk_Disk_03 false (C.mp 2) (C.ref 6 0) p0)), (2, (om_ e_vdisk_file p0.files)), (6, (some (AObj.cells false [(ci b0_3)])))], [(0, (o_vdisk_Disk_03 false (C.mp 2) (C.ref 6 0) r9.2.1)), (2, (om_ e_vdisk_file r9.2.1.files)), (6, (some (AObj.cells false [(ci r9.2.2)])))], none⟩), (ft 4 42 (rf 1 0) [(2, (rf 1 0))]), (ft 5 43 (rf 5 2) [(3, (rf 5 0))]), (6, ⟨some 44, (st_ a0.Name), [(43, (rf 5 2))], [(5, (some (AObj.cells true (c_dossierplain_Step a0))))], [], none⟩), (7, ⟨some 45, (si r10.1), [(42, (rf 1 0)), (44, (st_ a0.Name))], [(1, (o_dossierref03_Disk_0 false (C.own 7 0 p1.L.length 3) p1)), (7, (or_ e_dossierref03_File p1.L))], [(1, (o_dossierref03_Disk_0 false (C.own 9 0 r10.2.L.length 3) r10.2)), (7, none), (9, (or_ e_dossierref03_File r10.2.L))], some 9⟩), (ft 8 46 (sb (r9.1 == r10.1)) [(41, (si r9.1)), (45, (si r10.1))]), (ft 9 6 (sb (r9.1 == r10.1)) [(46, (sb (r9.1 == r10.1)))])] [[], [], [1], [0, 1, 2], [], [], [5], (.range 7), (.range 8), (.range 9)] (nl rfl) [0, 0, 1, 2, 0, 0, 1, 3, 4, 5] rfl (TK := [(7, 9)]) rfl (AllK.cons' ⟨(tk_upd (tk_upd (tk_upd tk_top rfl) rfl) rfl), (tC rfl (tC rfl (tC rfl (tC rfl (tC rfl (tC rfl (tC rfl (tC (tkO_row _) AllT.nil')))))))), (fC (.inr rfl) (fC (.inr rfl) (fC (.inr rfl) (fC (.inr rfl) (fC (.inr rfl) (fC (.inr rfl) (fC (.inr rfl) (fC (.inl rfl) (fC (.inl rfl) (fC (.inl rfl) AllF.nil'))))))))))⟩ AllK.nil') (by repeat (first | refine fC ⟨?_, ?_⟩ ?_ | refine sC rfl ?_ | refine hC rfl ?_ | trivial)) ?_ ?_
     ·refine (pC ?_ (pC ?_ (pC ?_ (pC ?_ (pC ?_ (pC ?_ (pC ?_ (pC ?_ (pC ?_ (pC ?_ AllStep.nil'))))))))))
      ·intro K rest fr hv htk k
       show AWops _ x _ _ K ⟨119, (upd 119 fr 1 (rf 0 0)), _⟩
       refine s_move (d := (rf 0 0)) rfl k
      ·intro K rest fr hv htk k
       show AWops _ x _ _ K ⟨119, (upd 119 fr 3 (rf 5 0)), [(hv 0), (hv 1), (hv 2), (hv 3), (hv 4), (hv 5), (hv 6), (hv 7), (hv 8), (hv 9)]⟩
       refine s_fieldRef F.fo_43_2 (by decide) rfl k
      ·intro K rest fr hv htk k
       show AWops _ x _ _ K ⟨119, (upd 119 fr 39 (rf 5 2)), [(hv 0), (hv 1), (hv 2), (hv 3), (hv 4), (some (AObj.cells true (c_dossierplain_Step a0))), (hv 6), (hv 7), (hv 8), (hv 9)]⟩
       refine s_load1 (c' := (ct a0.Name)) F.ag_9 rfl rfl k
      ·intro K rest fr hv htk k
       show AWops _ x _ _ K ⟨119, (upd 119 (upd 119 fr 40 (st_ a0.Name)) 38 (rf 0 0)), [(o_vdisk_Disk_03 false (C.mp 2) (C.ref 6 0) p0), (hv 1), (om_ e_vdisk_file p0.files), (hv 3), (hv 4), (hv 5), (some (AObj.cells false [(ci b0_3)])), (hv 7), (hv 8), (hv 9)]⟩
       refine s_call2 (ρ := [0, 2, 6]) (br := false) (H2 := [(o_vdisk_Disk_03 false (C.mp 2) (C.ref 6 0) r9.2.1), (hv 1), (om_ e_vdisk_file r9.2.1.files), (hv 3), (hv 4), (hv 5), (some (AObj.cells false [(ci r9.2.2)])), (hv 7), (hv 8), (hv 9)]) (d := (si r9.1)) F.ca_10 rfl rfl (ac (.one (.ref rfl)) (ac (.one .sc) an)) (ac (.cells (ac (.mp rfl) (ac .sc (ac .sc (ac (.ref rfl) (ac .sc an)))))) (ac .map (ac (.cells (ac .sc an)) an))) (by decide) rfl (vdisk_Disk_Sync_10.meets _ p0 a0.Name b0_3 r9 er9) (.inl rfl) rfl rfl k
      ·intro K rest fr hv htk k
       show AWops _ x _ _ K ⟨119, (upd 119 fr 2 (rf 1 0)), _⟩
       refine s_move (d := (rf 1 0)) rfl k
      ·intro K rest fr hv htk k
       show AWops _ x _ _ K ⟨119, (upd 119 fr 3 (rf 5 0)), [(hv 0), (hv 1), (hv 2), (hv 3), (hv 4), (hv 5), (hv 6), (hv 7), (hv 8), (hv 9)]⟩
       refine s_fieldRef F.fo_43_2 (by decide) rfl k
      ·intro K rest fr hv htk k
       show AWops _ x _ _ K ⟨119, (upd 119 fr 43 (rf 5 2)), [(hv 0), (hv 1), (hv 2), (hv 3), (hv 4), (some (AObj.cells true (c_dossierplain_Step a0))), (hv 6), (hv 7), (hv 8), (hv 9)]⟩
       refine s_load1 (c' := (ct a0.Name)) F.ag_9 rfl rfl k
      ·intro K rest fr hv htk k
       show AWops _ x _ _ K ⟨119, (upd 119 (upd 119 fr 44 (st_ a0.Name)) 42 (rf 1 0)), [(hv 0), (o_dossierref03_Disk_0 false (C.own 7 0 p1.L.length 3) p1), (hv 2), (hv 3), (hv 4), (hv 5), (hv 6), (or_ e_dossierref03_File p1.L), (hv 8), (hv 9)]⟩
       refine s_call2 (ρ := [1, 7]) (br := false) (H2 := [(hv 0), (o_dossierref03_Disk_0 false (C.own 10 0 r10.2.L.length 3) r10.2), (hv 2), (hv 3), (hv 4), (hv 5), (hv 6), none, (hv 8), (hv 9), (or_ e_dossierref03_File r10.2.L)]) (d := (si r10.1)) F.ca_39 rfl rfl (ac (.one (.ref rfl)) (ac (.one .sc) an)) (ac (.cells (ac (.own rfl) (ac .sc (ac .sc (ac .sc an))))) (ac (.cells (lend_row _)) an)) (by decide) rfl (dossierref03_Disk_Sync_39.meets _ p1 a0.Name r10 er10) (.inl rfl) (by first | rfl | (simp only [mS]; done) | (simp only [mS]; rfl)) rfl ?_
       refine AWops.weak (st' := ⟨119, (upd 119 (upd 119 (upd 119 fr 44 (st_ a0.Name)) 42 (rf 1 0)) 45 (si r10.1)), [(hv 0), (o_dossierref03_Disk_0 false (C.own 9 0 r10.2.L.length 3) r10.2), (hv 2), (hv 3), (hv 4), (hv 5), (hv 6), none, (hv 8), (or_ e_dossierref03_File r10.2.L)]⟩) (wg 5 [0, 1, 2, 3, 4, 5, 6, 7, 8, 10] [] hx (le_upd2 (le_ok (p := 9) (L := 10) rfl (htk 9 rfl).1) (.t (.one .sc))) (ac (oq 9 10 (htk 9 rfl) 0) (ac (.cells id (ac (.own rfl) (ac .sc (ac .sc (ac .sc an))))) (ac (oq 9 10 (htk 9 rfl) 2) (ac (oq 9 10 (htk 9 rfl) 3) (ac (oq 9 10 (htk 9 rfl) 4) (ac (oq 9 10 (htk 9 rfl) 5) (ac (oq 9 10 (htk 9 rfl) 6) (ac (.none _) (ac (oq 9 10 (htk 9 rfl) 8) (ac (.cells id (all2_row _)) an))))))))))) k
      ·intro K rest fr hv htk k
       show AWops _ x _ _ K ⟨119, (upd 119 (upd 119 fr 45 (si r10.1)) 41 (si r9.1)), _⟩
       refine s_binI (v := (.bool (r9.1 == r10.1))) rfl rfl rfl k
      ·intro K rest fr hv htk k
       show AWops _ x _ _ K ⟨119, (upd 119 fr 46 (sb (r9.1 == r10.1))), _⟩
       refine s_assign (d := (sb (r9.1 == r10.1))) rfl k
     ·refine AWops.weak (st' := ⟨119, (upd 119 topF 6 (sb (r9.1 == r10.1))), [(o_vdisk_Disk_03 false (C.mp 2) (C.ref 5 0) r9.2.1), (o_dossierref03_Disk_0 false (C.own 6 0 r10.2.L.length 3) r10.2), (om_ e_vdisk_file r9.2.1.files), none, none, (some (AObj.cells false [(ci r9.2.2)])), (or_ e_dossierref03_File r10.2.L)]⟩) (wg 5 [0, 1, 2, 3, 4, 6, 9] [] hx (le_upd (le_top _) (.t (.one .sc))) (ac (.cells id (ac (.mp rfl) (ac .sc (ac .sc (ac (.ref rfl) (ac .sc an)))))) (ac (.cells id (ac (.own rfl) (ac .sc (ac .sc (ac .sc an))))) (ac .map (ac (.none _) (ac (.none _) (ac (.cells id (ac .sc an)) (ac (.cells id (all2_row _)) an)))))))) (AWops.nil (AW.ret ?_))
      obtain rfl := Option.some.inj h
      exact ⟨_, rfl, (wg 5 [0, 1, 2, 3, 4, 5, 6] [] rfl (le_upd (le_top _) (.t (.one .sc))) (ac (.cells id (ac (.mp rfl) (ac .sc (ac .sc (ac (.ref rfl) (ac .sc an)))))) (ac (.cells id (ac (.own rfl) (ac .sc (ac .sc (ac .sc an))))) (ac .map (ac (.none _) (ac (.none _) (ac (.cells id (ac .sc an)) (ac (.cells id (all2_row _)) an))))))))⟩
    ·refine AW.cond_no rfl c8 (AW.seq (AW.region ?_))
     refine s_binI (v := (.bool ((IntKind.i64.wrap (Int.tmod (IntKind.u64.wrap a0.Op) 9)) == 3))) rfl rfl rfl ?_
     refine s_assign (d := (sb ((IntKind.i64.wrap (Int.tmod (IntKind.u64.wrap a0.Op) 9)) == 3))) rfl (AWops.nil ?_)
     rcases itH h with ⟨c11, h⟩ | ⟨c11, h⟩
     ·refine AW.cond_yes rfl c11 (AW.seq ?_)
      refine AW.weak (st' := ⟨119, (upd 119 (upd 119 (upd 119 topF 1 (rf 0 0)) 2 (rf 1 0)) 3 (rf 5 0)), [(o_vdisk_Disk_03 false (C.mp 2) (C.ref 6 0) p0), (o_dossierref03_Disk_0 false (C.own 7 0 p1.L.length 3) p1), (om_ e_vdisk_file p0.files), none, none, (some (AObj.cells true (c_dossierplain_Step a0))), (some (AObj.cells false [(ci b0_3)])), (or_ e_dossierref03_File p1.L)]⟩) (wg 5 [0, 1, 2, 3, 4, 5, 6, 7] [] hx (le_upd (le_upd (le_upd (le_top _) (.t (.one (.ref rfl)))) (.t (.one (.ref rfl)))) (.t (.one (.ref rfl)))) (ac (.cells id (ac (.mp rfl) (ac .sc (ac .sc (ac (.ref rfl) (ac .sc an)))))) (ac (.cells id (ac (.own rfl) (ac .sc (ac .sc (ac .sc an))))) (ac .map (ac (.none _) (ac (.none _) (ac (.cells (fun _ => rfl) (ac .sc (ac .sc (ac .sc (ac .sc (ac .same (ac .same an))))))) (ac (.cells id (ac .sc an)) (ac (.cells id (all2_row _)) an))))))))) ?_
      obtain ⟨r12, er12, h⟩ := bnd h
      obtain ⟨r13, er13, h⟩ := bnd h
      refine AW.draw (n := 119) (L := 10) [(ft 0 49 (rf 0 0) [(1, (rf 0 0))]), (ft 1 50 (rf 5 2) [(3, (rf 5 0))]), (2, ⟨some 51, (st_ a0.Name), [(50, (rf 5 2))], [(5, (some (AObj.cells true (c_dossierplain_Step a0))))], [], none⟩), (ft 3 52 (rf 5 3) [(3, (rf 5 0))]), (4, ⟨some 53, (st_ a0.To), [(52, (rf 5 3))], [(5, (some (AObj.cells true (c_dossierplain_Step a0))))], [], none⟩), (5, ⟨some 54, (si r12.1), [(49, (rf 0 0)), (51, (st_ a0.Name)), (53, (st_ a0.To))], [(0, (o_vdisk_Disk_03 false (C.mp 2) (C.ref 6 0) p0)), (2, (om_ e_vdisk_file p0.files)), (6, (some (AObj.cells false [(ci b0_3)])))], [(0, (o_vdisk_Disk_03 false (C.mp 2) (C.ref 6 0) r12.2.1)), (2, (om_ e_vdisk_file r12.2.1.files)), (6, (some (AObj.cells false [(ci r12.2.2)])))], none⟩), (ft 6 55 (rf 1 0) [(2, (rf 1 0))]), (ft 7 56 (rf 5 2) [(3, (rf 5 0))]), (8, ⟨some 57, (st_ a0.Name), [(56, (rf 5 2))], [(5, (some (AObj.cells true (c_dossierplain_Step a0))))], [], none⟩), (ft 9 58 (rf 5 3) [(3, (rf 5 0))]), (10, ⟨some 59, (st_ a0.To), [(58, (rf 5 3))], [(5, (some (AObj.cells true (c_dossierplain_Step a0))))], [], none⟩), (11, ⟨some 60, (si r13.1), [(55, (rf 1 0)), (57, (st_ a0.Name)), (59, (st_ a0.To))], [(1, (o_dossierref03_Disk_0 false (C.own 7 0 p1.L.length 3) p1)), (7, (or_ e_dossierref03_File p1.L))], [(1, (o_dossierref03_Disk_0 false (C.own 9 0 r13.2.L.length 3) r13.2)), (7, none), (9, (or_ e_dossierref03_File r13.2.L))], some 9⟩), (ft 12 61 (sb (r12.1 == r13.1)) [(54, (si r12.1)), (60, (si r13.1))]), (ft 13 6 (sb (r12.1 == r13.1)) [(61, (sb (r12.1 == r13.1)))])] [[], [], [1], [], [3], (.range 5), [], [], [7], [], [9], (.range 11), (.range 12), (.range 13)] (nl rfl) [0, 0, 1, 0, 1, 2, 0, 0, 1, 0, 1, 3, 4, 5] rfl (TK := [(11, 9)]) rfl (AllK.cons' ⟨(tk_upd (tk_upd (tk_upd tk_top rfl) rfl) rfl), (tC rfl (tC rfl (tC rfl (tC rfl (tC rfl (tC rfl (tC rfl (tC (tkO_row _) AllT.nil')))))))), (by repeat (first | refine fC (.inl rfl) ?_ | refine fC (.inr rfl) ?_ | refine fC (.inr (by unfold tkFoot; simp only [List.all_cons, List.all_nil, tkO_row, Bool.and_true, Bool.true_and]; rfl)) ?_ | trivial))⟩ AllK.nil') (by repeat (first | refine fC ⟨?_, ?_⟩ ?_ | refine sC rfl ?_ | refine hC rfl ?_ | trivial)) ?_ ?_
      ·refine (pC ?_ (pC ?_ (pC ?_ (pC ?_ (pC ?_ (pC ?_ (pC ?_ (pC ?_ (pC ?_ (pC ?_ (pC ?_ (pC ?_ (pC ?_ (pC ?_ AllStep.nil'))))))))))))))
       ·intro K rest fr hv htk k
        show AWops _ x _ _ K ⟨119, (upd 119 fr 1 (rf 0 0)), _⟩
        refine s_move (d := (rf 0 0)) rfl k
       ·intro K rest fr hv htk k
        show AWops _ x _ _ K ⟨119, (upd 119 fr 3 (rf 5 0)), [(hv 0), (hv 1), (hv 2), (hv 3), (hv 4), (hv 5), (hv 6), (hv 7), (hv 8), (hv 9)]⟩
        refine s_fieldRef F.fo_43_2 (by decide) rfl k
       ·intro K rest fr hv htk k
        show AWops _ x _ _ K ⟨119, (upd 119 fr 50 (rf 5 2)), [(hv 0), (hv 1), (hv 2), (hv 3), (hv 4), (some (AObj.cells true (c_dossierplain_Step a0))), (hv 6), (hv 7), (hv 8), (hv 9)]⟩
        refine s_load1 (c' := (ct a0.Name)) F.ag_9 rfl rfl k
       ·intro K rest fr hv htk k
        show AWops _ x _ _ K ⟨119, (upd 119 fr 3 (rf 5 0)), [(hv 0), (hv 1), (hv 2), (hv 3), (hv 4), (hv 5), (hv 6), (hv 7), (hv 8), (hv 9)]⟩
        refine s_fieldRef F.fo_43_3 (by decide) rfl k
       ·intro K rest fr hv htk k
        show AWops _ x _ _ K ⟨119, (upd 119 fr 52 (rf 5 3)), [(hv 0), (hv 1), (hv 2), (hv 3), (hv 4), (some (AObj.cells true (c_dossierplain_Step a0))), (hv 6), (hv 7), (hv 8), (hv 9)]⟩
        refine s_load1 (c' := (ct a0.To)) F.ag_9 rfl rfl k
       ·intro K rest fr hv htk k
        show AWops _ x _ _ K ⟨119, (upd 119 (upd 119 (upd 119 fr 53 (st_ a0.To)) 51 (st_ a0.Name)) 49 (rf 0 0)), [(o_vdisk_Disk_03 false (C.mp 2) (C.ref 6 0) p0), (hv 1), (om_ e_vdisk_file p0.files), (hv 3), (hv 4), (hv 5), (some (AObj.cells false [(ci b0_3)])), (hv 7), (hv 8), (hv 9)]⟩
        refine s_call2 (ρ := [0, 2, 6]) (br := false) (H2 := [(o_vdisk_Disk_03 false (C.mp 2) (C.ref 6 0) r12.2.1), (hv 1), (om_ e_vdisk_file r12.2.1.files), (hv 3), (hv 4), (hv 5), (some (AObj.cells false [(ci r12.2.2)])), (hv 7), (hv 8), (hv 9)]) (d := (si r12.1)) F.ca_18 rfl rfl (ac (.one (.ref rfl)) (ac (.one .sc) (ac (.one .sc) an))) (ac (.cells (ac (.mp rfl) (ac .sc (ac .sc (ac (.ref rfl) (ac .sc an)))))) (ac .map (ac (.cells (ac .sc an)) an))) (by decide) rfl (vdisk_Disk_Rename_18.meets _ p0 a0.Name a0.To b0_3 r12 er12) (.inl rfl) rfl rfl k
       ·intro K rest fr hv htk k
        show AWops _ x _ _ K ⟨119, (upd 119 fr 2 (rf 1 0)), _⟩
        refine s_move (d := (rf 1 0)) rfl k
       ·intro K rest fr hv htk k
        show AWops _ x _ _ K ⟨119, (upd 119 fr 3 (rf 5 0)), [(hv 0), (hv 1), (hv 2), (hv 3), (hv 4), (hv 5), (hv 6), (hv 7), (hv 8), (hv 9)]⟩
        refine s_fieldRef F.fo_43_2 (by decide) rfl k
       ·intro K rest fr hv htk k
        show AWops _ x _ _ K ⟨119, (upd 119 fr 56 (rf 5 2)), [(hv 0), (hv 1), (hv 2), (hv 3), (hv 4), (some (AObj.cells true (c_dossierplain_Step a0))), (hv 6), (hv 7), (hv 8), (hv 9)]⟩
        refine s_load1 (c' := (ct a0.Name)) F.ag_9 rfl rfl k
       ·intro K rest fr hv htk k
        show AWops _ x _ _ K ⟨119, (upd 119 fr 3 (rf 5 0)), [(hv 0), (hv 1), (hv 2), (hv 3), (hv 4), (hv 5), (hv 6), (hv 7), (hv 8), (hv 9)]⟩
        refine s_fieldRef F.fo_43_3 (by decide) rfl k
       ·intro K rest fr hv htk k
        show AWops _ x _ _ K ⟨119, (upd 119 fr 58 (rf 5 3)), [(hv 0), (hv 1), (hv 2), (hv 3), (hv 4), (some (AObj.cells true (c_dossierplain_Step a0))), (hv 6), (hv 7), (hv 8), (hv 9)]⟩
        refine s_load1 (c' := (ct a0.To)) F.ag_9 rfl rfl k
       ·intro K rest fr hv htk k
        show AWops _ x _ _ K ⟨119, (upd 119 (upd 119 (upd 119 fr 59 (st_ a0.To)) 57 (st_ a0.Name)) 55 (rf 1 0)), [(hv 0), (o_dossierref03_Disk_0 false (C.own 7 0 p1.L.length 3) p1), (hv 2), (hv 3), (hv 4), (hv 5), (hv 6), (or_ e_dossierref03_File p1.L), (hv 8), (hv 9)]⟩
        refine s_call2 (ρ := [1, 7]) (br := false) (H2 := [(hv 0), (o_dossierref03_Disk_0 false (C.own 10 0 r13.2.L.length 3) r13.2), (hv 2), (hv 3), (hv 4), (hv 5), (hv 6), none, (hv 8), (hv 9), (or_ e_dossierref03_File r13.2.L)]) (d := (si r13.1)) F.ca_40 rfl rfl (ac (.one (.ref rfl)) (ac (.one .sc) (ac (.one .sc) an))) (ac (.cells (ac (.own rfl) (ac .sc (ac .sc (ac .sc an))))) (ac (.cells (lend_row _)) an)) (by decide) rfl (dossierref03_Disk_Rename_40.meets _ p1 a0.Name a0.To r13 er13) (.inl rfl) (by first | rfl | (simp only [mS]; done) | (simp only [mS]; rfl)) rfl ?_
        refine AWops.weak (st' := ⟨119, (upd 119 (upd 119 (upd 119 (upd 119 fr 59 (st_ a0.To)) 57 (st_ a0.Name)) 55 (rf 1 0)) 60 (si r13.1)), [(hv 0), (o_dossierref03_Disk_0 false (C.own 9 0 r13.2.L.length 3) r13.2), (hv 2), (hv 3), (hv 4), (hv 5), (hv 6), none, (hv 8), (or_ e_dossierref03_File r13.2.L)]⟩) (wg 5 [0, 1, 2, 3, 4, 5, 6, 7, 8, 10] [] hx (le_upd2 (le_ok (p := 9) (L := 10) rfl (htk 9 rfl).1) (.t (.one .sc))) (ac (oq 9 10 (htk 9 rfl) 0) (ac (.cells id (ac (.own rfl) (ac .sc (ac .sc (ac .sc an))))) (ac (oq 9 10 (htk 9 rfl) 2) (ac (oq 9 10 (htk 9 rfl) 3) (ac (oq 9 10 (htk 9 rfl) 4) (ac (oq 9 10 (htk 9 rfl) 5) (ac (oq 9 10 (htk 9 rfl) 6) (ac (.none _) (ac (oq 9 10 (htk 9 rfl) 8) (ac (.cells id (all2_row _)) an))))))))))) k
       ·intro K rest fr hv htk k
        show AWops _ x _ _ K ⟨119, (upd 119 (upd 119 fr 60 (si r13.1)) 54 (si r12.1)), _⟩
        refine s_binI (v := (.bool (r12.1 == r13.1))) rfl rfl rfl k
       ·intro K rest fr hv htk k
        show AWops _ x _ _ K ⟨119, (upd 119 fr 61 (sb (r12.1 == r13.1))), _⟩
        refine s_assign (d := (sb (r12.1 == r13.1))) rfl k
      ·refine AWops.weak (st' := ⟨119, (upd 119 topF 6 (sb (r12.1 == r13.1))), [(o_vdisk_Disk_03 false (C.mp 2) (C.ref 5 0) r12.2.1), (o_dossierref03_Disk_0 false (C.own 6 0 r13.2.L.length 3) r13.2), (om_ e_vdisk_file r12.2.1.files), none, none, (some (AObj.cells false [(ci r12.2.2)])), (or_ e_dossierref03_File r13.2.L)]⟩) (wg 5 [0, 1, 2, 3, 4, 6, 9] [] hx (le_upd (le_top _) (.t (.one .sc))) (ac (.cells id (ac (.mp rfl) (ac .sc (ac .sc (ac (.ref rfl) (ac .sc an)))))) (ac (.cells id (ac (.own rfl) (ac .sc (ac .sc (ac .sc an))))) (ac .map (ac (.none _) (ac (.none _) (ac (.cells id (ac .sc an)) (ac (.cells id (all2_row _)) an)))))))) (AWops.nil (AW.ret ?_))
       obtain rfl := Option.some.inj h
       exact ⟨_, rfl, (wg 5 [0, 1, 2, 3, 4, 5, 6] [] rfl (le_upd (le_top _) (.t (.one .sc))) (ac (.cells id (ac (.mp rfl) (ac .sc (ac .sc (ac (.ref rfl) (ac .sc an)))))) (ac (.cells id (ac (.own rfl) (ac .sc (ac .sc (ac .sc an))))) (ac .map (ac (.none _) (ac (.none _) (ac (.cells id (ac .sc an)) (ac (.cells id (all2_row _)) an))))))))⟩
     ·refine AW.cond_no rfl c11 (AW.seq (AW.region ?_))
      refine s_binI (v := (.bool ((IntKind.i64.wrap (Int.tmod (IntKind.u64.wrap a0.Op) 9)) == 4))) rfl rfl rfl ?_
      refine s_assign (d := (sb ((IntKind.i64.wrap (Int.tmod (IntKind.u64.wrap a0.Op) 9)) == 4))) rfl (AWops.nil ?_)
      rcases itH h with ⟨c14, h⟩ | ⟨c14, h⟩
      ·refine AW.cond_yes rfl c14 (AW.seq ?_)
       refine AW.weak (st' := ⟨119, (upd 119 (upd 119 (upd 119 topF 1 (rf 0 0)) 2 (rf 1 0)) 3 (rf 5 0)), [(o_vdisk_Disk_03 false (C.mp 2) (C.ref 6 0) p0), (o_dossierref03_Disk_0 false (C.own 7 0 p1.L.length 3) p1), (om_ e_vdisk_file p0.files), none, none, (some (AObj.cells true (c_dossierplain_Step a0))), (some (AObj.cells false [(ci b0_3)])), (or_ e_dossierref03_File p1.L)]⟩) (wg 5 [0, 1, 2, 3, 4, 5, 6, 7] [] hx (le_upd (le_upd (le_upd (le_top _) (.t (.one (.ref rfl)))) (.t (.one (.ref rfl)))) (.t (.one (.ref rfl)))) (ac (.cells id (ac (.mp rfl) (ac .sc (ac .sc (ac (.ref rfl) (ac .sc an)))))) (ac (.cells id (ac (.own rfl) (ac .sc (ac .sc (ac .sc an))))) (ac .map (ac (.none _) (ac (.none _) (ac (.cells (fun _ => rfl) (ac .sc (ac .sc (ac .sc (ac .sc (ac .same (ac .same an))))))) (ac (.cells id (ac .sc an)) (ac (.cells id (all2_row _)) an))))))))) ?_
       obtain ⟨r15, er15, h⟩ := bnd h
       obtain ⟨r16, er16, h⟩ := bnd h
       refine AW.draw (n := 119) (L := 10) [(ft 0 64 (rf 0 0) [(1, (rf 0 0))]), (ft 1 65 (rf 5 2) [(3, (rf 5 0))]), (2, ⟨some 66, (st_ a0.Name), [(65, (rf 5 2))], [(5, (some (AObj.cells true (c_dossierplain_Step a0))))], [], none⟩), (ft 3 67 (rf 5 1) [(3, (rf 5 0))]), (4, ⟨some 68, (si a0.N), [(67, (rf 5 1))], [(5, (some (AObj.cells true (c_dossierplain_Step a0))))], [], none⟩), (5, ⟨some 69, (si r15.1), [(64, (rf 0 0)), (66, (st_ a0.Name)), (68, (si a0.N))], [(0, (o_vdisk_Disk_03 false (C.mp 2) (C.ref 6 0) p0)), (2, (om_ e_vdisk_file p0.files)), (6, (some (AObj.cells false [(ci b0_3)])))], [(0, (o_vdisk_Disk_03 false (C.mp 2) (C.ref 6 0) r15.2.1)), (2, (om_ e_vdisk_file r15.2.1.files)), (6, (some (AObj.cells false [(ci r15.2.2)])))], none⟩), (ft 6 70 (rf 1 0) [(2, (rf 1 0))]), (ft 7 71 (rf 5 2) [(3, (rf 5 0))]), (8, ⟨some 72, (st_ a0.Name), [(71, (rf 5 2))], [(5, (some (AObj.cells true (c_dossierplain_Step a0))))], [], none⟩), (ft 9 73 (rf 5 1) [(3, (rf 5 0))]), (10, ⟨some 74, (si a0.N), [(73, (rf 5 1))], [(5, (some (AObj.cells true (c_dossierplain_Step a0))))], [], none⟩), (11, ⟨some 75, (si r16.1), [(70, (rf 1 0)), (72, (st_ a0.Name)), (74, (si a0.N))], [(1, (o_dossierref03_Disk_0 false (C.own 7 0 p1.L.length 3) p1)), (7, (or_ e_dossierref03_File p1.L))], [(1, (o_dossierref03_Disk_0 false (C.own 9 0 r16.2.L.length 3) r16.2)), (7, none), (9, (or_ e_dossierref03_File r16.2.L))], some 9⟩), (ft 12 76 (sb (r15.1 == r16.1)) [(69, (si r15.1)), (75, (si r16.1))]), (ft 13 6 (sb (r15.1 == r16.1)) [(76, (sb (r15.1 == r16.1)))])] [[], [], [1], [], [3], (.range 5), [], [], [7], [], [9], (.range 11), (.range 12), (.range 13)] (nl rfl) [0, 0, 1, 0, 1, 2, 0, 0, 1, 0, 1, 3, 4, 5] rfl (TK := [(11, 9)]) rfl (AllK.cons' ⟨(tk_upd (tk_upd (tk_upd tk_top rfl) rfl) rfl), (tC rfl (tC rfl (tC rfl (tC rfl (tC rfl (tC rfl (tC rfl (tC (tkO_row _) AllT.nil')))))))), (by repeat (first | refine fC (.inl rfl) ?_ | refine fC (.inr rfl) ?_ | refine fC (.inr (by unfold tkFoot; simp only [List.all_cons, List.all_nil, tkO_row, Bool.and_true, Bool.true_and]; rfl)) ?_ | trivial))⟩ AllK.nil') (by repeat (first | refine fC ⟨?_, ?_⟩ ?_ | refine sC rfl ?_ | refine hC rfl ?_ | trivial)) ?_ ?_
       ·refine (pC ?_ (pC ?_ (pC ?_ (pC ?_ (pC ?_ (pC ?_ (pC ?_ (pC ?_ (pC ?_ (pC ?_ (pC ?_ (pC ?_ (pC ?_ (pC ?_ AllStep.nil'))))))))))))))
        ·intro K rest fr hv htk k
         show AWops _ x _ _ K ⟨119, (upd 119 fr 1 (rf 0 0)), _⟩
         refine s_move (d := (rf 0 0)) rfl k
        ·intro K rest fr hv htk k
         show AWops _ x _ _ K ⟨119, (upd 119 fr 3 (rf 5 0)), [(hv 0), (hv 1), (hv 2), (hv 3), (hv 4), (hv 5), (hv 6), (hv 7), (hv 8), (hv 9)]⟩
         refine s_fieldRef F.fo_43_2 (by decide) rfl k
        ·intro K rest fr hv htk k
         show AWops _ x _ _ K ⟨119, (upd 119 fr 65 (rf 5 2)), [(hv 0), (hv 1), (hv 2), (hv 3), (hv 4), (some (AObj.cells true (c_dossierplain_Step a0))), (hv 6), (hv 7), (hv 8), (hv 9)]⟩
         refine s_load1 (c' := (ct a0.Name)) F.ag_9 rfl rfl k
        ·intro K rest fr hv htk k
         show AWops _ x _ _ K ⟨119, (upd 119 fr 3 (rf 5 0)), [(hv 0), (hv 1), (hv 2), (hv 3), (hv 4), (hv 5), (hv 6), (hv 7), (hv 8), (hv 9)]⟩
         refine s_fieldRef F.fo_43_1 (by decide) rfl k
        ·intro K rest fr hv htk k
         show AWops _ x _ _ K ⟨119, (upd 119 fr 67 (rf 5 1)), [(hv 0), (hv 1), (hv 2), (hv 3), (hv 4), (some (AObj.cells true (c_dossierplain_Step a0))), (hv 6), (hv 7), (hv 8), (hv 9)]⟩
         refine s_load1 (c' := (ci a0.N)) F.ag_3 rfl rfl k
        ·intro K rest fr hv htk k
         show AWops _ x _ _ K ⟨119, (upd 119 (upd 119 (upd 119 fr 68 (si a0.N)) 66 (st_ a0.Name)) 64 (rf 0 0)), [(o_vdisk_Disk_03 false (C.mp 2) (C.ref 6 0) p0), (hv 1), (om_ e_vdisk_file p0.files), (hv 3), (hv 4), (hv 5), (some (AObj.cells false [(ci b0_3)])), (hv 7), (hv 8), (hv 9)]⟩
         refine s_call2 (ρ := [0, 2, 6]) (br := false) (H2 := [(o_vdisk_Disk_03 false (C.mp 2) (C.ref 6 0) r15.2.1), (hv 1), (om_ e_vdisk_file r15.2.1.files), (hv 3), (hv 4), (hv 5), (some (AObj.cells false [(ci r15.2.2)])), (hv 7), (hv 8), (hv 9)]) (d := (si r15.1)) F.ca_19 rfl rfl (ac (.one (.ref rfl)) (ac (.one .sc) (ac (.one .sc) an))) (ac (.cells (ac (.mp rfl) (ac .sc (ac .sc (ac (.ref rfl) (ac .sc an)))))) (ac .map (ac (.cells (ac .sc an)) an))) (by decide) rfl (vdisk_Disk_Truncate_19.meets _ p0 a0.Name a0.N b0_3 r15 er15) (.inl rfl) rfl rfl k
        ·intro K rest fr hv htk k
         show AWops _ x _ _ K ⟨119, (upd 119 fr 2 (rf 1 0)), _⟩
         refine s_move (d := (rf 1 0)) rfl k
        ·intro K rest fr hv htk k
         show AWops _ x _ _ K ⟨119, (upd 119 fr 3 (rf 5 0)), [(hv 0), (hv 1), (hv 2), (hv 3), (hv 4), (hv 5), (hv 6), (hv 7), (hv 8), (hv 9)]⟩
         refine s_fieldRef F.fo_43_2 (by decide) rfl k
        ·intro K rest fr hv htk k
         show AWops _ x _ _ K ⟨119, (upd 119 fr 71 (rf 5 2)), [(hv 0), (hv 1), (hv 2), (hv 3), (hv 4), (some (AObj.cells true (c_dossierplain_Step a0))), (hv 6), (hv 7), (hv 8), (hv 9)]⟩
         refine s_load1 (c' := (ct a0.Name)) F.ag_9 rfl rfl k
        ·intro K rest fr hv htk k
         show AWops _ x _ _ K ⟨119, (upd 119 fr 3 (rf 5 0)), [(hv 0), (hv 1), (hv 2), (hv 3), (hv 4), (hv 5), (hv 6), (hv 7), (hv 8), (hv 9)]⟩
         refine s_fieldRef F.fo_43_1 (by decide) rfl k
        ·intro K rest fr hv htk k
         show AWops _ x _ _ K ⟨119, (upd 119 fr 73 (rf 5 1)), [(hv 0), (hv 1), (hv 2), (hv 3), (hv 4), (some (AObj.cells true (c_dossierplain_Step a0))), (hv 6), (hv 7), (hv 8), (hv 9)]⟩
         refine s_load1 (c' := (ci a0.N)) F.ag_3 rfl rfl k
        ·intro K rest fr hv htk k
         show AWops _ x _ _ K ⟨119, (upd 119 (upd 119 (upd 119 fr 74 (si a0.N)) 72 (st_ a0.Name)) 70 (rf 1 0)), [(hv 0), (o_dossierref03_Disk_0 false (C.own 7 0 p1.L.length 3) p1), (hv 2), (hv 3), (hv 4), (hv 5), (hv 6), (or_ e_dossierref03_File p1.L), (hv 8), (hv 9)]⟩
         refine s_call2 (ρ := [1, 7]) (br := false) (H2 := [(hv 0), (o_dossierref03_Disk_0 false (C.own 10 0 r16.2.L.length 3) r16.2), (hv 2), (hv 3), (hv 4), (hv 5), (hv 6), none, (hv 8), (hv 9), (or_ e_dossierref03_File r16.2.L)]) (d := (si r16.1)) F.ca_41 rfl rfl (ac (.one (.ref rfl)) (ac (.one .sc) (ac (.one .sc) an))) (ac (.cells (ac (.own rfl) (ac .sc (ac .sc (ac .sc an))))) (ac (.cells (lend_row _)) an)) (by decide) rfl (dossierref03_Disk_Truncate_41.meets _ p1 a0.Name a0.N r16 er16) (.inl rfl) (by first | rfl | (simp only [mS]; done) | (simp only [mS]; rfl)) rfl ?_
         refine AWops.weak (st' := ⟨119, (upd 119 (upd 119 (upd 119 (upd 119 fr 74 (si a0.N)) 72 (st_ a0.Name)) 70 (rf 1 0)) 75 (si r16.1)), [(hv 0), (o_dossierref03_Disk_0 false (C.own 9 0 r16.2.L.length 3) r16.2), (hv 2), (hv 3), (hv 4), (hv 5), (hv 6), none, (hv 8), (or_ e_dossierref03_File r16.2.L)]⟩) (wg 5 [0, 1, 2, 3, 4, 5, 6, 7, 8, 10] [] hx (le_upd2 (le_ok (p := 9) (L := 10) rfl (htk 9 rfl).1) (.t (.one .sc))) (ac (oq 9 10 (htk 9 rfl) 0) (ac (.cells id (ac (.own rfl) (ac .sc (ac .sc (ac .sc an))))) (ac (oq 9 10 (htk 9 rfl) 2) (ac (oq 9 10 (htk 9 rfl) 3) (ac (oq 9 10 (htk 9 rfl) 4) (ac (oq 9 10 (htk 9 rfl) 5) (ac (oq 9 10 (htk 9 rfl) 6) (ac (.none _) (ac (oq 9 10 (htk 9 rfl) 8) (ac (.cells id (all2_row _)) an))))))))))) k
        ·intro K rest fr hv htk k
         show AWops _ x _ _ K ⟨119, (upd 119 (upd 119 fr 75 (si r16.1)) 69 (si r15.1)), _⟩
         refine s_binI (v := (.bool (r15.1 == r16.1))) rfl rfl rfl k
        ·intro K rest fr hv htk k
         show AWops _ x _ _ K ⟨119, (upd 119 fr 76 (sb (r15.1 == r16.1))), _⟩
         refine s_assign (d := (sb (r15.1 == r16.1))) rfl k
       ·refine AWops.weak (st' := ⟨119, (upd 119 topF 6 (sb (r15.1 == r16.1))), [(o_vdisk_Disk_03 false (C.mp 2) (C.ref 5 0) r15.2.1), (o_dossierref03_Disk_0 false (C.own 6 0 r16.2.L.length 3) r16.2), (om_ e_vdisk_file r15.2.1.files), none, none, (some (AObj.cells false [(ci r15.2.2)])), (or_ e_dossierref03_File r16.2.L)]⟩) (wg 5 [0, 1, 2, 3, 4, 6, 9] [] hx (le_upd (le_top _) (.t (.one .sc))) (ac (.cells id (ac (.mp rfl) (ac .sc (ac .sc (ac (.ref rfl) (ac .sc an)))))) (ac (.cells id (ac (.own rfl) (ac .sc (ac .sc (ac .sc an))))) (ac .map (ac (.none _) (ac (.none _) (ac (.cells id (ac .sc an)) (ac (.cells id (all2_row _)) an)))))))) (AWops.nil (AW.ret ?_))
        obtain rfl := Option.some.inj h
        exact ⟨_, rfl, (wg 5 [0, 1, 2, 3, 4, 5, 6] [] rfl (le_upd (le_top _) (.t (.one .sc))) (ac (.cells id (ac (.mp rfl) (ac .sc (ac .sc (ac (.ref rfl) (ac .sc an)))))) (ac (.cells id (ac (.own rfl) (ac .sc (ac .sc (ac .sc an))))) (ac .map (ac (.none _) (ac (.none _) (ac (.cells id (ac .sc an)) (ac (.cells id (all2_row _)) an))))))))⟩
      ·refine AW.cond_no rfl c14 (AW.seq (AW.region ?_))
       refine s_binI (v := (.bool ((IntKind.i64.wrap (Int.tmod (IntKind.u64.wrap a0.Op) 9)) == 5))) rfl rfl rfl ?_
       refine s_assign (d := (sb ((IntKind.i64.wrap (Int.tmod (IntKind.u64.wrap a0.Op) 9)) == 5))) rfl (AWops.nil ?_)
       rcases itH h with ⟨c17, h⟩ | ⟨c17, h⟩
       ·refine AW.cond_yes rfl c17 (AW.seq ?_)
        refine AW.weak (st' := ⟨119, (upd 119 (upd 119 (upd 119 topF 1 (rf 0 0)) 2 (rf 1 0)) 3 (rf 5 0)), [(o_vdisk_Disk_03 false (C.mp 2) (C.ref 6 0) p0), (o_dossierref03_Disk_0 false (C.own 7 0 p1.L.length 3) p1), (om_ e_vdisk_file p0.files), none, none, (some (AObj.cells true (c_dossierplain_Step a0))), (some (AObj.cells false [(ci b0_3)])), (or_ e_dossierref03_File p1.L)]⟩) (wg 5 [0, 1, 2, 3, 4, 5, 6, 7] [] hx (le_upd (le_upd (le_upd (le_top _) (.t (.one (.ref rfl)))) (.t (.one (.ref rfl)))) (.t (.one (.ref rfl)))) (ac (.cells id (ac (.mp rfl) (ac .sc (ac .sc (ac (.ref rfl) (ac .sc an)))))) (ac (.cells id (ac (.own rfl) (ac .sc (ac .sc (ac .sc an))))) (ac .map (ac (.none _) (ac (.none _) (ac (.cells (fun _ => rfl) (ac .sc (ac .sc (ac .sc (ac .sc (ac .same (ac .same an))))))) (ac (.cells id (ac .sc an)) (ac (.cells id (all2_row _)) an))))))))) ?_
        obtain ⟨r18, er18, h⟩ := bnd h
        obtain ⟨r19, er19, h⟩ := bnd h
        refine AW.draw (n := 119) (L := 10) [(ft 0 79 (rf 0 0) [(1, (rf 0 0))]), (ft 1 80 (rf 5 2) [(3, (rf 5 0))]), (2, ⟨some 81, (st_ a0.Name), [(80, (rf 5 2))], [(5, (some (AObj.cells true (c_dossierplain_Step a0))))], [], none⟩), (3, ⟨some 82, (si r18.1), [(79, (rf 0 0)), (81, (st_ a0.Name))], [(0, (o_vdisk_Disk_03 false (C.mp 2) (C.ref 6 0) p0)), (2, (om_ e_vdisk_file p0.files)), (6, (some (AObj.cells false [(ci b0_3)])))], [(0, (o_vdisk_Disk_03 false (C.mp 2) (C.ref 6 0) r18.2.1)), (2, (om_ e_vdisk_file r18.2.1.files)), (6, (some (AObj.cells false [(ci r18.2.2)])))], none⟩), (ft 4 83 (rf 1 0) [(2, (rf 1 0))]), (ft 5 84 (rf 5 2) [(3, (rf 5 0))]), (6, ⟨some 85, (st_ a0.Name), [(84, (rf 5 2))], [(5, (some (AObj.cells true (c_dossierplain_Step a0))))], [], none⟩), (7, ⟨some 86, (si r19.1), [(83, (rf 1 0)), (85, (st_ a0.Name))], [(1, (o_dossierref03_Disk_0 false (C.own 7 0 p1.L.length 3) p1)), (7, (or_ e_dossierref03_File p1.L))], [(1, (o_dossierref03_Disk_0 false (C.own 9 0 r19.2.L.length 3) r19.2)), (7, none), (9, (or_ e_dossierref03_File r19.2.L))], some 9⟩), (ft 8 87 (sb (r18.1 == r19.1)) [(82, (si r18.1)), (86, (si r19.1))]), (ft 9 6 (sb (r18.1 == r19.1)) [(87, (sb (r18.1 == r19.1)))])] [[], [], [1], [0, 1, 2], [], [], [5], (.range 7), (.range 8), (.range 9)] (nl rfl) [0, 0, 1, 2, 0, 0, 1, 3, 4, 5] rfl (TK := [(7, 9)]) rfl (AllK.cons' ⟨(tk_upd (tk_upd (tk_upd tk_top rfl) rfl) rfl), (tC rfl (tC rfl (tC rfl (tC rfl (tC rfl (tC rfl (tC rfl (tC (tkO_row _) AllT.nil')))))))), (fC (.inr rfl) (fC (.inr rfl) (fC (.inr rfl) (fC (.inr rfl) (fC (.inr rfl) (fC (.inr rfl) (fC (.inr rfl) (fC (.inl rfl) (fC (.inl rfl) (fC (.inl rfl) AllF.nil'))))))))))⟩ AllK.nil') (by repeat (first | refine fC ⟨?_, ?_⟩ ?_ | refine sC rfl ?_ | refine hC rfl ?_ | trivial)) ?_ ?_
        ·refine (pC ?_ (pC ?_ (pC ?_ (pC ?_ (pC ?_ (pC ?_ (pC ?_ (pC ?_ (pC ?_ (pC ?_ AllStep.nil'))))))))))
         ·intro K rest fr hv htk k
          show AWops _ x _ _ K ⟨119, (upd 119 fr 1 (rf 0 0)), _⟩
          refine s_move (d := (rf 0 0)) rfl k
         ·intro K rest fr hv htk k
          show AWops _ x _ _ K ⟨119, (upd 119 fr 3 (rf 5 0)), [(hv 0), (hv 1), (hv 2), (hv 3), (hv 4), (hv 5), (hv 6), (hv 7), (hv 8), (hv 9)]⟩
          refine s_fieldRef F.fo_43_2 (by decide) rfl k
         ·intro K rest fr hv htk k
          show AWops _ x _ _ K ⟨119, (upd 119 fr 80 (rf 5 2)), [(hv 0), (hv 1), (hv 2), (hv 3), (hv 4), (some (AObj.cells true (c_dossierplain_Step a0))), (hv 6), (hv 7), (hv 8), (hv 9)]⟩
          refine s_load1 (c' := (ct a0.Name)) F.ag_9 rfl rfl k
         ·intro K rest fr hv htk k
          show AWops _ x _ _ K ⟨119, (upd 119 (upd 119 fr 81 (st_ a0.Name)) 79 (rf 0 0)), [(o_vdisk_Disk_03 false (C.mp 2) (C.ref 6 0) p0), (hv 1), (om_ e_vdisk_file p0.files), (hv 3), (hv 4), (hv 5), (some (AObj.cells false [(ci b0_3)])), (hv 7), (hv 8), (hv 9)]⟩
          refine s_call2 (ρ := [0, 2, 6]) (br := false) (H2 := [(o_vdisk_Disk_03 false (C.mp 2) (C.ref 6 0) r18.2.1), (hv 1), (om_ e_vdisk_file r18.2.1.files), (hv 3), (hv 4), (hv 5), (some (AObj.cells false [(ci r18.2.2)])), (hv 7), (hv 8), (hv 9)]) (d := (si r18.1)) F.ca_20 rfl rfl (ac (.one (.ref rfl)) (ac (.one .sc) an)) (ac (.cells (ac (.mp rfl) (ac .sc (ac .sc (ac (.ref rfl) (ac .sc an)))))) (ac .map (ac (.cells (ac .sc an)) an))) (by decide) rfl (vdisk_Disk_Remove_20.meets _ p0 a0.Name b0_3 r18 er18) (.inl rfl) rfl rfl k
         ·intro K rest fr hv htk k
          show AWops _ x _ _ K ⟨119, (upd 119 fr 2 (rf 1 0)), _⟩
          refine s_move (d := (rf 1 0)) rfl k
         ·intro K rest fr hv htk k
          show AWops _ x _ _ K ⟨119, (upd 119 fr 3 (rf 5 0)), [(hv 0), (hv 1), (hv 2), (hv 3), (hv 4), (hv 5), (hv 6), (hv 7), (hv 8), (hv 9)]⟩
          refine s_fieldRef F.fo_43_2 (by decide) rfl k
         ·intro K rest fr hv htk k
          show AWops _ x _ _ K ⟨119, (upd 119 fr 84 (rf 5 2)), [(hv 0), (hv 1), (hv 2), (hv 3), (hv 4), (some (AObj.cells true (c_dossierplain_Step a0))), (hv 6), (hv 7), (hv 8), (hv 9)]⟩
          refine s_load1 (c' := (ct a0.Name)) F.ag_9 rfl rfl k
         ·intro K rest fr hv htk k
          show AWops _ x _ _ K ⟨119, (upd 119 (upd 119 fr 85 (st_ a0.Name)) 83 (rf 1 0)), [(hv 0), (o_dossierref03_Disk_0 false (C.own 7 0 p1.L.length 3) p1), (hv 2), (hv 3), (hv 4), (hv 5), (hv 6), (or_ e_dossierref03_File p1.L), (hv 8), (hv 9)]⟩
          refine s_call2 (ρ := [1, 7]) (br := false) (H2 := [(hv 0), (o_dossierref03_Disk_0 false (C.own 10 0 r19.2.L.length 3) r19.2), (hv 2), (hv 3), (hv 4), (hv 5), (hv 6), none, (hv 8), (hv 9), (or_ e_dossierref03_File r19.2.L)]) (d := (si r19.1)) F.ca_42 rfl rfl (ac (.one (.ref rfl)) (ac (.one .sc) an)) (ac (.cells (ac (.own rfl) (ac .sc (ac .sc (ac .sc an))))) (ac (.cells (lend_row _)) an)) (by decide) rfl (dossierref03_Disk_Remove_42.meets _ p1 a0.Name r19 er19) (.inl rfl) (by first | rfl | (simp only [mS]; done) | (simp only [mS]; rfl)) rfl ?_
          refine AWops.weak (st' := ⟨119, (upd 119 (upd 119 (upd 119 fr 85 (st_ a0.Name)) 83 (rf 1 0)) 86 (si r19.1)), [(hv 0), (o_dossierref03_Disk_0 false (C.own 9 0 r19.2.L.length 3) r19.2), (hv 2), (hv 3), (hv 4), (hv 5), (hv 6), none, (hv 8), (or_ e_dossierref03_File r19.2.L)]⟩) (wg 5 [0, 1, 2, 3, 4, 5, 6, 7, 8, 10] [] hx (le_upd2 (le_ok (p := 9) (L := 10) rfl (htk 9 rfl).1) (.t (.one .sc))) (ac (oq 9 10 (htk 9 rfl) 0) (ac (.cells id (ac (.own rfl) (ac .sc (ac .sc (ac .sc an))))) (ac (oq 9 10 (htk 9 rfl) 2) (ac (oq 9 10 (htk 9 rfl) 3) (ac (oq 9 10 (htk 9 rfl) 4) (ac (oq 9 10 (htk 9 rfl) 5) (ac (oq 9 10 (htk 9 rfl) 6) (ac (.none _) (ac (oq 9 10 (htk 9 rfl) 8) (ac (.cells id (all2_row _)) an))))))))))) k
         ·intro K rest fr hv htk k
          show AWops _ x _ _ K ⟨119, (upd 119 (upd 119 fr 86 (si r19.1)) 82 (si r18.1)), _⟩
          refine s_binI (v := (.bool (r18.1 == r19.1))) rfl rfl rfl k
         ·intro K rest fr hv htk k
          show AWops _ x _ _ K ⟨119, (upd 119 fr 87 (sb (r18.1 == r19.1))), _⟩
          refine s_assign (d := (sb (r18.1 == r19.1))) rfl k
        ·refine AWops.weak (st' := ⟨119, (upd 119 topF 6 (sb (r18.1 == r19.1))), [(o_vdisk_Disk_03 false (C.mp 2) (C.ref 5 0) r18.2.1), (o_dossierref03_Disk_0 false (C.own 6 0 r19.2.L.length 3) r19.2), (om_ e_vdisk_file r18.2.1.files), none, none, (some (AObj.cells false [(ci r18.2.2)])), (or_ e_dossierref03_File r19.2.L)]⟩) (wg 5 [0, 1, 2, 3, 4, 6, 9] [] hx (le_upd (le_top _) (.t (.one .sc))) (ac (.cells id (ac (.mp rfl) (ac .sc (ac .sc (ac (.ref rfl) (ac .sc an)))))) (ac (.cells id (ac (.own rfl) (ac .sc (ac .sc (ac .sc an))))) (ac .map (ac (.none _) (ac (.none _) (ac (.cells id (ac .sc an)) (ac (.cells id (all2_row _)) an)))))))) (AWops.nil (AW.ret ?_))
         obtain rfl := Option.some.inj h
         exact ⟨_, rfl, (wg 5 [0, 1, 2, 3, 4, 5, 6] [] rfl (le_upd (le_top _) (.t (.one .sc))) (ac (.cells id (ac (.mp rfl) (ac .sc (ac .sc (ac (.ref rfl) (ac .sc an)))))) (ac (.cells id (ac (.own rfl) (ac .sc (ac .sc (ac .sc an))))) (ac .map (ac (.none _) (ac (.none _) (ac (.cells id (ac .sc an)) (ac (.cells id (all2_row _)) an))))))))⟩
       ·refine AW.cond_no rfl c17 (AW.seq (AW.region ?_))
        refine s_binI (v := (.bool ((IntKind.i64.wrap (Int.tmod (IntKind.u64.wrap a0.Op) 9)) == 6))) rfl rfl rfl ?_
        refine s_assign (d := (sb ((IntKind.i64.wrap (Int.tmod (IntKind.u64.wrap a0.Op) 9)) == 6))) rfl (AWops.nil ?_)
        rcases itH h with ⟨c20, h⟩ | ⟨c20, h⟩
        ·refine AW.cond_yes rfl c20 (AW.seq ?_)
         refine AW.weak (st' := ⟨119, (upd 119 (upd 119 (upd 119 topF 1 (rf 0 0)) 2 (rf 1 0)) 3 (rf 5 0)), [(o_vdisk_Disk_03 false (C.mp 2) (C.ref 6 0) p0), (o_dossierref03_Disk_0 false (C.own 7 0 p1.L.length 3) p1), (om_ e_vdisk_file p0.files), none, none, (some (AObj.cells true (c_dossierplain_Step a0))), (some (AObj.cells false [(ci b0_3)])), (or_ e_dossierref03_File p1.L)]⟩) (wg 5 [0, 1, 2, 3, 4, 5, 6, 7] [] hx (le_upd (le_upd (le_upd (le_top _) (.t (.one (.ref rfl)))) (.t (.one (.ref rfl)))) (.t (.one (.ref rfl)))) (ac (.cells id (ac (.mp rfl) (ac .sc (ac .sc (ac (.ref rfl) (ac .sc an)))))) (ac (.cells id (ac (.own rfl) (ac .sc (ac .sc (ac .sc an))))) (ac .map (ac (.none _) (ac (.none _) (ac (.cells (fun _ => rfl) (ac .sc (ac .sc (ac .sc (ac .sc (ac .same (ac .same an))))))) (ac (.cells id (ac .sc an)) (ac (.cells id (all2_row _)) an))))))))) ?_
         obtain ⟨r21, er21, h⟩ := bnd h
         obtain ⟨r22, er22, h⟩ := bnd h
         refine AW.draw (n := 119) (L := 10) [(ft 0 90 (rf 0 0) [(1, (rf 0 0))]), (ft 1 91 (rf 5 1) [(3, (rf 5 0))]), (2, ⟨some 92, (si a0.N), [(91, (rf 5 1))], [(5, (some (AObj.cells true (c_dossierplain_Step a0))))], [], none⟩), (3, ⟨some 93, (si r21.1), [(90, (rf 0 0)), (92, (si a0.N))], [(0, (o_vdisk_Disk_03 false (C.mp 2) (C.ref 6 0) p0)), (2, (om_ e_vdisk_file p0.files)), (6, (some (AObj.cells false [(ci b0_3)])))], [(0, (o_vdisk_Disk_03 false (C.mp 2) (C.ref 8 0) r21.2.1)), (2, (om_ e_vdisk_file r21.2.1.files)), (6, none), (8, (some (AObj.cells false [(ci r21.2.2)])))], some 8⟩), (ft 4 94 (rf 1 0) [(2, (rf 1 0))]), (ft 5 95 (rf 5 1) [(3, (rf 5 0))]), (6, ⟨some 96, (si a0.N), [(95, (rf 5 1))], [(5, (some (AObj.cells true (c_dossierplain_Step a0))))], [], none⟩), (7, ⟨some 97, (si r22.1), [(94, (rf 1 0)), (96, (si a0.N))], [(1, (o_dossierref03_Disk_0 false (C.own 7 0 p1.L.length 3) p1)), (7, (or_ e_dossierref03_File p1.L))], [(1, (o_dossierref03_Disk_0 false (C.own 7 0 r22.2.L.length 3) r22.2)), (7, (or_ e_dossierref03_File r22.2.L))], none⟩), (ft 8 98 (sb (r21.1 == r22.1)) [(93, (si r21.1)), (97, (si r22.1))]), (ft 9 6 (sb (r21.1 == r22.1)) [(98, (sb (r21.1 == r22.1)))])] [[], [], [1], [0, 1, 2], [], [], [5], (.range 7), (.range 8), (.range 9)] (nl rfl) [0, 0, 1, 2, 0, 0, 1, 3, 4, 5] rfl (TK := [(3, 8)]) rfl (AllK.cons' ⟨(tk_upd (tk_upd (tk_upd tk_top rfl) rfl) rfl), (tC rfl (tC rfl (tC rfl (tC rfl (tC rfl (tC rfl (tC rfl (tC (tkO_row _) AllT.nil')))))))), (fC (.inr rfl) (fC (.inr rfl) (fC (.inr rfl) (fC (.inl rfl) (fC (.inr rfl) (fC (.inr rfl) (fC (.inr rfl) (fC (.inl rfl) (fC (.inl rfl) (fC (.inl rfl) AllF.nil'))))))))))⟩ AllK.nil') (by repeat (first | refine fC ⟨?_, ?_⟩ ?_ | refine sC rfl ?_ | refine hC rfl ?_ | trivial)) ?_ ?_
         ·refine (pC ?_ (pC ?_ (pC ?_ (pC ?_ (pC ?_ (pC ?_ (pC ?_ (pC ?_ (pC ?_ (pC ?_ AllStep.nil'))))))))))
          ·intro K rest fr hv htk k
           show AWops _ x _ _ K ⟨119, (upd 119 fr 1 (rf 0 0)), _⟩
           refine s_move (d := (rf 0 0)) rfl k
          ·intro K rest fr hv htk k
           show AWops _ x _ _ K ⟨119, (upd 119 fr 3 (rf 5 0)), [(hv 0), (hv 1), (hv 2), (hv 3), (hv 4), (hv 5), (hv 6), (hv 7), (hv 8), (hv 9)]⟩
           refine s_fieldRef F.fo_43_1 (by decide) rfl k
          ·intro K rest fr hv htk k
           show AWops _ x _ _ K ⟨119, (upd 119 fr 91 (rf 5 1)), [(hv 0), (hv 1), (hv 2), (hv 3), (hv 4), (some (AObj.cells true (c_dossierplain_Step a0))), (hv 6), (hv 7), (hv 8), (hv 9)]⟩
           refine s_load1 (c' := (ci a0.N)) F.ag_3 rfl rfl k
          ·intro K rest fr hv htk k
           show AWops _ x _ _ K ⟨119, (upd 119 (upd 119 fr 92 (si a0.N)) 90 (rf 0 0)), [(o_vdisk_Disk_03 false (C.mp 2) (C.ref 6 0) p0), (hv 1), (om_ e_vdisk_file p0.files), (hv 3), (hv 4), (hv 5), (some (AObj.cells false [(ci b0_3)])), (hv 7), (hv 8), (hv 9)]⟩
           refine s_call2 (ρ := [0, 2, 6]) (br := false) (H2 := [(o_vdisk_Disk_03 false (C.mp 2) (C.ref 10 0) r21.2.1), (hv 1), (om_ e_vdisk_file r21.2.1.files), (hv 3), (hv 4), (hv 5), none, (hv 7), (hv 8), (hv 9), (some (AObj.cells false [(ci r21.2.2)]))]) (d := (si r21.1)) F.ca_21 rfl rfl (ac (.one (.ref rfl)) (ac (.one .sc) an)) (ac (.cells (ac (.mp rfl) (ac .sc (ac .sc (ac (.ref rfl) (ac .sc an)))))) (ac .map (ac (.cells (ac .sc an)) an))) (by decide) rfl (vdisk_Disk_Fuse_21x.meets _ p0 b0_3 a0.N r21 er21) (.inl rfl) rfl rfl ?_
           refine AWops.weak (st' := ⟨119, (upd 119 (upd 119 (upd 119 fr 92 (si a0.N)) 90 (rf 0 0)) 93 (si r21.1)), [(o_vdisk_Disk_03 false (C.mp 2) (C.ref 8 0) r21.2.1), (hv 1), (om_ e_vdisk_file r21.2.1.files), (hv 3), (hv 4), (hv 5), none, (hv 7), (some (AObj.cells false [(ci r21.2.2)])), (hv 9)]⟩) (wg 5 [0, 1, 2, 3, 4, 5, 6, 7, 10, 9] [] hx (le_upd2 (le_ok (p := 8) (L := 10) rfl (htk 8 rfl).1) (.t (.one .sc))) (ac (.cells id (ac (.mp rfl) (ac .sc (ac .sc (ac (.ref rfl) (ac .sc an)))))) (ac (oq 8 10 (htk 8 rfl) 1) (ac .map (ac (oq 8 10 (htk 8 rfl) 3) (ac (oq 8 10 (htk 8 rfl) 4) (ac (oq 8 10 (htk 8 rfl) 5) (ac (.none _) (ac (oq 8 10 (htk 8 rfl) 7) (ac (.cells id (ac .sc an)) (ac (oq 8 10 (htk 8 rfl) 9) an))))))))))) k
          ·intro K rest fr hv htk k
           show AWops _ x _ _ K ⟨119, (upd 119 fr 2 (rf 1 0)), _⟩
           refine s_move (d := (rf 1 0)) rfl k
          ·intro K rest fr hv htk k
           show AWops _ x _ _ K ⟨119, (upd 119 fr 3 (rf 5 0)), [(hv 0), (hv 1), (hv 2), (hv 3), (hv 4), (hv 5), (hv 6), (hv 7), (hv 8), (hv 9)]⟩
           refine s_fieldRef F.fo_43_1 (by decide) rfl k
          ·intro K rest fr hv htk k
           show AWops _ x _ _ K ⟨119, (upd 119 fr 95 (rf 5 1)), [(hv 0), (hv 1), (hv 2), (hv 3), (hv 4), (some (AObj.cells true (c_dossierplain_Step a0))), (hv 6), (hv 7), (hv 8), (hv 9)]⟩
           refine s_load1 (c' := (ci a0.N)) F.ag_3 rfl rfl k
          ·intro K rest fr hv htk k
           show AWops _ x _ _ K ⟨119, (upd 119 (upd 119 fr 96 (si a0.N)) 94 (rf 1 0)), [(hv 0), (o_dossierref03_Disk_0 false (C.own 7 0 p1.L.length 3) p1), (hv 2), (hv 3), (hv 4), (hv 5), (hv 6), (or_ e_dossierref03_File p1.L), (hv 8), (hv 9)]⟩
           refine s_call2 (ρ := [1, 7]) (br := false) (H2 := [(hv 0), (o_dossierref03_Disk_0 false (C.own 7 0 r22.2.L.length 3) r22.2), (hv 2), (hv 3), (hv 4), (hv 5), (hv 6), (or_ e_dossierref03_File r22.2.L), (hv 8), (hv 9)]) (d := (si r22.1)) F.ca_43 rfl rfl (ac (.one (.ref rfl)) (ac (.one .sc) an)) (ac (.cells (ac (.own rfl) (ac .sc (ac .sc (ac .sc an))))) (ac (.cells (lend_row _)) an)) (by decide) rfl (dossierref03_Disk_Fuse.meets _ p1 a0.N r22 er22) (.inl rfl) (by first | rfl | (simp only [mS]; done) | (simp only [mS]; rfl)) rfl k
          ·intro K rest fr hv htk k
           show AWops _ x _ _ K ⟨119, (upd 119 (upd 119 fr 97 (si r22.1)) 93 (si r21.1)), _⟩
           refine s_binI (v := (.bool (r21.1 == r22.1))) rfl rfl rfl k
          ·intro K rest fr hv htk k
           show AWops _ x _ _ K ⟨119, (upd 119 fr 98 (sb (r21.1 == r22.1))), _⟩
           refine s_assign (d := (sb (r21.1 == r22.1))) rfl k
         ·refine AWops.weak (st' := ⟨119, (upd 119 topF 6 (sb (r21.1 == r22.1))), [(o_vdisk_Disk_03 false (C.mp 2) (C.ref 5 0) r21.2.1), (o_dossierref03_Disk_0 false (C.own 6 0 r22.2.L.length 3) r22.2), (om_ e_vdisk_file r21.2.1.files), none, none, (some (AObj.cells false [(ci r21.2.2)])), (or_ e_dossierref03_File r22.2.L)]⟩) (wg 5 [0, 1, 2, 3, 4, 8, 7] [] hx (le_upd (le_top _) (.t (.one .sc))) (ac (.cells id (ac (.mp rfl) (ac .sc (ac .sc (ac (.ref rfl) (ac .sc an)))))) (ac (.cells id (ac (.own rfl) (ac .sc (ac .sc (ac .sc an))))) (ac .map (ac (.none _) (ac (.none _) (ac (.cells id (ac .sc an)) (ac (.cells id (all2_row _)) an)))))))) (AWops.nil (AW.ret ?_))
          obtain rfl := Option.some.inj h
          exact ⟨_, rfl, (wg 5 [0, 1, 2, 3, 4, 5, 6] [] rfl (le_upd (le_top _) (.t (.one .sc))) (ac (.cells id (ac (.mp rfl) (ac .sc (ac .sc (ac (.ref rfl) (ac .sc an)))))) (ac (.cells id (ac (.own rfl) (ac .sc (ac .sc (ac .sc an))))) (ac .map (ac (.none _) (ac (.none _) (ac (.cells id (ac .sc an)) (ac (.cells id (all2_row _)) an))))))))⟩
        ·refine AW.cond_no rfl c20 (AW.seq (AW.region ?_))
         refine s_binI (v := (.bool ((IntKind.i64.wrap (Int.tmod (IntKind.u64.wrap a0.Op) 9)) == 7))) rfl rfl rfl ?_
         refine s_assign (d := (sb ((IntKind.i64.wrap (Int.tmod (IntKind.u64.wrap a0.Op) 9)) == 7))) rfl (AWops.nil ?_)
         rcases itH h with ⟨c23, h⟩ | ⟨c23, h⟩
         ·refine AW.cond_yes rfl c23 (AW.seq (AW.region ?_))
          refine s_move (d := (rf 1 0)) rfl ?_
          refine s_fieldRef F.fo_43_5 (by decide) rfl ?_
          refine s_load1 (c' := (C.p false (.sl a0.Keeps.length (a0.Keeps.flatMap e_i64)))) F.ag_24 rfl rfl ?_
          obtain ⟨r24, er24, h⟩ := bnd h
          refine s_call2 (ρ := [1, 7]) (br := false) (H2 := [(o_vdisk_Disk_03 false (C.mp 2) (C.ref 6 0) p0), (o_dossierref03_Disk_0 false (C.own 8 0 r24.L.length 3) r24), (om_ e_vdisk_file p0.files), none, none, (some (AObj.cells true (c_dossierplain_Step a0))), (some (AObj.cells false [(ci b0_3)])), none, (or_ e_dossierref03_File r24.L)]) (d := (D.tup [])) F.ca_44 rfl rfl (ac (.one (.ref rfl)) (ac (.one .imm) an)) (ac (.cells (ac (.own rfl) (ac .sc (ac .sc (ac .sc an))))) (ac (.cells (lend_row _)) an)) (by decide) rfl (dossierref03_Disk_Crash_44.meets _ p1 a0.Keeps r24 er24) (.inl rfl) (by first | rfl | (simp only [mS]; done) | (simp only [mS]; rfl)) rfl (AWops.nil (AW.seq (AW.region ?_)))
          refine s_move (d := (rf 0 0)) rfl ?_
          refine s_fieldRef F.fo_43_5 (by decide) rfl ?_
          refine s_load1 (c' := (C.p false (.sl a0.Keeps.length (a0.Keeps.flatMap e_i64)))) F.ag_24 rfl rfl ?_
          obtain ⟨r25, er25, h⟩ := bnd h
          refine s_call2 (ρ := [0, 2, 6]) (br := false) (H2 := [(o_vdisk_Disk_03 false (C.mp 2) (C.p true (.v (.pointer none))) r25.2), (o_dossierref03_Disk_0 false (C.own 8 0 r24.L.length 3) r24), (om_ e_vdisk_file r25.2.files), none, none, (some (AObj.cells true (c_dossierplain_Step a0))), none, none, (or_ e_dossierref03_File r24.L)]) (d := (si r25.1)) F.ca_11 rfl rfl (ac (.one (.ref rfl)) (ac (.one .imm) an)) (ac (.cells (ac (.mp rfl) (ac .sc (ac .sc (ac (.ref rfl) (ac .sc an)))))) (ac .map (ac (.cells (ac .sc an)) an))) (by decide) rfl (vdisk_Disk_Crash_11x.meets _ p0 b0_3 a0.Keeps r25 er25) (.inl rfl) rfl rfl ?_
          refine s_binI (v := (.bool (r25.1 == 0))) rfl rfl rfl ?_
          refine s_assign (d := (sb (r25.1 == 0))) rfl (AWops.nil (AW.ret ?_))
          obtain rfl := Option.some.inj h
          exact ⟨_, rfl, (wg 5 [0, 1, 2, 3, 4, 8] [] rfl (le_upd (le_top _) (.t (.one .sc))) (ac (.cells id (ac (.mp rfl) (ac .sc (ac .sc (ac .sc (ac .sc an)))))) (ac (.cells id (ac (.own rfl) (ac .sc (ac .sc (ac .sc an))))) (ac .map (ac (.none _) (ac (.none _) (ac (.cells id (all2_row _)) an)))))))⟩
         ·refine AW.cond_no rfl c23 (AW.skip (AW.seq ?_))
          refine AW.weak (st' := ⟨119, (upd 119 (upd 119 (upd 119 topF 1 (rf 0 0)) 2 (rf 1 0)) 3 (rf 5 0)), [(o_vdisk_Disk_03 false (C.mp 2) (C.ref 6 0) p0), (o_dossierref03_Disk_0 false (C.own 7 0 p1.L.length 3) p1), (om_ e_vdisk_file p0.files), none, none, (some (AObj.cells true (c_dossierplain_Step a0))), (some (AObj.cells false [(ci b0_3)])), (or_ e_dossierref03_File p1.L)]⟩) (wg 5 [0, 1, 2, 3, 4, 5, 6, 7] [] hx (le_upd (le_upd (le_upd (le_top _) (.t (.one (.ref rfl)))) (.t (.one (.ref rfl)))) (.t (.one (.ref rfl)))) (ac (.cells id (ac (.mp rfl) (ac .sc (ac .sc (ac (.ref rfl) (ac .sc an)))))) (ac (.cells id (ac (.own rfl) (ac .sc (ac .sc (ac .sc an))))) (ac .map (ac (.none _) (ac (.none _) (ac (.cells (fun _ => rfl) (ac .sc (ac .sc (ac .sc (ac .sc (ac .same (ac .same an))))))) (ac (.cells id (ac .sc an)) (ac (.cells id (all2_row _)) an))))))))) ?_
          obtain ⟨r26, er26, h⟩ := bnd h
          obtain ⟨r27, er27, h⟩ := bnd h
          refine AW.draw (n := 119) (L := 10) [(ft 0 110 (rf 0 0) [(1, (rf 0 0))]), (ft 1 111 (rf 5 1) [(3, (rf 5 0))]), (2, ⟨some 112, (si a0.N), [(111, (rf 5 1))], [(5, (some (AObj.cells true (c_dossierplain_Step a0))))], [], none⟩), (3, ⟨some 113, (si r26.1), [(110, (rf 0 0)), (112, (si a0.N))], [(0, (o_vdisk_Disk_03 false (C.mp 2) (C.ref 6 0) p0)), (2, (om_ e_vdisk_file p0.files)), (6, (some (AObj.cells false [(ci b0_3)])))], [(0, (o_vdisk_Disk_03 false (C.mp 2) (C.ref 6 0) r26.2)), (2, (om_ e_vdisk_file r26.2.files))], none⟩), (ft 4 114 (rf 1 0) [(2, (rf 1 0))]), (ft 5 115 (rf 5 1) [(3, (rf 5 0))]), (6, ⟨some 116, (si a0.N), [(115, (rf 5 1))], [(5, (some (AObj.cells true (c_dossierplain_Step a0))))], [], none⟩), (7, ⟨some 117, (si r27.1), [(114, (rf 1 0)), (116, (si a0.N))], [(1, (o_dossierref03_Disk_0 false (C.own 7 0 p1.L.length 3) p1)), (7, (or_ e_dossierref03_File p1.L))], [(1, (o_dossierref03_Disk_0 false (C.own 7 0 r27.2.L.length 3) r27.2)), (7, (or_ e_dossierref03_File r27.2.L))], none⟩), (ft 8 118 (sb (r26.1 == r27.1)) [(113, (si r26.1)), (117, (si r27.1))]), (ft 9 6 (sb (r26.1 == r27.1)) [(118, (sb (r26.1 == r27.1)))])] [[], [], [1], [0, 1, 2], [], [], [5], (.range 7), (.range 8), (.range 9)] (nl rfl) [0, 0, 1, 2, 0, 0, 1, 3, 4, 5] rfl (TK := []) rfl AllK.nil' (by repeat (first | refine fC ⟨?_, ?_⟩ ?_ | refine sC rfl ?_ | refine hC rfl ?_ | trivial)) ?_ ?_
          ·refine (pC ?_ (pC ?_ (pC ?_ (pC ?_ (pC ?_ (pC ?_ (pC ?_ (pC ?_ (pC ?_ (pC ?_ AllStep.nil'))))))))))
           ·intro K rest fr hv htk k
            show AWops _ x _ _ K ⟨119, (upd 119 fr 1 (rf 0 0)), _⟩
            refine s_move (d := (rf 0 0)) rfl k
           ·intro K rest fr hv htk k
            show AWops _ x _ _ K ⟨119, (upd 119 fr 3 (rf 5 0)), [(hv 0), (hv 1), (hv 2), (hv 3), (hv 4), (hv 5), (hv 6), (hv 7), (hv 8), (hv 9)]⟩
            refine s_fieldRef F.fo_43_1 (by decide) rfl k
           ·intro K rest fr hv htk k
            show AWops _ x _ _ K ⟨119, (upd 119 fr 111 (rf 5 1)), [(hv 0), (hv 1), (hv 2), (hv 3), (hv 4), (some (AObj.cells true (c_dossierplain_Step a0))), (hv 6), (hv 7), (hv 8), (hv 9)]⟩
            refine s_load1 (c' := (ci a0.N)) F.ag_3 rfl rfl k
           ·intro K rest fr hv htk k
            show AWops _ x _ _ K ⟨119, (upd 119 (upd 119 fr 112 (si a0.N)) 110 (rf 0 0)), [(o_vdisk_Disk_03 false (C.mp 2) (C.ref 6 0) p0), (hv 1), (om_ e_vdisk_file p0.files), (hv 3), (hv 4), (hv 5), (some (AObj.cells false [(ci b0_3)])), (hv 7), (hv 8), (hv 9)]⟩
            refine s_call2 (ρ := [0, 2, 6]) (br := false) (H2 := [(o_vdisk_Disk_03 false (C.mp 2) (C.ref 6 0) r26.2), (hv 1), (om_ e_vdisk_file r26.2.files), (hv 3), (hv 4), (hv 5), (some (AObj.cells false [(ci b0_3)])), (hv 7), (hv 8), (hv 9)]) (d := (si r26.1)) F.ca_22 rfl rfl (ac (.one (.ref rfl)) (ac (.one .sc) an)) (ac (.cells (ac (.mp rfl) (ac .sc (ac .sc (ac (.ref rfl) (ac .sc an)))))) (ac .map (ac (.cells (ac .sc an)) an))) (by decide) rfl (vdisk_Disk_Room_22.meets _ p0 a0.N b0_3 r26 er26) (.inl rfl) rfl rfl k
           ·intro K rest fr hv htk k
            show AWops _ x _ _ K ⟨119, (upd 119 fr 2 (rf 1 0)), _⟩
            refine s_move (d := (rf 1 0)) rfl k
           ·intro K rest fr hv htk k
            show AWops _ x _ _ K ⟨119, (upd 119 fr 3 (rf 5 0)), [(hv 0), (hv 1), (hv 2), (hv 3), (hv 4), (hv 5), (hv 6), (hv 7), (hv 8), (hv 9)]⟩
            refine s_fieldRef F.fo_43_1 (by decide) rfl k
           ·intro K rest fr hv htk k
            show AWops _ x _ _ K ⟨119, (upd 119 fr 115 (rf 5 1)), [(hv 0), (hv 1), (hv 2), (hv 3), (hv 4), (some (AObj.cells true (c_dossierplain_Step a0))), (hv 6), (hv 7), (hv 8), (hv 9)]⟩
            refine s_load1 (c' := (ci a0.N)) F.ag_3 rfl rfl k
           ·intro K rest fr hv htk k
            show AWops _ x _ _ K ⟨119, (upd 119 (upd 119 fr 116 (si a0.N)) 114 (rf 1 0)), [(hv 0), (o_dossierref03_Disk_0 false (C.own 7 0 p1.L.length 3) p1), (hv 2), (hv 3), (hv 4), (hv 5), (hv 6), (or_ e_dossierref03_File p1.L), (hv 8), (hv 9)]⟩
            refine s_call2 (ρ := [1, 7]) (br := false) (H2 := [(hv 0), (o_dossierref03_Disk_0 false (C.own 7 0 r27.2.L.length 3) r27.2), (hv 2), (hv 3), (hv 4), (hv 5), (hv 6), (or_ e_dossierref03_File r27.2.L), (hv 8), (hv 9)]) (d := (si r27.1)) F.ca_45 rfl rfl (ac (.one (.ref rfl)) (ac (.one .sc) an)) (ac (.cells (ac (.own rfl) (ac .sc (ac .sc (ac .sc an))))) (ac (.cells (lend_row _)) an)) (by decide) rfl (dossierref03_Disk_Room.meets _ p1 a0.N r27 er27) (.inl rfl) (by first | rfl | (simp only [mS]; done) | (simp only [mS]; rfl)) rfl k
           ·intro K rest fr hv htk k
            show AWops _ x _ _ K ⟨119, (upd 119 (upd 119 fr 117 (si r27.1)) 113 (si r26.1)), _⟩
            refine s_binI (v := (.bool (r26.1 == r27.1))) rfl rfl rfl k
           ·intro K rest fr hv htk k
            show AWops _ x _ _ K ⟨119, (upd 119 fr 118 (sb (r26.1 == r27.1))), _⟩
            refine s_assign (d := (sb (r26.1 == r27.1))) rfl k
          ·refine AWops.weak (st' := ⟨119, (upd 119 topF 6 (sb (r26.1 == r27.1))), [(o_vdisk_Disk_03 false (C.mp 2) (C.ref 5 0) r26.2), (o_dossierref03_Disk_0 false (C.own 6 0 r27.2.L.length 3) r27.2), (om_ e_vdisk_file r26.2.files), none, none, (some (AObj.cells false [(ci b0_3)])), (or_ e_dossierref03_File r27.2.L)]⟩) (wg 5 [0, 1, 2, 3, 4, 6, 7] [] hx (le_upd (le_top _) (.t (.one .sc))) (ac (.cells id (ac (.mp rfl) (ac .sc (ac .sc (ac (.ref rfl) (ac .sc an)))))) (ac (.cells id (ac (.own rfl) (ac .sc (ac .sc (ac .sc an))))) (ac .map (ac (.none _) (ac (.none _) (ac (.cells id (ac .sc an)) (ac (.cells id (all2_row _)) an)))))))) (AWops.nil (AW.ret ?_))
           obtain rfl := Option.some.inj h
           exact ⟨_, rfl, (wg 5 [0, 1, 2, 3, 4, 5, 6] [] rfl (le_upd (le_top _) (.t (.one .sc))) (ac (.cells id (ac (.mp rfl) (ac .sc (ac .sc (ac (.ref rfl) (ac .sc an)))))) (ac (.cells id (ac (.own rfl) (ac .sc (ac .sc (ac .sc an))))) (ac .map (ac (.none _) (ac (.none _) (ac (.cells id (ac .sc an)) (ac (.cells id (all2_row _)) an))))))))⟩
end Go.Abs.GenLv
