import Derived.Test.YtiegaebmhpdnmaaGenLvb
set_option linter.unusedVariables false
set_option linter.unusedSimpArgs false
set_option maxRecDepth 100000
set_option maxHeartbeats 4000000
namespace Go.Abs.GenLv
open Go.Abs Go.Proofs
def dossierref03_Disk_cut_59.f (k : Nat) (p0 : dossierref03_Disk) (a1 : ByteArray) : Option dossierref03_Disk := (dossierref03_Disk_place.f k p0 a1).bind fun r1 => if (decide (0 ≤ 0 ∧ 0 ≤ r1.1 ∧ r1.1 ≤ (p0.L.length : Int))) = true then (if (decide (([] : List dossierref03_File).length + (sub p0.L 0 r1.1).length ≤ 2932031007402)) = true then (if (decide (0 ≤ (IntKind.i64.wrap (r1.1 + 1)) ∧ (IntKind.i64.wrap (r1.1 + 1)) ≤ (p0.L.length : Int) ∧ (p0.L.length : Int) ≤ (p0.L.length : Int))) = true then (if (decide ((sub p0.L 0 r1.1).length + (sub p0.L (IntKind.i64.wrap (r1.1 + 1)) (p0.L.length : Int)).length ≤ 2932031007402)) = true then (some (⟨(sub p0.L 0 r1.1) ++ (sub p0.L (IntKind.i64.wrap (r1.1 + 1)) (p0.L.length : Int)), p0.Most, p0.Burns, p0.Off⟩ : dossierref03_Disk)) else none) else none) else none) else none
theorem dossierref03_Disk_cut_59.meets (k : Nat) (p0 : dossierref03_Disk) (a1 : ByteArray) (r : dossierref03_Disk) (h : dossierref03_Disk_cut_59.f k p0 a1 = some r) : Meets Try.prog 59 [(rf 0 0), (st_ a1)] [(o_dossierref03_Disk_0 false (C.own 1 0 p0.L.length 3) p0), (or_ e_dossierref03_File p0.L)] (D.tup []) [(o_dossierref03_Disk_0 false (C.own 2 0 r.L.length 3) r), none, (or_ e_dossierref03_File r.L)] := by
 unfold dossierref03_Disk_cut_59.f at h
 refine Meets.of_body (n := 31) Try.func59 rfl rfl (nl rfl) fun x hx => ?_
 replace hx : x.k = 2 := hx
 show AW _ x _ _ ⟨31, fr0 [(rf 0 0), (st_ a1)], [(o_dossierref03_Disk_0 false (C.own 1 0 p0.L.length 3) p0), (or_ e_dossierref03_File p0.L)]⟩
 refine AW.weak (st' := ⟨31, (upd 31 (upd 31 topF 0 (rf 0 0)) 1 (st_ a1)), [(o_dossierref03_Disk_0 false (C.own 2 0 p0.L.length 3) p0), none, (or_ e_dossierref03_File p0.L)]⟩) (Weak.genL (kk := 2) [0, 1, 1] [] hx rfl (by decide) rfl rfl rfl rfl (le_upd (le_upd (le_top _) (.t (.one (.ref rfl)))) (.t (.one .sc))) (ac (.cells id (ac (.own rfl) (ac .sc (ac .sc (ac .sc an))))) (ac (.none _) (ac (.cells id (all2_row _)) an)))) (AW.seq (AW.region ?_))
 refine s_move (d := (rf 0 0)) rfl ?_
 refine s_move (d := (st_ a1)) rfl ?_
 obtain ⟨r1, er1, h⟩ := bnd h
 refine s_call2 (ρ := [0, 2]) (br := false) (H2 := [(o_dossierref03_Disk_0 false (C.own 2 0 p0.L.length 3) p0), none, (or_ e_dossierref03_File p0.L)]) (d := (D.tup [(si r1.1), (sb r1.2)])) F.ca_57 rfl rfl (ac (.one (.ref rfl)) (ac (.one .sc) an)) (ac (.cells (ac (.own rfl) (ac .sc (ac .sc (ac .sc an))))) (ac (.cells (lend_row _)) an)) (by decide) rfl (dossierref03_Disk_place.meets _ p0 a1 r1 er1) (.inl rfl) (by first | rfl | (simp only [mS]; done) | (simp only [mS]; rfl)) rfl ?_
 refine s_move (d := (D.tup [(si r1.1), (sb r1.2)])) rfl ?_
 refine s_extract (d := (si r1.1)) rfl rfl ?_
 refine s_extract (d := (sb r1.2)) rfl rfl ?_
 refine s_assign (d := (si r1.1)) rfl ?_
 refine s_assign (d := (sb r1.2)) rfl (AWops.nil ?_)
 refine AW.weak (st' := ⟨31, (upd 31 (upd 31 (upd 31 (upd 31 (upd 31 (upd 31 (upd 31 (upd 31 (upd 31 (upd 31 topF 0 (rf 0 0)) 1 (st_ a1)) 4 (si r1.1)) 5 (sb r1.2)) 6 (D.tup [(si r1.1), (sb r1.2)])) 7 (rf 0 0)) 8 (st_ a1)) 9 (D.tup [(si r1.1), (sb r1.2)])) 10 (si r1.1)) 11 (sb r1.2)), [(some (AObj.cells false (c_dossierref03_Disk p0))), none]⟩) (wg 2 [0, 1] [2] hx (le_upd (le_upd (le_upd (le_upd (le_upd (le_upd (le_upd (le_upd (le_upd (le_upd (le_top _) (.t (.one (.ref rfl)))) (.t (.one .sc))) (.t (.one .sc))) (.t (.one .sc))) (DLe.tup (ac (TLe.one .sc) (ac (TLe.one .sc) an)))) (.t (.one (.ref rfl)))) (.t (.one .sc))) (DLe.tup (ac (TLe.one .sc) (ac (TLe.one .sc) an)))) (.t (.one .sc))) (.t (.one .sc))) (ac (.cells id (ac (CLe.frz e_dossierref03_File_len rfl rfl rfl) (ac .sc (ac .sc (ac .sc an))))) (ac (.none _) an))) ?_
 refine AW.weak (st' := ⟨31, (upd 31 (upd 31 topF 0 (rf 0 0)) 4 (si r1.1)), [(some (AObj.cells false (c_dossierref03_Disk p0))), none]⟩) (wg 2 [0, 1] [] hx (le_upd (le_upd (le_top _) (.t (.one (.ref rfl)))) (.t (.one .sc))) (ac (.cells id (ac .same (ac .sc (ac .sc (ac .sc an))))) (ac (.none _) an))) ?_
 obtain ⟨c2, h⟩ := gdH h
 have dc2 := of_decide_eq_true c2
 obtain ⟨c3, h⟩ := gdH h
 have dc3 := of_decide_eq_true c3
 obtain ⟨c4, h⟩ := gdH h
 have dc4 := of_decide_eq_true c4
 obtain ⟨c5, h⟩ := gdH h
 have dc5 := of_decide_eq_true c5
 refine AW.draw (n := 31) (L := 5) [(ft 0 12 (rf 0 0) [(0, (rf 0 0))]), (1, ⟨some 13, (D.one (C.own 2 0 (([] : List dossierref03_File).length) 3)), [], [], [(2, (some (AObj.cells true (rowC e_dossierref03_File ([] : List dossierref03_File)))))], some 2⟩), (ft 2 14 (rf 0 0) [(0, (rf 0 0))]), (ft 3 15 (rf 0 0) [(14, (rf 0 0))]), (ft 4 16 (rf 0 0) [(15, (rf 0 0))]), (5, ⟨some 17, (D.one (C.p false (.sl p0.L.length (p0.L.flatMap e_dossierref03_File)))), [(16, (rf 0 0))], [(0, (some (AObj.cells false (c_dossierref03_Disk p0))))], [], none⟩), (ft 6 18 (si r1.1) [(4, (si r1.1))]), (ft 7 19 (D.one (C.p false (.sl (sub p0.L 0 r1.1).length ((sub p0.L 0 r1.1).flatMap e_dossierref03_File)))) [(17, (D.one (C.p false (.sl p0.L.length (p0.L.flatMap e_dossierref03_File))))), (18, (si r1.1))]), (8, ⟨some 20, (D.one (C.own 3 0 ((sub p0.L 0 r1.1).length) 3)), [(13, (D.one (C.own 2 0 (([] : List dossierref03_File).length) 3))), (19, (D.one (C.p false (.sl (sub p0.L 0 r1.1).length ((sub p0.L 0 r1.1).flatMap e_dossierref03_File)))))], [(2, (some (AObj.cells true (rowC e_dossierref03_File ([] : List dossierref03_File)))))], [(2, none), (3, (some (AObj.cells true (rowC e_dossierref03_File (sub p0.L 0 r1.1)))))], some 3⟩), (ft 9 21 (rf 0 0) [(0, (rf 0 0))]), (ft 10 22 (rf 0 0) [(21, (rf 0 0))]), (ft 11 23 (rf 0 0) [(22, (rf 0 0))]), (12, ⟨some 24, (D.one (C.p false (.sl p0.L.length (p0.L.flatMap e_dossierref03_File)))), [(23, (rf 0 0))], [(0, (some (AObj.cells false (c_dossierref03_Disk p0))))], [], none⟩), (ft 13 25 (si r1.1) [(4, (si r1.1))]), (ft 14 26 (si (IntKind.i64.wrap (r1.1 + 1))) [(25, (si r1.1))]), (ft 15 27 (D.one (C.p false (.sl (sub p0.L (IntKind.i64.wrap (r1.1 + 1)) (p0.L.length : Int)).length ((sub p0.L (IntKind.i64.wrap (r1.1 + 1)) (p0.L.length : Int)).flatMap e_dossierref03_File)))) [(24, (D.one (C.p false (.sl p0.L.length (p0.L.flatMap e_dossierref03_File))))), (26, (si (IntKind.i64.wrap (r1.1 + 1))))]), (16, ⟨some 28, (D.one (C.own 4 0 (((sub p0.L 0 r1.1) ++ (sub p0.L (IntKind.i64.wrap (r1.1 + 1)) (p0.L.length : Int))).length) 3)), [(20, (D.one (C.own 3 0 ((sub p0.L 0 r1.1).length) 3))), (27, (D.one (C.p false (.sl (sub p0.L (IntKind.i64.wrap (r1.1 + 1)) (p0.L.length : Int)).length ((sub p0.L (IntKind.i64.wrap (r1.1 + 1)) (p0.L.length : Int)).flatMap e_dossierref03_File)))))], [(3, (some (AObj.cells true (rowC e_dossierref03_File (sub p0.L 0 r1.1)))))], [(3, none), (4, (some (AObj.cells true (rowC e_dossierref03_File ((sub p0.L 0 r1.1) ++ (sub p0.L (IntKind.i64.wrap (r1.1 + 1)) (p0.L.length : Int)))))))], some 4⟩), (ft 17 29 (rf 0 0) [(12, (rf 0 0))]), (ft 18 30 (rf 0 0) [(29, (rf 0 0))]), (19, ⟨none, (D.one C.top), [(28, (D.one (C.own 4 0 (((sub p0.L 0 r1.1) ++ (sub p0.L (IntKind.i64.wrap (r1.1 + 1)) (p0.L.length : Int))).length) 3))), (30, (rf 0 0))], [(0, (some (AObj.cells false (c_dossierref03_Disk p0))))], [(0, (o_dossierref03_Disk_0 false (C.own 4 0 (((sub p0.L 0 r1.1) ++ (sub p0.L (IntKind.i64.wrap (r1.1 + 1)) (p0.L.length : Int))).length) 3) p0))], none⟩)] [[], [], [], [2], [2, 3], [2, 3, 4], [], [2, 3, 4, 5, 6], [1, 2, 3, 4, 5, 6, 7], [], [9], [9, 10], [9, 10, 11], [], [13], [9, 10, 11, 12, 13, 14], [1, 2, 3, 4, 5, 6, 7, 8, 9, 10, 11, 12, 13, 14, 15], (.range 17), (.range 18), (.range 19)] (nl rfl) [0, 0, 0, 1, 2, 3, 0, 4, 5, 0, 1, 2, 3, 0, 1, 4, 6, 7, 8, 9] rfl (TK := [(1, 2), (8, 3), (16, 4)]) rfl (AllK.cons' ⟨(tk_upd (tk_upd tk_top rfl) rfl), (tC rfl (tC rfl AllT.nil')), (by repeat (first | refine fC (.inl rfl) ?_ | refine fC (.inr rfl) ?_ | refine fC (.inr (by unfold tkFoot; simp only [List.all_cons, List.all_nil, tkO_row, Bool.and_true, Bool.true_and]; rfl)) ?_ | trivial))⟩ (AllK.cons' ⟨(tk_upd (tk_upd tk_top rfl) rfl), (tC rfl (tC rfl AllT.nil')), (by repeat (first | refine fC (.inl rfl) ?_ | refine fC (.inr rfl) ?_ | refine fC (.inr (by unfold tkFoot; simp only [List.all_cons, List.all_nil, tkO_row, Bool.and_true, Bool.true_and]; rfl)) ?_ | trivial))⟩ (AllK.cons' ⟨(tk_upd (tk_upd tk_top rfl) rfl), (tC rfl (tC rfl AllT.nil')), (by repeat (first | refine fC (.inl rfl) ?_ | refine fC (.inr rfl) ?_ | refine fC (.inr (by unfold tkFoot; simp only [List.all_cons, List.all_nil, tkO_row, Bool.and_true, Bool.true_and]; rfl)) ?_ | trivial))⟩ AllK.nil'))) (by repeat (first | refine fC ⟨?_, ?_⟩ ?_ | refine sC rfl ?_ | refine hC rfl ?_ | trivial)) ?_ ?_
 ·refine (pC ?_ (pC ?_ (pC ?_ (pC ?_ (pC ?_ (pC ?_ (pC ?_ (pC ?_ (pC ?_ (pC ?_ (pC ?_ (pC ?_ (pC ?_ (pC ?_ (pC ?_ (pC ?_ (pC ?_ (pC ?_ (pC ?_ (pC ?_ AllStep.nil'))))))))))))))))))))
  ·intro K rest fr hv htk k
   show AWops _ x _ _ K ⟨31, (upd 31 fr 0 (rf 0 0)), _⟩
   refine s_move (d := (rf 0 0)) rfl k
  ·intro K rest fr hv htk k
   show AWops _ x _ _ K ⟨31, fr, [(hv 0), (hv 1), (hv 2), (hv 3), (hv 4)]⟩
   refine s_buildSlice (n := 0) (ps := []) (cs := rowC e_dossierref03_File ([] : List dossierref03_File)) F.u_70 F.sz_82 F.z_82 rfl rfl (by decide) (by decide) rfl rfl ?_
   refine AWops.weak (st' := ⟨31, (upd 31 fr 13 (D.one (C.own 2 0 (([] : List dossierref03_File).length) 3))), [(hv 0), (hv 1), (some (AObj.cells true (rowC e_dossierref03_File ([] : List dossierref03_File)))), (hv 3), (hv 4)]⟩) (wg 2 [0, 1, 5, 3, 4] [] hx (le_upd2 (le_ok (p := 2) (L := 5) rfl (htk 2 rfl).1) (.t (.one (.own rfl)))) (ac (oq 2 5 (htk 2 rfl) 0) (ac (oq 2 5 (htk 2 rfl) 1) (ac (.cells (fun _ => rfl) (all2_row _)) (ac (oq 2 5 (htk 2 rfl) 3) (ac (oq 2 5 (htk 2 rfl) 4) an)))))) k
  ·intro K rest fr hv htk k
   show AWops _ x _ _ K ⟨31, (upd 31 fr 0 (rf 0 0)), _⟩
   refine s_move (d := (rf 0 0)) rfl k
  ·intro K rest fr hv htk k
   show AWops _ x _ _ K ⟨31, (upd 31 fr 14 (rf 0 0)), [(hv 0), (hv 1), (hv 2), (hv 3), (hv 4)]⟩
   refine s_nilCheck (d := (rf 0 0)) rfl (.inl ⟨_, _, rfl⟩) k
  ·intro K rest fr hv htk k
   show AWops _ x _ _ K ⟨31, (upd 31 fr 15 (rf 0 0)), [(hv 0), (hv 1), (hv 2), (hv 3), (hv 4)]⟩
   refine s_fieldRef F.fo_72_0 (by decide) rfl k
  ·intro K rest fr hv htk k
   show AWops _ x _ _ K ⟨31, (upd 31 fr 16 (rf 0 0)), [(some (AObj.cells false (c_dossierref03_Disk p0))), (hv 1), (hv 2), (hv 3), (hv 4)]⟩
   refine s_load1 (c' := (C.p false (.sl p0.L.length (p0.L.flatMap e_dossierref03_File)))) F.ag_70 rfl rfl k
  ·intro K rest fr hv htk k
   show AWops _ x _ _ K ⟨31, (upd 31 fr 4 (si r1.1)), _⟩
   refine s_move (d := (si r1.1)) rfl k
  ·intro K rest fr hv htk k
   show AWops _ x _ _ K ⟨31, (upd 31 (upd 31 fr 18 (si r1.1)) 17 (D.one (C.p false (.sl p0.L.length (p0.L.flatMap e_dossierref03_File))))), [(hv 0), (hv 1), (hv 2), (hv 3), (hv 4)]⟩
   refine t_sliceImm (a := 0) (b := r1.1) F.u_70 F.sz_82 e_dossierref03_File_len rfl (by omega) (by omega) (by omega) .no (.yes rfl (by omega) rfl) k
  ·intro K rest fr hv htk k
   show AWops _ x _ _ K ⟨31, (upd 31 (upd 31 fr 19 (D.one (C.p false (.sl (sub p0.L 0 r1.1).length ((sub p0.L 0 r1.1).flatMap e_dossierref03_File))))) 13 (D.one (C.own 2 0 (([] : List dossierref03_File).length) 3))), [(hv 0), (hv 1), (some (AObj.cells true (rowC e_dossierref03_File ([] : List dossierref03_File)))), (hv 3), (hv 4)]⟩
   refine t_append (xs := ([] : List dossierref03_File)) (ys := sub p0.L 0 r1.1) (zs := sub p0.L 0 r1.1) (H' := [(hv 0), (hv 1), none, (hv 3), (hv 4), (some (AObj.cells true (rowC e_dossierref03_File (sub p0.L 0 r1.1))))]) F.u_70 F.in_82 rfl e_dossierref03_File_len (.own rfl rfl) .imm F.u_70 (by omega) (by omega) rfl rfl ?_
   refine AWops.weak (st' := ⟨31, (upd 31 (upd 31 (upd 31 fr 19 (D.one (C.p false (.sl (sub p0.L 0 r1.1).length ((sub p0.L 0 r1.1).flatMap e_dossierref03_File))))) 13 (D.one (C.own 2 0 (([] : List dossierref03_File).length) 3))) 20 (D.one (C.own 3 0 ((sub p0.L 0 r1.1).length) 3))), [(hv 0), (hv 1), none, (some (AObj.cells true (rowC e_dossierref03_File (sub p0.L 0 r1.1)))), (hv 4)]⟩) (wg 2 [0, 1, 2, 5, 4] [] hx (le_upd2 (le_ok (p := 3) (L := 5) rfl (htk 3 rfl).1) (.t (.one (.own rfl)))) (ac (oq 3 5 (htk 3 rfl) 0) (ac (oq 3 5 (htk 3 rfl) 1) (ac (.none _) (ac (.cells (fun _ => rfl) (all2_row _)) (ac (oq 3 5 (htk 3 rfl) 4) an)))))) k
  ·intro K rest fr hv htk k
   show AWops _ x _ _ K ⟨31, (upd 31 fr 0 (rf 0 0)), _⟩
   refine s_move (d := (rf 0 0)) rfl k
  ·intro K rest fr hv htk k
   show AWops _ x _ _ K ⟨31, (upd 31 fr 21 (rf 0 0)), [(hv 0), (hv 1), (hv 2), (hv 3), (hv 4)]⟩
   refine s_nilCheck (d := (rf 0 0)) rfl (.inl ⟨_, _, rfl⟩) k
  ·intro K rest fr hv htk k
   show AWops _ x _ _ K ⟨31, (upd 31 fr 22 (rf 0 0)), [(hv 0), (hv 1), (hv 2), (hv 3), (hv 4)]⟩
   refine s_fieldRef F.fo_72_0 (by decide) rfl k
  ·intro K rest fr hv htk k
   show AWops _ x _ _ K ⟨31, (upd 31 fr 23 (rf 0 0)), [(some (AObj.cells false (c_dossierref03_Disk p0))), (hv 1), (hv 2), (hv 3), (hv 4)]⟩
   refine s_load1 (c' := (C.p false (.sl p0.L.length (p0.L.flatMap e_dossierref03_File)))) F.ag_70 rfl rfl k
  ·intro K rest fr hv htk k
   show AWops _ x _ _ K ⟨31, (upd 31 fr 4 (si r1.1)), _⟩
   refine s_move (d := (si r1.1)) rfl k
  ·intro K rest fr hv htk k
   show AWops _ x _ _ K ⟨31, (upd 31 fr 25 (si r1.1)), _⟩
   refine s_binI (v := (.int .i64 (IntKind.i64.wrap (r1.1 + 1)))) rfl rfl rfl k
  ·intro K rest fr hv htk k
   show AWops _ x _ _ K ⟨31, (upd 31 (upd 31 fr 26 (si (IntKind.i64.wrap (r1.1 + 1)))) 24 (D.one (C.p false (.sl p0.L.length (p0.L.flatMap e_dossierref03_File))))), [(hv 0), (hv 1), (hv 2), (hv 3), (hv 4)]⟩
   refine t_sliceImm (a := IntKind.i64.wrap (r1.1 + 1)) (b := (p0.L.length : Int)) F.u_70 F.sz_82 e_dossierref03_File_len rfl (by omega) (by omega) (by omega) (.yes rfl (by omega) rfl) .no k
  ·intro K rest fr hv htk k
   show AWops _ x _ _ K ⟨31, (upd 31 (upd 31 fr 27 (D.one (C.p false (.sl (sub p0.L (IntKind.i64.wrap (r1.1 + 1)) (p0.L.length : Int)).length ((sub p0.L (IntKind.i64.wrap (r1.1 + 1)) (p0.L.length : Int)).flatMap e_dossierref03_File))))) 20 (D.one (C.own 3 0 ((sub p0.L 0 r1.1).length) 3))), [(hv 0), (hv 1), (hv 2), (some (AObj.cells true (rowC e_dossierref03_File (sub p0.L 0 r1.1)))), (hv 4)]⟩
   refine t_append (xs := sub p0.L 0 r1.1) (ys := sub p0.L (IntKind.i64.wrap (r1.1 + 1)) (p0.L.length : Int)) (zs := (sub p0.L 0 r1.1) ++ (sub p0.L (IntKind.i64.wrap (r1.1 + 1)) (p0.L.length : Int))) (H' := [(hv 0), (hv 1), (hv 2), none, (hv 4), (some (AObj.cells true (rowC e_dossierref03_File ((sub p0.L 0 r1.1) ++ (sub p0.L (IntKind.i64.wrap (r1.1 + 1)) (p0.L.length : Int))))))]) F.u_70 F.in_82 rfl e_dossierref03_File_len (.own rfl rfl) .imm F.u_70 (by omega) (by omega) rfl rfl ?_
   refine AWops.weak (st' := ⟨31, (upd 31 (upd 31 (upd 31 fr 27 (D.one (C.p false (.sl (sub p0.L (IntKind.i64.wrap (r1.1 + 1)) (p0.L.length : Int)).length ((sub p0.L (IntKind.i64.wrap (r1.1 + 1)) (p0.L.length : Int)).flatMap e_dossierref03_File))))) 20 (D.one (C.own 3 0 ((sub p0.L 0 r1.1).length) 3))) 28 (D.one (C.own 4 0 (((sub p0.L 0 r1.1) ++ (sub p0.L (IntKind.i64.wrap (r1.1 + 1)) (p0.L.length : Int))).length) 3))), [(hv 0), (hv 1), (hv 2), none, (some (AObj.cells true (rowC e_dossierref03_File ((sub p0.L 0 r1.1) ++ (sub p0.L (IntKind.i64.wrap (r1.1 + 1)) (p0.L.length : Int))))))]⟩) (wg 2 [0, 1, 2, 3, 5] [] hx (le_upd2 (le_ok (p := 4) (L := 5) rfl (htk 4 rfl).1) (.t (.one (.own rfl)))) (ac (oq 4 5 (htk 4 rfl) 0) (ac (oq 4 5 (htk 4 rfl) 1) (ac (oq 4 5 (htk 4 rfl) 2) (ac (.none _) (ac (.cells (fun _ => rfl) (all2_row _)) an)))))) k
  ·intro K rest fr hv htk k
   show AWops _ x _ _ K ⟨31, (upd 31 fr 12 (rf 0 0)), [(hv 0), (hv 1), (hv 2), (hv 3), (hv 4)]⟩
   refine s_nilCheck (d := (rf 0 0)) rfl (.inl ⟨_, _, rfl⟩) k
  ·intro K rest fr hv htk k
   show AWops _ x _ _ K ⟨31, (upd 31 fr 29 (rf 0 0)), [(hv 0), (hv 1), (hv 2), (hv 3), (hv 4)]⟩
   refine s_fieldRef F.fo_72_0 (by decide) rfl k
  ·intro K rest fr hv htk k
   show AWops _ x _ _ K ⟨31, (upd 31 (upd 31 fr 30 (rf 0 0)) 28 (D.one (C.own 4 0 (((sub p0.L 0 r1.1) ++ (sub p0.L (IntKind.i64.wrap (r1.1 + 1)) (p0.L.length : Int))).length) 3))), [(some (AObj.cells false (c_dossierref03_Disk p0))), (hv 1), (hv 2), (hv 3), (hv 4)]⟩
   refine s_store (cs' := [(C.own 4 0 (((sub p0.L 0 r1.1) ++ (sub p0.L (IntKind.i64.wrap (r1.1 + 1)) (p0.L.length : Int))).length) 3), (ci p0.Most), (ci p0.Burns), (cb p0.Off)]) rfl rfl rfl (List.cons_ne_nil _ _) rfl F.sz_70 (nl rfl) rfl k
 ·refine AWops.weak (st' := ⟨31, topF, [(o_dossierref03_Disk_0 false (C.own 2 0 (((sub p0.L 0 r1.1) ++ (sub p0.L (IntKind.i64.wrap (r1.1 + 1)) (p0.L.length : Int))).length) 3) p0), none, (some (AObj.cells true (rowC e_dossierref03_File ((sub p0.L 0 r1.1) ++ (sub p0.L (IntKind.i64.wrap (r1.1 + 1)) (p0.L.length : Int))))))]⟩) (wg 2 [0, 1, 4] [] hx (le_top _) (ac (.cells id (ac (.own rfl) (ac .sc (ac .sc (ac .sc an))))) (ac (.none _) (ac (.cells (fun _ => rfl) (all2_row _)) an)))) (AWops.nil ?_)
  obtain rfl := Option.some.inj h
  exact ⟨_, rfl, (wg 2 [0, 1, 2] [] rfl (le_upd (le_top _) (DLe.tup an)) (ac (.cells id (ac (.own rfl) (ac .sc (ac .sc (ac .sc an))))) (ac (.none _) (ac (.cells (fun _ => rfl) (all2_row _)) an))))⟩
mutual
def dossierref03_Disk_Rename_40.j0 : Nat → Int → Int → Bool → (List dossierref03_File) → Int → ByteArray → ByteArray → (dossierref03_File × Int) → Option (Int × dossierref03_Disk)
 | 0, _, _, _, _, _, _, _, _ => none
 | k + 1, x6, x7, x8, x9, x10, a1, a2, r3 => if (x10 == 0) = true then ((dossierref03_Disk_cut_59.f k (⟨x9, x6, x7, x8⟩ : dossierref03_Disk) a1).bind fun r12 => (dossierref03_Disk_set_58.f k r12 (⟨a2, r3.1.B, r3.1.Sure⟩ : dossierref03_File)).bind fun r13 => some (x10, r13)) else (some (x10, (⟨x9, x6, x7, x8⟩ : dossierref03_Disk)))
end
def dossierref03_Disk_Rename_40.f (k : Nat) (p0 : dossierref03_Disk) (a1 : ByteArray) (a2 : ByteArray) : Option (Int × dossierref03_Disk) := (dossierref03_named.f k a2).bind fun r1 => if r1 = true then ((dossierref03_Disk_there.f k p0 a1).bind fun r3 => if (r3.2 == 0) = true then ((dossierref03_Disk_burn.f k p0).bind fun r5 => dossierref03_Disk_Rename_40.j0 k r5.2.Most r5.2.Burns r5.2.Off r5.2.L r5.1 a1 a2 r3) else (dossierref03_Disk_Rename_40.j0 k p0.Most p0.Burns p0.Off p0.L r3.2 a1 a2 r3)) else (some (1, p0))
theorem dossierref03_Disk_Rename_40.meets (k : Nat) (p0 : dossierref03_Disk) (a1 : ByteArray) (a2 : ByteArray) (r : Int × dossierref03_Disk) (h : dossierref03_Disk_Rename_40.f k p0 a1 a2 = some r) : Meets Try.prog 40 [(rf 0 0), (st_ a1), (st_ a2)] [(o_dossierref03_Disk_0 false (C.own 1 0 p0.L.length 3) p0), (or_ e_dossierref03_File p0.L)] (si r.1) [(o_dossierref03_Disk_0 false (C.own 2 0 r.2.L.length 3) r.2), none, (or_ e_dossierref03_File r.2.L)] := by
 unfold dossierref03_Disk_Rename_40.f at h
 refine Meets.of_body (n := 33) Try.func40 rfl rfl (nl rfl) fun x hx => ?_
 replace hx : x.k = 2 := hx
 show AW _ x _ _ ⟨33, fr0 [(rf 0 0), (st_ a1), (st_ a2)], [(o_dossierref03_Disk_0 false (C.own 1 0 p0.L.length 3) p0), (or_ e_dossierref03_File p0.L)]⟩
 refine AW.weak (st' := ⟨33, (upd 33 (upd 33 (upd 33 topF 0 (rf 0 0)) 1 (st_ a1)) 2 (st_ a2)), [(o_dossierref03_Disk_0 false (C.own 2 0 p0.L.length 3) p0), none, (or_ e_dossierref03_File p0.L)]⟩) (Weak.genL (kk := 2) [0, 1, 1] [] hx rfl (by decide) rfl rfl rfl rfl (le_upd (le_upd (le_upd (le_top _) (.t (.one (.ref rfl)))) (.t (.one .sc))) (.t (.one .sc))) (ac (.cells id (ac (.own rfl) (ac .sc (ac .sc (ac .sc an))))) (ac (.none _) (ac (.cells id (all2_row _)) an)))) (AW.seq (AW.region ?_))
 refine s_assign (d := (si 0)) rfl (AWops.nil (AW.seq (AW.seq (AW.region ?_))))
 refine s_move (d := (st_ a2)) rfl ?_
 obtain ⟨r1, er1, h⟩ := bnd h
 refine s_call2 (ρ := []) (br := false) (H2 := [(o_dossierref03_Disk_0 false (C.own 2 0 p0.L.length 3) p0), none, (or_ e_dossierref03_File p0.L)]) (d := (sb r1)) F.ca_55 rfl rfl (ac (.one .sc) an) an (by decide) rfl (dossierref03_named.meets _ a2 r1 er1) (.inl rfl) rfl rfl ?_
 refine s_not rfl (AWops.nil ?_)
 rcases itH h with ⟨c2, h⟩ | ⟨c2, h⟩
 ·refine AW.cond_no rfl (by rw [c2] <;> rfl) (AW.skip (AW.seq (AW.region ?_)))
  refine s_move (d := (rf 0 0)) rfl ?_
  refine s_move (d := (st_ a1)) rfl ?_
  obtain ⟨r3, er3, h⟩ := bnd h
  refine s_call2 (ρ := [0, 2]) (br := false) (H2 := [(o_dossierref03_Disk_0 false (C.own 2 0 p0.L.length 3) p0), none, (or_ e_dossierref03_File p0.L)]) (d := (D.tup [(D.agg (c_dossierref03_File r3.1)), (si r3.2)])) F.ca_53 rfl rfl (ac (.one (.ref rfl)) (ac (.one .sc) an)) (ac (.cells (ac (.own rfl) (ac .sc (ac .sc (ac .sc an))))) (ac (.cells (lend_row _)) an)) (by decide) rfl (dossierref03_Disk_there.meets _ p0 a1 r3 er3) (.inl rfl) (by first | rfl | (simp only [mS]; done) | (simp only [mS]; rfl)) rfl ?_
  refine s_move (d := (D.tup [(D.agg (c_dossierref03_File r3.1)), (si r3.2)])) rfl ?_
  refine s_extract (d := (D.agg (c_dossierref03_File r3.1))) rfl rfl ?_
  refine s_extract (d := (si r3.2)) rfl rfl ?_
  refine s_alloc (cs := [(ct (⟨#[]⟩ : ByteArray)), (C.p true (.v (.slice none 0 0))), (ci 0)]) F.z_82 rfl rfl ?_
  refine s_store (cs' := (c_dossierref03_File r3.1)) rfl rfl rfl (List.cons_ne_nil _ _) rfl F.sz_82 (nl rfl) rfl ?_
  refine s_assign (d := (si r3.2)) rfl (AWops.nil ?_)
  refine AW.seqJ (fun st => ∃ (x6 : Int) (x7 : Int) (x8 : Bool) (x9 : List dossierref03_File) (x10 : Int), dossierref03_Disk_Rename_40.j0 k x6 x7 x8 x9 x10 a1 a2 r3 = some r ∧ st = ⟨33, (upd 33 (upd 33 (upd 33 (upd 33 (upd 33 topF 0 (rf 0 0)) 1 (st_ a1)) 2 (st_ a2)) 7 (rf 2 0)) 8 (si x10)), [(some (AObj.cells false [(C.own 3 0 x9.length 3), (ci x6), (ci x7), (cb x8)])), none, (some (AObj.cells true (c_dossierref03_File r3.1))), (or_ e_dossierref03_File x9)]⟩) ?_ ?_
  ·refine AW.seq (AW.region ?_)
   refine s_move (d := (si r3.2)) rfl ?_
   refine s_binI (v := (.bool (r3.2 == 0))) rfl rfl rfl (AWops.nil ?_)
   rcases itH h with ⟨c4, h⟩ | ⟨c4, h⟩
   ·refine AW.cond_yes rfl c4 (AW.region ?_)
    refine s_move (d := (rf 0 0)) rfl ?_
    obtain ⟨r5, er5, h⟩ := bnd h
    refine s_call2 (ρ := [0, 2]) (br := false) (H2 := [(o_dossierref03_Disk_0 false (C.own 2 0 r5.2.L.length 3) r5.2), none, (or_ e_dossierref03_File r5.2.L), (some (AObj.cells true (c_dossierref03_File r3.1)))]) (d := (si r5.1)) F.ca_56 rfl rfl (ac (.one (.ref rfl)) an) (ac (.cells (ac (.own rfl) (ac .sc (ac .sc (ac .sc an))))) (ac (.cells (lend_row _)) an)) (by decide) rfl (dossierref03_Disk_burn.meets _ p0 r5 er5) (.inl rfl) (by first | rfl | (simp only [mS]; done) | (simp only [mS]; rfl)) rfl ?_
    refine s_assign (d := (si r5.1)) rfl (AWops.nil ?_)
    exact ⟨⟨33, (upd 33 (upd 33 (upd 33 (upd 33 (upd 33 topF 0 (rf 0 0)) 1 (st_ a1)) 2 (st_ a2)) 7 (rf 2 0)) 8 (si r5.1)), [(some (AObj.cells false [(C.own 3 0 r5.2.L.length 3), (ci r5.2.Most), (ci r5.2.Burns), (cb r5.2.Off)])), none, (some (AObj.cells true (c_dossierref03_File r3.1))), (or_ e_dossierref03_File r5.2.L)]⟩, (wg 2 [0, 1, 3, 2] [] hx (le_upd (le_upd (le_upd (le_upd (le_upd (le_top _) (.t (.one (.ref rfl)))) (.t (.one .sc))) (.t (.one .sc))) (.t (.one (.ref rfl)))) (.t (.one .sc))) (ac (.cells id (ac (.own rfl) (ac .sc (ac .sc (ac .sc an))))) (ac (.none _) (ac (.cells (fun _ => rfl) (ac .sc (ac .same (ac .sc an)))) (ac (.cells id (all2_row _)) an))))), r5.2.Most, r5.2.Burns, r5.2.Off, r5.2.L, r5.1, h, rfl⟩
   ·refine AW.cond_no rfl c4 (AW.skip ?_)
    exact ⟨⟨33, (upd 33 (upd 33 (upd 33 (upd 33 (upd 33 topF 0 (rf 0 0)) 1 (st_ a1)) 2 (st_ a2)) 7 (rf 2 0)) 8 (si r3.2)), [(some (AObj.cells false [(C.own 3 0 p0.L.length 3), (ci p0.Most), (ci p0.Burns), (cb p0.Off)])), none, (some (AObj.cells true (c_dossierref03_File r3.1))), (or_ e_dossierref03_File p0.L)]⟩, (wg 2 [0, 1, 3, 2] [] hx (le_upd (le_upd (le_upd (le_upd (le_upd (le_top _) (.t (.one (.ref rfl)))) (.t (.one .sc))) (.t (.one .sc))) (.t (.one (.ref rfl)))) (.t (.one .sc))) (ac (.cells id (ac (.own rfl) (ac .sc (ac .sc (ac .sc an))))) (ac (.none _) (ac (.cells (fun _ => rfl) (ac .sc (ac .same (ac .sc an)))) (ac (.cells id (all2_row _)) an))))), p0.Most, p0.Burns, p0.Off, p0.L, r3.2, h, rfl⟩
  ·rintro st ⟨x6, x7, x8, x9, x10, h, rfl⟩
   cases k with
   | zero => exact absurd h (by simp [dossierref03_Disk_Rename_40.j0])
   | succ qj0 =>
    replace h := (dossierref03_Disk_Rename_40.j0.eq_2 _ _ _ _ _ _ _ _ _).symm.trans h
    refine AW.seq (AW.seq (AW.region ?_))
    refine s_move (d := (si x10)) rfl ?_
    refine s_binI (v := (.bool (x10 == 0))) rfl rfl rfl (AWops.nil ?_)
    rcases itH h with ⟨c11, h⟩ | ⟨c11, h⟩
    ·refine AW.cond_yes rfl c11 (AW.seq (AW.region ?_))
     refine s_move (d := (rf 0 0)) rfl ?_
     refine s_move (d := (st_ a1)) rfl ?_
     obtain ⟨r12, er12, h⟩ := bnd h
     refine s_call2 (ρ := [0, 3]) (br := false) (H2 := [(o_dossierref03_Disk_0 false (C.own 4 0 r12.L.length 3) r12), none, (some (AObj.cells true (c_dossierref03_File r3.1))), none, (or_ e_dossierref03_File r12.L)]) (d := (D.tup [])) F.ca_59 rfl rfl (ac (.one (.ref rfl)) (ac (.one .sc) an)) (ac (.cells (ac (.own rfl) (ac .sc (ac .sc (ac .sc an))))) (ac (.cells (lend_row _)) an)) (by decide) rfl (dossierref03_Disk_cut_59.meets _ (⟨x9, x6, x7, x8⟩ : dossierref03_Disk) a1 r12 er12) (.inl rfl) (by first | rfl | (simp only [mS]; done) | (simp only [mS]; rfl)) rfl (AWops.nil (AW.seq (AW.region ?_)))
     refine s_move (d := (st_ a2)) rfl ?_
     refine s_fieldRef F.fo_82_0 (by decide) rfl ?_
     refine s_store (cs' := [(ct a2), (C.p false (.sl r3.1.B.length (r3.1.B.flatMap e_u8))), (ci r3.1.Sure)]) rfl rfl rfl (List.cons_ne_nil _ _) rfl F.sz_9 (nl rfl) rfl (AWops.nil (AW.region ?_))
     refine s_move (d := (rf 0 0)) rfl ?_
     refine s_loadN (ds := [(ct a2), (C.p false (.sl r3.1.B.length (r3.1.B.flatMap e_u8))), (ci r3.1.Sure)]) F.ag_82 F.sz_82 rfl rfl rfl ?_
     obtain ⟨r13, er13, h⟩ := bnd h
     refine s_call2 (ρ := [0, 4]) (br := false) (H2 := [(o_dossierref03_Disk_0 false (C.own 5 0 r13.L.length 3) r13), none, (some (AObj.cells true [(ct a2), (C.p false (.sl r3.1.B.length (r3.1.B.flatMap e_u8))), (ci r3.1.Sure)])), none, none, (or_ e_dossierref03_File r13.L)]) (d := (D.tup [])) F.ca_58 rfl rfl (ac (.one (.ref rfl)) (ac (LendT.aggL (ac .sc (ac .imm (ac .sc an)))) an)) (ac (.cells (ac (.own rfl) (ac .sc (ac .sc (ac .sc an))))) (ac (.cells (lend_row _)) an)) (by decide) rfl (dossierref03_Disk_set_58.meets _ r12 (⟨a2, r3.1.B, r3.1.Sure⟩ : dossierref03_File) r13 er13) (.inl rfl) (by first | rfl | (simp only [mS]; done) | (simp only [mS]; rfl)) rfl (AWops.nil (AW.seq (AW.region ?_)))
     refine s_move (d := (si x10)) rfl ?_
     refine s_assign (d := (si x10)) rfl (AWops.nil (AW.ret ?_))
     obtain rfl := Option.some.inj h
     exact ⟨_, rfl, (wg 2 [0, 1, 5] [] rfl (le_upd (le_top _) (.t (.one .sc))) (ac (.cells id (ac (.own rfl) (ac .sc (ac .sc (ac .sc an))))) (ac (.none _) (ac (.cells id (all2_row _)) an))))⟩
    ·refine AW.cond_no rfl c11 (AW.skip (AW.seq (AW.region ?_)))
     refine s_move (d := (si x10)) rfl ?_
     refine s_assign (d := (si x10)) rfl (AWops.nil (AW.ret ?_))
     obtain rfl := Option.some.inj h
     exact ⟨_, rfl, (wg 2 [0, 1, 3] [] rfl (le_upd (le_top _) (.t (.one .sc))) (ac (.cells id (ac (.own rfl) (ac .sc (ac .sc (ac .sc an))))) (ac (.none _) (ac (.cells id (all2_row _)) an))))⟩
 ·refine AW.cond_yes rfl (by rw [c2] <;> rfl) (AW.seq (AW.region ?_))
  refine s_assign (d := (si 1)) rfl (AWops.nil (AW.ret ?_))
  obtain rfl := Option.some.inj h
  exact ⟨_, rfl, (wg 2 [0, 1, 2] [] rfl (le_upd (le_top _) (.t (.one .sc))) (ac (.cells id (ac (.own rfl) (ac .sc (ac .sc (ac .sc an))))) (ac (.none _) (ac (.cells id (all2_row _)) an))))⟩
def vdisk_Disk_Truncate.f (k : Nat) (p0 : vdisk_Disk) (a1 : ByteArray) (a2 : Int) : Option (Int × vdisk_Disk) := (vdisk_Disk_change.f k p0 (decide (a2 ≥ 0)) a1 false 0).bind fun r1 => if (r1 == 0) = true then (if (decide (0 ≤ (if (((lk_vdisk_file a1 p0.files).b).length : Int) < a2 then (((lk_vdisk_file a1 p0.files).b).length : Int) else a2) ∧ (if (((lk_vdisk_file a1 p0.files).b).length : Int) < a2 then (((lk_vdisk_file a1 p0.files).b).length : Int) else a2) ≤ (((lk_vdisk_file a1 p0.files).b).length : Int))) = true then ((vdisk_Disk_set.f k p0 a1 (⟨sub ((lk_vdisk_file a1 p0.files).b) 0 (if (((lk_vdisk_file a1 p0.files).b).length : Int) < a2 then (((lk_vdisk_file a1 p0.files).b).length : Int) else a2), (if ((lk_vdisk_file a1 p0.files).sure) < (if (((lk_vdisk_file a1 p0.files).b).length : Int) < a2 then (((lk_vdisk_file a1 p0.files).b).length : Int) else a2) then ((lk_vdisk_file a1 p0.files).sure) else (if (((lk_vdisk_file a1 p0.files).b).length : Int) < a2 then (((lk_vdisk_file a1 p0.files).b).length : Int) else a2))⟩ : vdisk_file)).bind fun r4 => some (r1, r4)) else none) else (some (r1, p0))
theorem vdisk_Disk_Truncate.meets (k : Nat) (p0 : vdisk_Disk) (a1 : ByteArray) (a2 : Int) (r : Int × vdisk_Disk) (h : vdisk_Disk_Truncate.f k p0 a1 a2 = some r) : Meets Try.prog 19 [(rf 0 0), (st_ a1), (si a2)] [(o_vdisk_Disk_03 false (C.mp 1) (C.p true (.v (.pointer none))) p0), (om_ e_vdisk_file p0.files)] (si r.1) [(o_vdisk_Disk_03 false (C.mp 1) (C.p true (.v (.pointer none))) r.2), (om_ e_vdisk_file r.2.files)] := by
 unfold vdisk_Disk_Truncate.f at h
 refine Meets.of_body (n := 41) Try.func19 rfl rfl (nl rfl) fun x hx => ?_
 replace hx : x.k = 2 := hx
 show AW _ x _ _ ⟨41, fr0 [(rf 0 0), (st_ a1), (si a2)], [(o_vdisk_Disk_03 false (C.mp 1) (C.p true (.v (.pointer none))) p0), (om_ e_vdisk_file p0.files)]⟩
 refine AW.seq (AW.region ?_)
 refine s_assign (d := (si 0)) rfl (AWops.nil (AW.seq (AW.region ?_)))
 refine s_move (d := (rf 0 0)) rfl ?_
 refine s_move (d := (si a2)) rfl ?_
 refine s_binI (v := (.bool (decide (a2 ≥ 0)))) rfl rfl rfl ?_
 refine s_move (d := (st_ a1)) rfl ?_
 obtain ⟨r1, er1, h⟩ := bnd h
 refine s_call2 (ρ := [0, 1]) (br := false) (H2 := [(o_vdisk_Disk_03 false (C.mp 1) (C.p true (.v (.pointer none))) p0), (om_ e_vdisk_file p0.files)]) (d := (si r1)) F.ca_31 rfl rfl (ac (.one (.ref rfl)) (ac (.one .sc) (ac (.one .sc) (ac (.one .sc) (ac (.one .sc) an))))) (ac (.cells (ac (.mp rfl) (ac .sc (ac .sc (ac .sc (ac .sc an)))))) (ac .map an)) (by decide) rfl (vdisk_Disk_change.meets _ p0 (decide (a2 ≥ 0)) a1 false 0 r1 er1) (.inl rfl) rfl rfl ?_
 refine s_assign (d := (si r1)) rfl (AWops.nil (AW.seq (AW.seq (AW.region ?_))))
 refine s_move (d := (si r1)) rfl ?_
 refine s_binI (v := (.bool (r1 == 0))) rfl rfl rfl (AWops.nil ?_)
 rcases itH h with ⟨c2, h⟩ | ⟨c2, h⟩
 ·refine AW.cond_yes rfl c2 (AW.seq (AW.region ?_))
  refine s_move (d := (rf 0 0)) rfl ?_
  refine s_nilCheck (d := (rf 0 0)) rfl (.inl ⟨_, _, rfl⟩) ?_
  refine s_fieldRef F.fo_50_0 (by decide) rfl ?_
  refine s_load1 (c' := (C.mp 1)) F.ag_47 rfl rfl ?_
  refine s_move (d := (st_ a1)) rfl ?_
  refine t_lookup (b := true) F.u_47 F.u_9 F.z_65 (z := ((⟨([] : List Int), 0⟩ : vdisk_file) : vdisk_file)) (zs := [(.slice none 0 0), (.int .i64 0)]) rfl (fun h => by cases h) (ac ZRel.n (ac (ZRel.v _ rfl) an)) rfl rfl rfl rfl ?_
  refine s_alloc (cs := [(C.p true (.v (.slice none 0 0))), (ci 0)]) F.z_65 rfl rfl ?_
  refine s_store (cs' := (c_vdisk_file (lk_vdisk_file a1 p0.files))) rfl rfl rfl (List.cons_ne_nil _ _) rfl F.sz_65 (nl rfl) rfl (AWops.nil (AW.seq (AW.region ?_)))
  refine s_move (d := (si a2)) rfl ?_
  refine s_fieldRef F.fo_65_0 (by decide) rfl ?_
  refine s_load1 (c' := (C.p false (.sl ((lk_vdisk_file a1 p0.files).b).length (((lk_vdisk_file a1 p0.files).b).flatMap e_u8)))) F.ag_22 rfl rfl ?_
  refine s_len (n := ((lk_vdisk_file a1 p0.files).b).length) F.u_22 rfl (.inr ⟨(fun _ _ h => by cases h), ⟨_, rfl⟩⟩) ?_
  refine s_min2 (r := (if (((lk_vdisk_file a1 p0.files).b).length : Int) < a2 then (((lk_vdisk_file a1 p0.files).b).length : Int) else a2)) rfl rfl rfl ?_
  refine s_assign (d := (si (if (((lk_vdisk_file a1 p0.files).b).length : Int) < a2 then (((lk_vdisk_file a1 p0.files).b).length : Int) else a2))) rfl (AWops.nil ?_)
  refine AW.weak (st' := ⟨41, (upd 41 (upd 41 (upd 41 (upd 41 (upd 41 topF 0 (rf 0 0)) 1 (st_ a1)) 2 (si (if (((lk_vdisk_file a1 p0.files).b).length : Int) < a2 then (((lk_vdisk_file a1 p0.files).b).length : Int) else a2))) 7 (si r1)) 8 (rf 2 0)), [(o_vdisk_Disk_03 false (C.mp 1) (C.p true (.v (.pointer none))) p0), (om_ e_vdisk_file p0.files), (some (AObj.cells true (c_vdisk_file (lk_vdisk_file a1 p0.files))))]⟩) (wg 2 [0, 1, 2] [] hx (le_upd (le_upd (le_upd (le_upd (le_upd (le_top _) (.t (.one (.ref rfl)))) (.t (.one .sc))) (.t (.one .sc))) (.t (.one .sc))) (.t (.one (.ref rfl)))) (ac (.cells id (ac (.mp rfl) (ac .sc (ac .sc (ac .sc (ac .sc an)))))) (ac .map (ac (.cells (fun _ => rfl) (ac .same (ac .sc an))) an)))) ?_
  obtain ⟨c3, h⟩ := gdH h
  have dc3 := of_decide_eq_true c3
  obtain ⟨r4, er4, h⟩ := bnd h
  refine AW.draw (n := 41) (L := 4) [(ft 0 27 (rf 0 0) [(0, (rf 0 0))]), (ft 1 28 (st_ a1) [(1, (st_ a1))]), (ft 2 29 (rf 2 0) [(8, (rf 2 0))]), (3, ⟨some 30, (D.one (C.p false (.sl ((lk_vdisk_file a1 p0.files).b).length (((lk_vdisk_file a1 p0.files).b).flatMap e_u8)))), [(29, (rf 2 0))], [(2, (some (AObj.cells true (c_vdisk_file (lk_vdisk_file a1 p0.files)))))], [], none⟩), (ft 4 31 (si (if (((lk_vdisk_file a1 p0.files).b).length : Int) < a2 then (((lk_vdisk_file a1 p0.files).b).length : Int) else a2)) [(2, (si (if (((lk_vdisk_file a1 p0.files).b).length : Int) < a2 then (((lk_vdisk_file a1 p0.files).b).length : Int) else a2)))]), (ft 5 32 (si (if (((lk_vdisk_file a1 p0.files).b).length : Int) < a2 then (((lk_vdisk_file a1 p0.files).b).length : Int) else a2)) [(2, (si (if (((lk_vdisk_file a1 p0.files).b).length : Int) < a2 then (((lk_vdisk_file a1 p0.files).b).length : Int) else a2)))]), (ft 6 33 (D.one (C.p false (.sl (sub ((lk_vdisk_file a1 p0.files).b) 0 (if (((lk_vdisk_file a1 p0.files).b).length : Int) < a2 then (((lk_vdisk_file a1 p0.files).b).length : Int) else a2)).length ((sub ((lk_vdisk_file a1 p0.files).b) 0 (if (((lk_vdisk_file a1 p0.files).b).length : Int) < a2 then (((lk_vdisk_file a1 p0.files).b).length : Int) else a2)).flatMap e_u8)))) [(30, (D.one (C.p false (.sl ((lk_vdisk_file a1 p0.files).b).length (((lk_vdisk_file a1 p0.files).b).flatMap e_u8))))), (31, (si (if (((lk_vdisk_file a1 p0.files).b).length : Int) < a2 then (((lk_vdisk_file a1 p0.files).b).length : Int) else a2))), (32, (si (if (((lk_vdisk_file a1 p0.files).b).length : Int) < a2 then (((lk_vdisk_file a1 p0.files).b).length : Int) else a2)))]), (ft 7 34 (si (if (((lk_vdisk_file a1 p0.files).b).length : Int) < a2 then (((lk_vdisk_file a1 p0.files).b).length : Int) else a2)) [(2, (si (if (((lk_vdisk_file a1 p0.files).b).length : Int) < a2 then (((lk_vdisk_file a1 p0.files).b).length : Int) else a2)))]), (ft 8 35 (rf 2 1) [(8, (rf 2 0))]), (9, ⟨some 36, (si ((lk_vdisk_file a1 p0.files).sure)), [(35, (rf 2 1))], [(2, (some (AObj.cells true (c_vdisk_file (lk_vdisk_file a1 p0.files)))))], [], none⟩), (ft 10 37 (si (if ((lk_vdisk_file a1 p0.files).sure) < (if (((lk_vdisk_file a1 p0.files).b).length : Int) < a2 then (((lk_vdisk_file a1 p0.files).b).length : Int) else a2) then ((lk_vdisk_file a1 p0.files).sure) else (if (((lk_vdisk_file a1 p0.files).b).length : Int) < a2 then (((lk_vdisk_file a1 p0.files).b).length : Int) else a2))) [(34, (si (if (((lk_vdisk_file a1 p0.files).b).length : Int) < a2 then (((lk_vdisk_file a1 p0.files).b).length : Int) else a2))), (36, (si ((lk_vdisk_file a1 p0.files).sure)))]), (ft 11 38 (D.agg [(C.p false (.sl (sub ((lk_vdisk_file a1 p0.files).b) 0 (if (((lk_vdisk_file a1 p0.files).b).length : Int) < a2 then (((lk_vdisk_file a1 p0.files).b).length : Int) else a2)).length ((sub ((lk_vdisk_file a1 p0.files).b) 0 (if (((lk_vdisk_file a1 p0.files).b).length : Int) < a2 then (((lk_vdisk_file a1 p0.files).b).length : Int) else a2)).flatMap e_u8))), (ci (if ((lk_vdisk_file a1 p0.files).sure) < (if (((lk_vdisk_file a1 p0.files).b).length : Int) < a2 then (((lk_vdisk_file a1 p0.files).b).length : Int) else a2) then ((lk_vdisk_file a1 p0.files).sure) else (if (((lk_vdisk_file a1 p0.files).b).length : Int) < a2 then (((lk_vdisk_file a1 p0.files).b).length : Int) else a2)))]) [(33, (D.one (C.p false (.sl (sub ((lk_vdisk_file a1 p0.files).b) 0 (if (((lk_vdisk_file a1 p0.files).b).length : Int) < a2 then (((lk_vdisk_file a1 p0.files).b).length : Int) else a2)).length ((sub ((lk_vdisk_file a1 p0.files).b) 0 (if (((lk_vdisk_file a1 p0.files).b).length : Int) < a2 then (((lk_vdisk_file a1 p0.files).b).length : Int) else a2)).flatMap e_u8))))), (37, (si (if ((lk_vdisk_file a1 p0.files).sure) < (if (((lk_vdisk_file a1 p0.files).b).length : Int) < a2 then (((lk_vdisk_file a1 p0.files).b).length : Int) else a2) then ((lk_vdisk_file a1 p0.files).sure) else (if (((lk_vdisk_file a1 p0.files).b).length : Int) < a2 then (((lk_vdisk_file a1 p0.files).b).length : Int) else a2))))]), (12, ⟨some 39, (D.tup []), [(27, (rf 0 0)), (28, (st_ a1)), (38, (D.agg [(C.p false (.sl (sub ((lk_vdisk_file a1 p0.files).b) 0 (if (((lk_vdisk_file a1 p0.files).b).length : Int) < a2 then (((lk_vdisk_file a1 p0.files).b).length : Int) else a2)).length ((sub ((lk_vdisk_file a1 p0.files).b) 0 (if (((lk_vdisk_file a1 p0.files).b).length : Int) < a2 then (((lk_vdisk_file a1 p0.files).b).length : Int) else a2)).flatMap e_u8))), (ci (if ((lk_vdisk_file a1 p0.files).sure) < (if (((lk_vdisk_file a1 p0.files).b).length : Int) < a2 then (((lk_vdisk_file a1 p0.files).b).length : Int) else a2) then ((lk_vdisk_file a1 p0.files).sure) else (if (((lk_vdisk_file a1 p0.files).b).length : Int) < a2 then (((lk_vdisk_file a1 p0.files).b).length : Int) else a2)))]))], [(0, (o_vdisk_Disk_03 false (C.mp 1) (C.p true (.v (.pointer none))) p0)), (1, (om_ e_vdisk_file p0.files))], [(0, (o_vdisk_Disk_03 false (C.mp 1) (C.p true (.v (.pointer none))) r4)), (1, (om_ e_vdisk_file r4.files))], none⟩)] [[], [], [], [2], [], [], [2, 3, 4, 5], [], [], [8], [7, 8, 9], [2, 3, 4, 5, 6, 7, 8, 9, 10], (.range 12)] (nl rfl) [0, 0, 0, 1, 0, 0, 2, 0, 0, 1, 2, 3, 4] rfl (TK := []) rfl AllK.nil' (by repeat (first | refine fC ⟨?_, ?_⟩ ?_ | refine sC rfl ?_ | refine hC rfl ?_ | trivial)) ?_ ?_
  ·refine (pC ?_ (pC ?_ (pC ?_ (pC ?_ (pC ?_ (pC ?_ (pC ?_ (pC ?_ (pC ?_ (pC ?_ (pC ?_ (pC ?_ (pC ?_ AllStep.nil')))))))))))))
   ·intro K rest fr hv htk k
    show AWops _ x _ _ K ⟨41, (upd 41 fr 0 (rf 0 0)), _⟩
    refine s_move (d := (rf 0 0)) rfl k
   ·intro K rest fr hv htk k
    show AWops _ x _ _ K ⟨41, (upd 41 fr 1 (st_ a1)), _⟩
    refine s_move (d := (st_ a1)) rfl k
   ·intro K rest fr hv htk k
    show AWops _ x _ _ K ⟨41, (upd 41 fr 8 (rf 2 0)), [(hv 0), (hv 1), (hv 2), (hv 3)]⟩
    refine s_fieldRef F.fo_65_0 (by decide) rfl k
   ·intro K rest fr hv htk k
    show AWops _ x _ _ K ⟨41, (upd 41 fr 29 (rf 2 0)), [(hv 0), (hv 1), (some (AObj.cells true (c_vdisk_file (lk_vdisk_file a1 p0.files)))), (hv 3)]⟩
    refine s_load1 (c' := (C.p false (.sl ((lk_vdisk_file a1 p0.files).b).length (((lk_vdisk_file a1 p0.files).b).flatMap e_u8)))) F.ag_22 rfl rfl k
   ·intro K rest fr hv htk k
    show AWops _ x _ _ K ⟨41, (upd 41 fr 2 (si (if (((lk_vdisk_file a1 p0.files).b).length : Int) < a2 then (((lk_vdisk_file a1 p0.files).b).length : Int) else a2))), _⟩
    refine s_move (d := (si (if (((lk_vdisk_file a1 p0.files).b).length : Int) < a2 then (((lk_vdisk_file a1 p0.files).b).length : Int) else a2))) rfl k
   ·intro K rest fr hv htk k
    show AWops _ x _ _ K ⟨41, (upd 41 fr 2 (si (if (((lk_vdisk_file a1 p0.files).b).length : Int) < a2 then (((lk_vdisk_file a1 p0.files).b).length : Int) else a2))), _⟩
    refine s_move (d := (si (if (((lk_vdisk_file a1 p0.files).b).length : Int) < a2 then (((lk_vdisk_file a1 p0.files).b).length : Int) else a2))) rfl k
   ·intro K rest fr hv htk k
    show AWops _ x _ _ K ⟨41, (upd 41 (upd 41 (upd 41 fr 32 (si (if (((lk_vdisk_file a1 p0.files).b).length : Int) < a2 then (((lk_vdisk_file a1 p0.files).b).length : Int) else a2))) 31 (si (if (((lk_vdisk_file a1 p0.files).b).length : Int) < a2 then (((lk_vdisk_file a1 p0.files).b).length : Int) else a2))) 30 (D.one (C.p false (.sl ((lk_vdisk_file a1 p0.files).b).length (((lk_vdisk_file a1 p0.files).b).flatMap e_u8))))), [(hv 0), (hv 1), (hv 2), (hv 3)]⟩
    refine t_slice3Imm F.u_22 F.sz_5 e_u8_len rfl rfl rfl (by omega) (by omega) k
   ·intro K rest fr hv htk k
    show AWops _ x _ _ K ⟨41, (upd 41 fr 2 (si (if (((lk_vdisk_file a1 p0.files).b).length : Int) < a2 then (((lk_vdisk_file a1 p0.files).b).length : Int) else a2))), _⟩
    refine s_move (d := (si (if (((lk_vdisk_file a1 p0.files).b).length : Int) < a2 then (((lk_vdisk_file a1 p0.files).b).length : Int) else a2))) rfl k
   ·intro K rest fr hv htk k
    show AWops _ x _ _ K ⟨41, (upd 41 fr 8 (rf 2 0)), [(hv 0), (hv 1), (hv 2), (hv 3)]⟩
    refine s_fieldRef F.fo_65_1 (by decide) rfl k
   ·intro K rest fr hv htk k
    show AWops _ x _ _ K ⟨41, (upd 41 fr 35 (rf 2 1)), [(hv 0), (hv 1), (some (AObj.cells true (c_vdisk_file (lk_vdisk_file a1 p0.files)))), (hv 3)]⟩
    refine s_load1 (c' := (ci ((lk_vdisk_file a1 p0.files).sure))) F.ag_3 rfl rfl k
   ·intro K rest fr hv htk k
    show AWops _ x _ _ K ⟨41, (upd 41 (upd 41 fr 36 (si ((lk_vdisk_file a1 p0.files).sure))) 34 (si (if (((lk_vdisk_file a1 p0.files).b).length : Int) < a2 then (((lk_vdisk_file a1 p0.files).b).length : Int) else a2))), [(hv 0), (hv 1), (hv 2), (hv 3)]⟩
    refine s_min2 (r := (if ((lk_vdisk_file a1 p0.files).sure) < (if (((lk_vdisk_file a1 p0.files).b).length : Int) < a2 then (((lk_vdisk_file a1 p0.files).b).length : Int) else a2) then ((lk_vdisk_file a1 p0.files).sure) else (if (((lk_vdisk_file a1 p0.files).b).length : Int) < a2 then (((lk_vdisk_file a1 p0.files).b).length : Int) else a2))) rfl rfl rfl k
   ·intro K rest fr hv htk k
    show AWops _ x _ _ K ⟨41, (upd 41 (upd 41 fr 37 (si (if ((lk_vdisk_file a1 p0.files).sure) < (if (((lk_vdisk_file a1 p0.files).b).length : Int) < a2 then (((lk_vdisk_file a1 p0.files).b).length : Int) else a2) then ((lk_vdisk_file a1 p0.files).sure) else (if (((lk_vdisk_file a1 p0.files).b).length : Int) < a2 then (((lk_vdisk_file a1 p0.files).b).length : Int) else a2)))) 33 (D.one (C.p false (.sl (sub ((lk_vdisk_file a1 p0.files).b) 0 (if (((lk_vdisk_file a1 p0.files).b).length : Int) < a2 then (((lk_vdisk_file a1 p0.files).b).length : Int) else a2)).length ((sub ((lk_vdisk_file a1 p0.files).b) 0 (if (((lk_vdisk_file a1 p0.files).b).length : Int) < a2 then (((lk_vdisk_file a1 p0.files).b).length : Int) else a2)).flatMap e_u8))))), [(hv 0), (hv 1), (hv 2), (hv 3)]⟩
    refine s_build (ps := [(0, (D.one (C.p false (.sl (sub ((lk_vdisk_file a1 p0.files).b) 0 (if (((lk_vdisk_file a1 p0.files).b).length : Int) < a2 then (((lk_vdisk_file a1 p0.files).b).length : Int) else a2)).length ((sub ((lk_vdisk_file a1 p0.files).b) 0 (if (((lk_vdisk_file a1 p0.files).b).length : Int) < a2 then (((lk_vdisk_file a1 p0.files).b).length : Int) else a2)).flatMap e_u8))))), (1, (si (if ((lk_vdisk_file a1 p0.files).sure) < (if (((lk_vdisk_file a1 p0.files).b).length : Int) < a2 then (((lk_vdisk_file a1 p0.files).b).length : Int) else a2) then ((lk_vdisk_file a1 p0.files).sure) else (if (((lk_vdisk_file a1 p0.files).b).length : Int) < a2 then (((lk_vdisk_file a1 p0.files).b).length : Int) else a2))))]) (cs := [(C.p false (.sl (sub ((lk_vdisk_file a1 p0.files).b) 0 (if (((lk_vdisk_file a1 p0.files).b).length : Int) < a2 then (((lk_vdisk_file a1 p0.files).b).length : Int) else a2)).length ((sub ((lk_vdisk_file a1 p0.files).b) 0 (if (((lk_vdisk_file a1 p0.files).b).length : Int) < a2 then (((lk_vdisk_file a1 p0.files).b).length : Int) else a2)).flatMap e_u8))), (ci (if ((lk_vdisk_file a1 p0.files).sure) < (if (((lk_vdisk_file a1 p0.files).b).length : Int) < a2 then (((lk_vdisk_file a1 p0.files).b).length : Int) else a2) then ((lk_vdisk_file a1 p0.files).sure) else (if (((lk_vdisk_file a1 p0.files).b).length : Int) < a2 then (((lk_vdisk_file a1 p0.files).b).length : Int) else a2)))]) F.z_65 rfl F.so_65 rfl rfl k
   ·intro K rest fr hv htk k
    show AWops _ x _ _ K ⟨41, (upd 41 (upd 41 (upd 41 fr 38 (D.agg [(C.p false (.sl (sub ((lk_vdisk_file a1 p0.files).b) 0 (if (((lk_vdisk_file a1 p0.files).b).length : Int) < a2 then (((lk_vdisk_file a1 p0.files).b).length : Int) else a2)).length ((sub ((lk_vdisk_file a1 p0.files).b) 0 (if (((lk_vdisk_file a1 p0.files).b).length : Int) < a2 then (((lk_vdisk_file a1 p0.files).b).length : Int) else a2)).flatMap e_u8))), (ci (if ((lk_vdisk_file a1 p0.files).sure) < (if (((lk_vdisk_file a1 p0.files).b).length : Int) < a2 then (((lk_vdisk_file a1 p0.files).b).length : Int) else a2) then ((lk_vdisk_file a1 p0.files).sure) else (if (((lk_vdisk_file a1 p0.files).b).length : Int) < a2 then (((lk_vdisk_file a1 p0.files).b).length : Int) else a2)))])) 28 (st_ a1)) 27 (rf 0 0)), [(o_vdisk_Disk_03 false (C.mp 1) (C.p true (.v (.pointer none))) p0), (om_ e_vdisk_file p0.files), (hv 2), (hv 3)]⟩
    refine s_call2 (ρ := [0, 1]) (br := false) (H2 := [(o_vdisk_Disk_03 false (C.mp 1) (C.p true (.v (.pointer none))) r4), (om_ e_vdisk_file r4.files), (hv 2), (hv 3)]) (d := (D.tup [])) F.ca_33 rfl rfl (ac (.one (.ref rfl)) (ac (.one .sc) (ac (LendT.aggL (ac .imm (ac .sc an))) an))) (ac (.cells (ac (.mp rfl) (ac .sc (ac .sc (ac .sc (ac .sc an)))))) (ac .map an)) (by decide) rfl (vdisk_Disk_set.meets _ p0 a1 (⟨sub ((lk_vdisk_file a1 p0.files).b) 0 (if (((lk_vdisk_file a1 p0.files).b).length : Int) < a2 then (((lk_vdisk_file a1 p0.files).b).length : Int) else a2), (if ((lk_vdisk_file a1 p0.files).sure) < (if (((lk_vdisk_file a1 p0.files).b).length : Int) < a2 then (((lk_vdisk_file a1 p0.files).b).length : Int) else a2) then ((lk_vdisk_file a1 p0.files).sure) else (if (((lk_vdisk_file a1 p0.files).b).length : Int) < a2 then (((lk_vdisk_file a1 p0.files).b).length : Int) else a2))⟩ : vdisk_file) r4 er4) (.inl rfl) rfl rfl k
  ·refine AWops.weak (st' := ⟨41, (upd 41 topF 7 (si r1)), [(o_vdisk_Disk_03 false (C.mp 1) (C.p true (.v (.pointer none))) r4), (om_ e_vdisk_file r4.files)]⟩) (wg 2 [0, 1] [] hx (le_upd (le_top _) (.t (.one .sc))) (ac (.cells id (ac (.mp rfl) (ac .sc (ac .sc (ac .sc (ac .sc an)))))) (ac .map an))) (AWops.nil (AW.seq (AW.region ?_)))
   refine s_move (d := (si r1)) rfl ?_
   refine s_assign (d := (si r1)) rfl (AWops.nil (AW.ret ?_))
   obtain rfl := Option.some.inj h
   exact ⟨_, rfl, (wg 2 [0, 1] [] rfl (le_upd (le_top _) (.t (.one .sc))) (ac (.cells id (ac (.mp rfl) (ac .sc (ac .sc (ac .sc (ac .sc an)))))) (ac .map an)))⟩
 ·refine AW.cond_no rfl c2 (AW.skip (AW.seq (AW.region ?_)))
  refine s_move (d := (si r1)) rfl ?_
  refine s_assign (d := (si r1)) rfl (AWops.nil (AW.ret ?_))
  obtain rfl := Option.some.inj h
  exact ⟨_, rfl, (wg 2 [0, 1] [] rfl (le_upd (le_top _) (.t (.one .sc))) (ac (.cells id (ac (.mp rfl) (ac .sc (ac .sc (ac .sc (ac .sc an)))))) (ac .map an)))⟩
mutual
def dossierref03_Disk_Truncate_41.j0 : Nat → Int → Int → Bool → (List dossierref03_File) → Int → Int → (dossierref03_File × Int) → Option (Int × dossierref03_Disk)
 | 0, _, _, _, _, _, _, _ => none
 | k + 1, x5, x6, x7, x8, x9, a2, r2 => if (x9 == 0) = true then (if (decide (0 ≤ 0 ∧ 0 ≤ (if (r2.1.B.length : Int) < a2 then (r2.1.B.length : Int) else a2) ∧ (if (r2.1.B.length : Int) < a2 then (r2.1.B.length : Int) else a2) ≤ (r2.1.B.length : Int))) = true then (if (decide (([] : List Int).length + (sub r2.1.B 0 (if (r2.1.B.length : Int) < a2 then (r2.1.B.length : Int) else a2)).length ≤ 140737488355328)) = true then ((dossierref03_Disk_set_58.f k (⟨x8, x5, x6, x7⟩ : dossierref03_Disk) (⟨r2.1.Name, sub r2.1.B 0 (if (r2.1.B.length : Int) < a2 then (r2.1.B.length : Int) else a2), (if ((sub r2.1.B 0 (if (r2.1.B.length : Int) < a2 then (r2.1.B.length : Int) else a2)).length : Int) < r2.1.Sure then ((sub r2.1.B 0 (if (r2.1.B.length : Int) < a2 then (r2.1.B.length : Int) else a2)).length : Int) else r2.1.Sure)⟩ : dossierref03_File)).bind fun r13 => some (x9, r13)) else none) else none) else (some (x9, (⟨x8, x5, x6, x7⟩ : dossierref03_Disk)))
end
def dossierref03_Disk_Truncate_41.f (k : Nat) (p0 : dossierref03_Disk) (a1 : ByteArray) (a2 : Int) : Option (Int × dossierref03_Disk) := if (decide (a2 < 0)) = true then (some (1, p0)) else ((dossierref03_Disk_there.f k p0 a1).bind fun r2 => if (r2.2 == 0) = true then ((dossierref03_Disk_burn.f k p0).bind fun r4 => dossierref03_Disk_Truncate_41.j0 k r4.2.Most r4.2.Burns r4.2.Off r4.2.L r4.1 a2 r2) else (dossierref03_Disk_Truncate_41.j0 k p0.Most p0.Burns p0.Off p0.L r2.2 a2 r2))
theorem dossierref03_Disk_Truncate_41.meets (k : Nat) (p0 : dossierref03_Disk) (a1 : ByteArray) (a2 : Int) (r : Int × dossierref03_Disk) (h : dossierref03_Disk_Truncate_41.f k p0 a1 a2 = some r) : Meets Try.prog 41 [(rf 0 0), (st_ a1), (si a2)] [(o_dossierref03_Disk_0 false (C.own 1 0 p0.L.length 3) p0), (or_ e_dossierref03_File p0.L)] (si r.1) [(o_dossierref03_Disk_0 false (C.own 2 0 r.2.L.length 3) r.2), none, (or_ e_dossierref03_File r.2.L)] := by
 unfold dossierref03_Disk_Truncate_41.f at h
 refine Meets.of_body (n := 45) Try.func41 rfl rfl (nl rfl) fun x hx => ?_
 replace hx : x.k = 2 := hx
 show AW _ x _ _ ⟨45, fr0 [(rf 0 0), (st_ a1), (si a2)], [(o_dossierref03_Disk_0 false (C.own 1 0 p0.L.length 3) p0), (or_ e_dossierref03_File p0.L)]⟩
 refine AW.weak (st' := ⟨45, (upd 45 (upd 45 (upd 45 topF 0 (rf 0 0)) 1 (st_ a1)) 2 (si a2)), [(o_dossierref03_Disk_0 false (C.own 2 0 p0.L.length 3) p0), none, (or_ e_dossierref03_File p0.L)]⟩) (Weak.genL (kk := 2) [0, 1, 1] [] hx rfl (by decide) rfl rfl rfl rfl (le_upd (le_upd (le_upd (le_top _) (.t (.one (.ref rfl)))) (.t (.one .sc))) (.t (.one .sc))) (ac (.cells id (ac (.own rfl) (ac .sc (ac .sc (ac .sc an))))) (ac (.none _) (ac (.cells id (all2_row _)) an)))) (AW.seq (AW.region ?_))
 refine s_assign (d := (si 0)) rfl (AWops.nil (AW.seq (AW.seq (AW.region ?_))))
 refine s_move (d := (si a2)) rfl ?_
 refine s_binI (v := (.bool (decide (a2 < 0)))) rfl rfl rfl (AWops.nil ?_)
 rcases itH h with ⟨c1, h⟩ | ⟨c1, h⟩
 ·refine AW.cond_yes rfl c1 (AW.seq (AW.region ?_))
  refine s_assign (d := (si 1)) rfl (AWops.nil (AW.ret ?_))
  obtain rfl := Option.some.inj h
  exact ⟨_, rfl, (wg 2 [0, 1, 2] [] rfl (le_upd (le_top _) (.t (.one .sc))) (ac (.cells id (ac (.own rfl) (ac .sc (ac .sc (ac .sc an))))) (ac (.none _) (ac (.cells id (all2_row _)) an))))⟩
 ·refine AW.cond_no rfl c1 (AW.skip (AW.seq (AW.region ?_)))
  refine s_move (d := (rf 0 0)) rfl ?_
  refine s_move (d := (st_ a1)) rfl ?_
  obtain ⟨r2, er2, h⟩ := bnd h
  refine s_call2 (ρ := [0, 2]) (br := false) (H2 := [(o_dossierref03_Disk_0 false (C.own 2 0 p0.L.length 3) p0), none, (or_ e_dossierref03_File p0.L)]) (d := (D.tup [(D.agg (c_dossierref03_File r2.1)), (si r2.2)])) F.ca_53 rfl rfl (ac (.one (.ref rfl)) (ac (.one .sc) an)) (ac (.cells (ac (.own rfl) (ac .sc (ac .sc (ac .sc an))))) (ac (.cells (lend_row _)) an)) (by decide) rfl (dossierref03_Disk_there.meets _ p0 a1 r2 er2) (.inl rfl) (by first | rfl | (simp only [mS]; done) | (simp only [mS]; rfl)) rfl ?_
  refine s_move (d := (D.tup [(D.agg (c_dossierref03_File r2.1)), (si r2.2)])) rfl ?_
  refine s_extract (d := (D.agg (c_dossierref03_File r2.1))) rfl rfl ?_
  refine s_extract (d := (si r2.2)) rfl rfl ?_
  refine s_alloc (cs := [(ct (⟨#[]⟩ : ByteArray)), (C.p true (.v (.slice none 0 0))), (ci 0)]) F.z_82 rfl rfl ?_
  refine s_store (cs' := (c_dossierref03_File r2.1)) rfl rfl rfl (List.cons_ne_nil _ _) rfl F.sz_82 (nl rfl) rfl ?_
  refine s_assign (d := (si r2.2)) rfl (AWops.nil ?_)
  refine AW.seqJ (fun st => ∃ (x5 : Int) (x6 : Int) (x7 : Bool) (x8 : List dossierref03_File) (x9 : Int), dossierref03_Disk_Truncate_41.j0 k x5 x6 x7 x8 x9 a2 r2 = some r ∧ st = ⟨45, (upd 45 (upd 45 (upd 45 (upd 45 topF 0 (rf 0 0)) 2 (si a2)) 7 (rf 2 0)) 8 (si x9)), [(some (AObj.cells false [(C.own 3 0 x8.length 3), (ci x5), (ci x6), (cb x7)])), none, (some (AObj.cells true (c_dossierref03_File r2.1))), (or_ e_dossierref03_File x8)]⟩) ?_ ?_
  ·refine AW.seq (AW.region ?_)
   refine s_move (d := (si r2.2)) rfl ?_
   refine s_binI (v := (.bool (r2.2 == 0))) rfl rfl rfl (AWops.nil ?_)
   rcases itH h with ⟨c3, h⟩ | ⟨c3, h⟩
   ·refine AW.cond_yes rfl c3 (AW.region ?_)
    refine s_move (d := (rf 0 0)) rfl ?_
    obtain ⟨r4, er4, h⟩ := bnd h
    refine s_call2 (ρ := [0, 2]) (br := false) (H2 := [(o_dossierref03_Disk_0 false (C.own 2 0 r4.2.L.length 3) r4.2), none, (or_ e_dossierref03_File r4.2.L), (some (AObj.cells true (c_dossierref03_File r2.1)))]) (d := (si r4.1)) F.ca_56 rfl rfl (ac (.one (.ref rfl)) an) (ac (.cells (ac (.own rfl) (ac .sc (ac .sc (ac .sc an))))) (ac (.cells (lend_row _)) an)) (by decide) rfl (dossierref03_Disk_burn.meets _ p0 r4 er4) (.inl rfl) (by first | rfl | (simp only [mS]; done) | (simp only [mS]; rfl)) rfl ?_
    refine s_assign (d := (si r4.1)) rfl (AWops.nil ?_)
    exact ⟨⟨45, (upd 45 (upd 45 (upd 45 (upd 45 topF 0 (rf 0 0)) 2 (si a2)) 7 (rf 2 0)) 8 (si r4.1)), [(some (AObj.cells false [(C.own 3 0 r4.2.L.length 3), (ci r4.2.Most), (ci r4.2.Burns), (cb r4.2.Off)])), none, (some (AObj.cells true (c_dossierref03_File r2.1))), (or_ e_dossierref03_File r4.2.L)]⟩, (wg 2 [0, 1, 3, 2] [] hx (le_upd (le_upd (le_upd (le_upd (le_top _) (.t (.one (.ref rfl)))) (.t (.one .sc))) (.t (.one (.ref rfl)))) (.t (.one .sc))) (ac (.cells id (ac (.own rfl) (ac .sc (ac .sc (ac .sc an))))) (ac (.none _) (ac (.cells (fun _ => rfl) (ac .sc (ac .same (ac .sc an)))) (ac (.cells id (all2_row _)) an))))), r4.2.Most, r4.2.Burns, r4.2.Off, r4.2.L, r4.1, h, rfl⟩
   ·refine AW.cond_no rfl c3 (AW.skip ?_)
    exact ⟨⟨45, (upd 45 (upd 45 (upd 45 (upd 45 topF 0 (rf 0 0)) 2 (si a2)) 7 (rf 2 0)) 8 (si r2.2)), [(some (AObj.cells false [(C.own 3 0 p0.L.length 3), (ci p0.Most), (ci p0.Burns), (cb p0.Off)])), none, (some (AObj.cells true (c_dossierref03_File r2.1))), (or_ e_dossierref03_File p0.L)]⟩, (wg 2 [0, 1, 3, 2] [] hx (le_upd (le_upd (le_upd (le_upd (le_top _) (.t (.one (.ref rfl)))) (.t (.one .sc))) (.t (.one (.ref rfl)))) (.t (.one .sc))) (ac (.cells id (ac (.own rfl) (ac .sc (ac .sc (ac .sc an))))) (ac (.none _) (ac (.cells (fun _ => rfl) (ac .sc (ac .same (ac .sc an)))) (ac (.cells id (all2_row _)) an))))), p0.Most, p0.Burns, p0.Off, p0.L, r2.2, h, rfl⟩
  ·rintro st ⟨x5, x6, x7, x8, x9, h, rfl⟩
   cases k with
   | zero => exact absurd h (by simp [dossierref03_Disk_Truncate_41.j0])
   | succ qj0 =>
    replace h := (dossierref03_Disk_Truncate_41.j0.eq_2 _ _ _ _ _ _ _ _).symm.trans h
    refine AW.seq (AW.seq (AW.region ?_))
    refine s_move (d := (si x9)) rfl ?_
    refine s_binI (v := (.bool (x9 == 0))) rfl rfl rfl (AWops.nil ?_)
    rcases itH h with ⟨c10, h⟩ | ⟨c10, h⟩
    ·refine AW.cond_yes rfl c10 (AW.seq (AW.region ?_))
     refine s_buildSlice (n := 0) (ps := []) (cs := rowC e_u8 ([] : List Int)) F.u_22 F.sz_5 F.z_5 rfl rfl (by decide) (by decide) rfl rfl ?_
     refine s_fieldRef F.fo_82_1 (by decide) rfl ?_
     refine s_load1 (c' := (C.p false (.sl r2.1.B.length (r2.1.B.flatMap e_u8)))) F.ag_22 rfl rfl ?_
     refine s_move (d := (si a2)) rfl ?_
     refine s_fieldRef F.fo_82_1 (by decide) rfl ?_
     refine s_load1 (c' := (C.p false (.sl r2.1.B.length (r2.1.B.flatMap e_u8)))) F.ag_22 rfl rfl ?_
     refine s_len (n := r2.1.B.length) F.u_22 rfl (.inr ⟨(fun _ _ h => by cases h), ⟨_, rfl⟩⟩) ?_
     refine s_min2 (r := (if (r2.1.B.length : Int) < a2 then (r2.1.B.length : Int) else a2)) rfl rfl rfl ?_
     obtain ⟨c11, h⟩ := gdH h
     have dc11 := of_decide_eq_true c11
     refine t_sliceImm (a := 0) (b := (if (r2.1.B.length : Int) < a2 then (r2.1.B.length : Int) else a2)) F.u_22 F.sz_5 e_u8_len rfl (by omega) (by omega) (by omega) .no (.yes rfl (by omega) rfl) ?_
     obtain ⟨c12, h⟩ := gdH h
     have dc12 := of_decide_eq_true c12
     refine t_append (xs := ([] : List Int)) (ys := sub r2.1.B 0 (if (r2.1.B.length : Int) < a2 then (r2.1.B.length : Int) else a2)) (zs := sub r2.1.B 0 (if (r2.1.B.length : Int) < a2 then (r2.1.B.length : Int) else a2)) (H' := [(some (AObj.cells false [(C.own 3 0 x8.length 3), (ci x5), (ci x6), (cb x7)])), none, (some (AObj.cells true (c_dossierref03_File r2.1))), (or_ e_dossierref03_File x8), none, (some (AObj.cells true (rowC e_u8 (sub r2.1.B 0 (if (r2.1.B.length : Int) < a2 then (r2.1.B.length : Int) else a2)))))]) F.u_22 F.in_5 rfl e_u8_len (.own rfl rfl) .imm F.u_22 (by omega) (by omega) rfl rfl ?_
     refine s_fieldRef F.fo_82_1 (by decide) rfl ?_
     refine s_store (cs' := [(ct r2.1.Name), (C.own 5 0 ((sub r2.1.B 0 (if (r2.1.B.length : Int) < a2 then (r2.1.B.length : Int) else a2)).length) 1), (ci r2.1.Sure)]) rfl rfl rfl (List.cons_ne_nil _ _) rfl F.sz_22 (nl rfl) rfl (AWops.nil (AW.seq (AW.region ?_)))
     refine s_fieldRef F.fo_82_2 (by decide) rfl ?_
     refine s_load1 (c' := (ci r2.1.Sure)) F.ag_3 rfl rfl ?_
     refine s_fieldRef F.fo_82_1 (by decide) rfl ?_
     refine s_load1 (c' := (C.own 5 0 ((sub r2.1.B 0 (if (r2.1.B.length : Int) < a2 then (r2.1.B.length : Int) else a2)).length) 1)) F.ag_22 rfl rfl ?_
     refine s_len (n := (sub r2.1.B 0 (if (r2.1.B.length : Int) < a2 then (r2.1.B.length : Int) else a2)).length) F.u_22 rfl (.inr ⟨(fun _ _ h => by cases h), ⟨_, rfl⟩⟩) ?_
     refine s_min2 (r := (if ((sub r2.1.B 0 (if (r2.1.B.length : Int) < a2 then (r2.1.B.length : Int) else a2)).length : Int) < r2.1.Sure then ((sub r2.1.B 0 (if (r2.1.B.length : Int) < a2 then (r2.1.B.length : Int) else a2)).length : Int) else r2.1.Sure)) rfl rfl rfl ?_
     refine s_fieldRef F.fo_82_2 (by decide) rfl ?_
     refine s_store (cs' := [(ct r2.1.Name), (C.own 5 0 ((sub r2.1.B 0 (if (r2.1.B.length : Int) < a2 then (r2.1.B.length : Int) else a2)).length) 1), (ci (if ((sub r2.1.B 0 (if (r2.1.B.length : Int) < a2 then (r2.1.B.length : Int) else a2)).length : Int) < r2.1.Sure then ((sub r2.1.B 0 (if (r2.1.B.length : Int) < a2 then (r2.1.B.length : Int) else a2)).length : Int) else r2.1.Sure))]) rfl rfl rfl (List.cons_ne_nil _ _) rfl F.sz_3 (nl rfl) rfl (AWops.nil (AW.region ?_))
     refine s_move (d := (rf 0 0)) rfl ?_
     refine s_loadN (ds := [(ct r2.1.Name), (C.own 5 0 ((sub r2.1.B 0 (if (r2.1.B.length : Int) < a2 then (r2.1.B.length : Int) else a2)).length) 1), (ci (if ((sub r2.1.B 0 (if (r2.1.B.length : Int) < a2 then (r2.1.B.length : Int) else a2)).length : Int) < r2.1.Sure then ((sub r2.1.B 0 (if (r2.1.B.length : Int) < a2 then (r2.1.B.length : Int) else a2)).length : Int) else r2.1.Sure))]) F.ag_82 F.sz_82 rfl rfl rfl ?_
     obtain ⟨r13, er13, h⟩ := bnd h
     refine AWops.weak (st' := ⟨45, (upd 45 (upd 45 (upd 45 (upd 45 (upd 45 (upd 45 (upd 45 (upd 45 (upd 45 (upd 45 (upd 45 (upd 45 (upd 45 (upd 45 (upd 45 (upd 45 (upd 45 (upd 45 (upd 45 (upd 45 (upd 45 (upd 45 (upd 45 (upd 45 (upd 45 topF 0 (rf 0 0)) 2 (si a2)) 7 (rf 2 0)) 8 (si x9)) 21 (si x9)) 22 (sb (x9 == 0))) 24 (rf 2 1)) 25 (D.one (C.p false (.sl r2.1.B.length (r2.1.B.flatMap e_u8))))) 26 (si a2)) 27 (rf 2 1)) 28 (D.one (C.p false (.sl r2.1.B.length (r2.1.B.flatMap e_u8))))) 29 (si (r2.1.B.length : Int))) 30 (si (if (r2.1.B.length : Int) < a2 then (r2.1.B.length : Int) else a2))) 31 (D.one (C.p false (.sl (sub r2.1.B 0 (if (r2.1.B.length : Int) < a2 then (r2.1.B.length : Int) else a2)).length ((sub r2.1.B 0 (if (r2.1.B.length : Int) < a2 then (r2.1.B.length : Int) else a2)).flatMap e_u8))))) 32 (D.one (C.p false (.sl (sub r2.1.B 0 (if (r2.1.B.length : Int) < a2 then (r2.1.B.length : Int) else a2)).length ((sub r2.1.B 0 (if (r2.1.B.length : Int) < a2 then (r2.1.B.length : Int) else a2)).flatMap e_u8))))) 33 (rf 2 1)) 34 (rf 2 2)) 35 (si r2.1.Sure)) 36 (rf 2 1)) 37 (D.one (C.p false (.sl (sub r2.1.B 0 (if (r2.1.B.length : Int) < a2 then (r2.1.B.length : Int) else a2)).length ((sub r2.1.B 0 (if (r2.1.B.length : Int) < a2 then (r2.1.B.length : Int) else a2)).flatMap e_u8))))) 38 (si ((sub r2.1.B 0 (if (r2.1.B.length : Int) < a2 then (r2.1.B.length : Int) else a2)).length : Int))) 39 (si (if ((sub r2.1.B 0 (if (r2.1.B.length : Int) < a2 then (r2.1.B.length : Int) else a2)).length : Int) < r2.1.Sure then ((sub r2.1.B 0 (if (r2.1.B.length : Int) < a2 then (r2.1.B.length : Int) else a2)).length : Int) else r2.1.Sure))) 40 (rf 2 2)) 41 (rf 0 0)) 42 (D.agg [(ct r2.1.Name), (C.p false (.sl (sub r2.1.B 0 (if (r2.1.B.length : Int) < a2 then (r2.1.B.length : Int) else a2)).length ((sub r2.1.B 0 (if (r2.1.B.length : Int) < a2 then (r2.1.B.length : Int) else a2)).flatMap e_u8))), (ci (if ((sub r2.1.B 0 (if (r2.1.B.length : Int) < a2 then (r2.1.B.length : Int) else a2)).length : Int) < r2.1.Sure then ((sub r2.1.B 0 (if (r2.1.B.length : Int) < a2 then (r2.1.B.length : Int) else a2)).length : Int) else r2.1.Sure))])), [(some (AObj.cells false [(C.own 3 0 x8.length 3), (ci x5), (ci x6), (cb x7)])), none, (some (AObj.cells true [(ct r2.1.Name), (C.p false (.sl (sub r2.1.B 0 (if (r2.1.B.length : Int) < a2 then (r2.1.B.length : Int) else a2)).length ((sub r2.1.B 0 (if (r2.1.B.length : Int) < a2 then (r2.1.B.length : Int) else a2)).flatMap e_u8))), (ci (if ((sub r2.1.B 0 (if (r2.1.B.length : Int) < a2 then (r2.1.B.length : Int) else a2)).length : Int) < r2.1.Sure then ((sub r2.1.B 0 (if (r2.1.B.length : Int) < a2 then (r2.1.B.length : Int) else a2)).length : Int) else r2.1.Sure))])), (or_ e_dossierref03_File x8)]⟩) (wg 2 [0, 1, 2, 3] [5] hx (le_upd (le_upd (le_upd (le_upd (le_upd (le_upd (le_upd (le_upd (le_upd (le_upd (le_upd (le_upd (le_upd (le_upd (le_upd (le_upd (le_upd (le_upd (le_upd (le_upd (le_upd (le_upd (le_upd (le_upd (le_upd (le_top _) (.t (.one (.ref rfl)))) (.t (.one .sc))) (.t (.one (.ref rfl)))) (.t (.one .sc))) (.t (.one .sc))) (.t (.one .sc))) (.t (.one (.ref rfl)))) (.t (.one .same))) (.t (.one .sc))) (.t (.one (.ref rfl)))) (.t (.one .same))) (.t (.one .sc))) (.t (.one .sc))) (.t (.one .same))) (.t (.one (CLe.frz e_u8_len rfl rfl rfl)))) (.t (.one (.ref rfl)))) (.t (.one (.ref rfl)))) (.t (.one .sc))) (.t (.one (.ref rfl)))) (.t (.one (CLe.frz e_u8_len rfl rfl rfl)))) (.t (.one .sc))) (.t (.one .sc))) (.t (.one (.ref rfl)))) (.t (.one (.ref rfl)))) (.t (.agg (ac .sc (ac (CLe.frz e_u8_len rfl rfl rfl) (ac .sc an)))))) (ac (.cells id (ac (.own rfl) (ac .sc (ac .sc (ac .sc an))))) (ac (.none _) (ac (.cells (fun _ => rfl) (ac .sc (ac (CLe.frz e_u8_len rfl rfl rfl) (ac .sc an)))) (ac (.cells id (all2_row _)) an))))) ?_
     refine s_call2 (ρ := [0, 3]) (br := false) (H2 := [(o_dossierref03_Disk_0 false (C.own 4 0 r13.L.length 3) r13), none, (some (AObj.cells true [(ct r2.1.Name), (C.p false (.sl (sub r2.1.B 0 (if (r2.1.B.length : Int) < a2 then (r2.1.B.length : Int) else a2)).length ((sub r2.1.B 0 (if (r2.1.B.length : Int) < a2 then (r2.1.B.length : Int) else a2)).flatMap e_u8))), (ci (if ((sub r2.1.B 0 (if (r2.1.B.length : Int) < a2 then (r2.1.B.length : Int) else a2)).length : Int) < r2.1.Sure then ((sub r2.1.B 0 (if (r2.1.B.length : Int) < a2 then (r2.1.B.length : Int) else a2)).length : Int) else r2.1.Sure))])), none, (or_ e_dossierref03_File r13.L)]) (d := (D.tup [])) F.ca_58 rfl rfl (ac (.one (.ref rfl)) (ac (LendT.aggL (ac .sc (ac .imm (ac .sc an)))) an)) (ac (.cells (ac (.own rfl) (ac .sc (ac .sc (ac .sc an))))) (ac (.cells (lend_row _)) an)) (by decide) rfl (dossierref03_Disk_set_58.meets _ (⟨x8, x5, x6, x7⟩ : dossierref03_Disk) (⟨r2.1.Name, sub r2.1.B 0 (if (r2.1.B.length : Int) < a2 then (r2.1.B.length : Int) else a2), (if ((sub r2.1.B 0 (if (r2.1.B.length : Int) < a2 then (r2.1.B.length : Int) else a2)).length : Int) < r2.1.Sure then ((sub r2.1.B 0 (if (r2.1.B.length : Int) < a2 then (r2.1.B.length : Int) else a2)).length : Int) else r2.1.Sure)⟩ : dossierref03_File) r13 er13) (.inl rfl) (by first | rfl | (simp only [mS]; done) | (simp only [mS]; rfl)) rfl (AWops.nil (AW.seq (AW.region ?_)))
     refine s_move (d := (si x9)) rfl ?_
     refine s_assign (d := (si x9)) rfl (AWops.nil (AW.ret ?_))
     obtain rfl := Option.some.inj h
     exact ⟨_, rfl, (wg 2 [0, 1, 4] [] rfl (le_upd (le_top _) (.t (.one .sc))) (ac (.cells id (ac (.own rfl) (ac .sc (ac .sc (ac .sc an))))) (ac (.none _) (ac (.cells id (all2_row _)) an))))⟩
    ·refine AW.cond_no rfl c10 (AW.skip (AW.seq (AW.region ?_)))
     refine s_move (d := (si x9)) rfl ?_
     refine s_assign (d := (si x9)) rfl (AWops.nil (AW.ret ?_))
     obtain rfl := Option.some.inj h
     exact ⟨_, rfl, (wg 2 [0, 1, 3] [] rfl (le_upd (le_top _) (.t (.one .sc))) (ac (.cells id (ac (.own rfl) (ac .sc (ac .sc (ac .sc an))))) (ac (.none _) (ac (.cells id (all2_row _)) an))))⟩
def vdisk_Disk_Remove.f (k : Nat) (p0 : vdisk_Disk) (a1 : ByteArray) : Option (Int × vdisk_Disk) := (vdisk_Disk_change.f k p0 true a1 false 0).bind fun r1 => if (r1 == 0) = true then ((vdisk_Disk_cut.f k p0 a1).bind fun r3 => some (r1, r3)) else (some (r1, p0))
theorem vdisk_Disk_Remove.meets (k : Nat) (p0 : vdisk_Disk) (a1 : ByteArray) (r : Int × vdisk_Disk) (h : vdisk_Disk_Remove.f k p0 a1 = some r) : Meets Try.prog 20 [(rf 0 0), (st_ a1)] [(o_vdisk_Disk_03 false (C.mp 1) (C.p true (.v (.pointer none))) p0), (om_ e_vdisk_file p0.files)] (si r.1) [(o_vdisk_Disk_03 false (C.mp 1) (C.p true (.v (.pointer none))) r.2), (om_ e_vdisk_file r.2.files)] := by
 unfold vdisk_Disk_Remove.f at h
 refine Meets.of_body (n := 15) Try.func20 rfl rfl (nl rfl) fun x hx => ?_
 replace hx : x.k = 2 := hx
 show AW _ x _ _ ⟨15, fr0 [(rf 0 0), (st_ a1)], [(o_vdisk_Disk_03 false (C.mp 1) (C.p true (.v (.pointer none))) p0), (om_ e_vdisk_file p0.files)]⟩
 refine AW.seq (AW.region ?_)
 refine s_assign (d := (si 0)) rfl (AWops.nil (AW.seq (AW.region ?_)))
 refine s_move (d := (rf 0 0)) rfl ?_
 refine s_move (d := (st_ a1)) rfl ?_
 obtain ⟨r1, er1, h⟩ := bnd h
 refine s_call2 (ρ := [0, 1]) (br := false) (H2 := [(o_vdisk_Disk_03 false (C.mp 1) (C.p true (.v (.pointer none))) p0), (om_ e_vdisk_file p0.files)]) (d := (si r1)) F.ca_31 rfl rfl (ac (.one (.ref rfl)) (ac (.one .sc) (ac (.one .sc) (ac (.one .sc) (ac (.one .sc) an))))) (ac (.cells (ac (.mp rfl) (ac .sc (ac .sc (ac .sc (ac .sc an)))))) (ac .map an)) (by decide) rfl (vdisk_Disk_change.meets _ p0 true a1 false 0 r1 er1) (.inl rfl) rfl rfl ?_
 refine s_assign (d := (si r1)) rfl (AWops.nil (AW.seq (AW.seq (AW.region ?_))))
 refine s_move (d := (si r1)) rfl ?_
 refine s_binI (v := (.bool (r1 == 0))) rfl rfl rfl (AWops.nil ?_)
 rcases itH h with ⟨c2, h⟩ | ⟨c2, h⟩
 ·refine AW.cond_yes rfl c2 (AW.region ?_)
  refine s_move (d := (rf 0 0)) rfl ?_
  refine s_move (d := (st_ a1)) rfl ?_
  obtain ⟨r3, er3, h⟩ := bnd h
  refine s_call2 (ρ := [0, 1]) (br := false) (H2 := [(o_vdisk_Disk_03 false (C.mp 1) (C.p true (.v (.pointer none))) r3), (om_ e_vdisk_file r3.files)]) (d := (D.tup [])) F.ca_46 rfl rfl (ac (.one (.ref rfl)) (ac (.one .sc) an)) (ac (.cells (ac (.mp rfl) (ac .sc (ac .sc (ac .sc (ac .sc an)))))) (ac .map an)) (by decide) rfl (vdisk_Disk_cut.meets _ p0 a1 r3 er3) (.inl rfl) rfl rfl (AWops.nil (AW.seq (AW.region ?_)))
  refine s_move (d := (si r1)) rfl ?_
  refine s_assign (d := (si r1)) rfl (AWops.nil (AW.ret ?_))
  obtain rfl := Option.some.inj h
  exact ⟨_, rfl, (wg 2 [0, 1] [] rfl (le_upd (le_top _) (.t (.one .sc))) (ac (.cells id (ac (.mp rfl) (ac .sc (ac .sc (ac .sc (ac .sc an)))))) (ac .map an)))⟩
 ·refine AW.cond_no rfl c2 (AW.skip (AW.seq (AW.region ?_)))
  refine s_move (d := (si r1)) rfl ?_
  refine s_assign (d := (si r1)) rfl (AWops.nil (AW.ret ?_))
  obtain rfl := Option.some.inj h
  exact ⟨_, rfl, (wg 2 [0, 1] [] rfl (le_upd (le_top _) (.t (.one .sc))) (ac (.cells id (ac (.mp rfl) (ac .sc (ac .sc (ac .sc (ac .sc an)))))) (ac .map an)))⟩
def dossierref03_Disk_Remove_42.f (k : Nat) (p0 : dossierref03_Disk) (a1 : ByteArray) : Option (Int × dossierref03_Disk) := (dossierref03_Disk_there.f k p0 a1).bind fun r1 => if (r1.2 == 0) = true then ((dossierref03_Disk_burn.f k p0).bind fun r3 => if (r3.1 == 0) = true then ((dossierref03_Disk_cut_59.f k r3.2 a1).bind fun r5 => some (r3.1, r5)) else (some (r3.1, r3.2))) else (some (r1.2, p0))
theorem dossierref03_Disk_Remove_42.meets (k : Nat) (p0 : dossierref03_Disk) (a1 : ByteArray) (r : Int × dossierref03_Disk) (h : dossierref03_Disk_Remove_42.f k p0 a1 = some r) : Meets Try.prog 42 [(rf 0 0), (st_ a1)] [(o_dossierref03_Disk_0 false (C.own 1 0 p0.L.length 3) p0), (or_ e_dossierref03_File p0.L)] (si r.1) [(o_dossierref03_Disk_0 false (C.own 2 0 r.2.L.length 3) r.2), none, (or_ e_dossierref03_File r.2.L)] := by
 unfold dossierref03_Disk_Remove_42.f at h
 refine Meets.of_body (n := 23) Try.func42 rfl rfl (nl rfl) fun x hx => ?_
 replace hx : x.k = 2 := hx
 show AW _ x _ _ ⟨23, fr0 [(rf 0 0), (st_ a1)], [(o_dossierref03_Disk_0 false (C.own 1 0 p0.L.length 3) p0), (or_ e_dossierref03_File p0.L)]⟩
 refine AW.weak (st' := ⟨23, (upd 23 (upd 23 topF 0 (rf 0 0)) 1 (st_ a1)), [(o_dossierref03_Disk_0 false (C.own 2 0 p0.L.length 3) p0), none, (or_ e_dossierref03_File p0.L)]⟩) (Weak.genL (kk := 2) [0, 1, 1] [] hx rfl (by decide) rfl rfl rfl rfl (le_upd (le_upd (le_top _) (.t (.one (.ref rfl)))) (.t (.one .sc))) (ac (.cells id (ac (.own rfl) (ac .sc (ac .sc (ac .sc an))))) (ac (.none _) (ac (.cells id (all2_row _)) an)))) (AW.seq (AW.region ?_))
 refine s_assign (d := (si 0)) rfl (AWops.nil (AW.seq (AW.region ?_)))
 refine s_move (d := (rf 0 0)) rfl ?_
 refine s_move (d := (st_ a1)) rfl ?_
 obtain ⟨r1, er1, h⟩ := bnd h
 refine s_call2 (ρ := [0, 2]) (br := false) (H2 := [(o_dossierref03_Disk_0 false (C.own 2 0 p0.L.length 3) p0), none, (or_ e_dossierref03_File p0.L)]) (d := (D.tup [(D.agg (c_dossierref03_File r1.1)), (si r1.2)])) F.ca_53 rfl rfl (ac (.one (.ref rfl)) (ac (.one .sc) an)) (ac (.cells (ac (.own rfl) (ac .sc (ac .sc (ac .sc an))))) (ac (.cells (lend_row _)) an)) (by decide) rfl (dossierref03_Disk_there.meets _ p0 a1 r1 er1) (.inl rfl) (by first | rfl | (simp only [mS]; done) | (simp only [mS]; rfl)) rfl ?_
 refine s_move (d := (D.tup [(D.agg (c_dossierref03_File r1.1)), (si r1.2)])) rfl ?_
 refine s_extract (d := (D.agg (c_dossierref03_File r1.1))) rfl rfl ?_
 refine s_extract (d := (si r1.2)) rfl rfl ?_
 refine s_alloc (cs := [(ct (⟨#[]⟩ : ByteArray)), (C.p true (.v (.slice none 0 0))), (ci 0)]) F.z_82 rfl rfl ?_
 refine s_store (cs' := (c_dossierref03_File r1.1)) rfl rfl rfl (List.cons_ne_nil _ _) rfl F.sz_82 (nl rfl) rfl ?_
 refine s_assign (d := (si r1.2)) rfl (AWops.nil (AW.seq (AW.seq (AW.region ?_))))
 refine s_move (d := (si r1.2)) rfl ?_
 refine s_binI (v := (.bool (r1.2 == 0))) rfl rfl rfl (AWops.nil ?_)
 rcases itH h with ⟨c2, h⟩ | ⟨c2, h⟩
 ·refine AW.cond_yes rfl c2 (AW.region ?_)
  refine s_move (d := (rf 0 0)) rfl ?_
  obtain ⟨r3, er3, h⟩ := bnd h
  refine s_call2 (ρ := [0, 2]) (br := false) (H2 := [(o_dossierref03_Disk_0 false (C.own 2 0 r3.2.L.length 3) r3.2), none, (or_ e_dossierref03_File r3.2.L), (some (AObj.cells true (c_dossierref03_File r1.1)))]) (d := (si r3.1)) F.ca_56 rfl rfl (ac (.one (.ref rfl)) an) (ac (.cells (ac (.own rfl) (ac .sc (ac .sc (ac .sc an))))) (ac (.cells (lend_row _)) an)) (by decide) rfl (dossierref03_Disk_burn.meets _ p0 r3 er3) (.inl rfl) (by first | rfl | (simp only [mS]; done) | (simp only [mS]; rfl)) rfl ?_
  refine s_assign (d := (si r3.1)) rfl (AWops.nil (AW.seq (AW.seq (AW.region ?_))))
  refine s_move (d := (si r3.1)) rfl ?_
  refine s_binI (v := (.bool (r3.1 == 0))) rfl rfl rfl (AWops.nil ?_)
  rcases itH h with ⟨c4, h⟩ | ⟨c4, h⟩
  ·refine AW.cond_yes rfl c4 (AW.region ?_)
   refine s_move (d := (rf 0 0)) rfl ?_
   refine s_move (d := (st_ a1)) rfl ?_
   obtain ⟨r5, er5, h⟩ := bnd h
   refine s_call2 (ρ := [0, 2]) (br := false) (H2 := [(o_dossierref03_Disk_0 false (C.own 4 0 r5.L.length 3) r5), none, none, (some (AObj.cells true (c_dossierref03_File r1.1))), (or_ e_dossierref03_File r5.L)]) (d := (D.tup [])) F.ca_59 rfl rfl (ac (.one (.ref rfl)) (ac (.one .sc) an)) (ac (.cells (ac (.own rfl) (ac .sc (ac .sc (ac .sc an))))) (ac (.cells (lend_row _)) an)) (by decide) rfl (dossierref03_Disk_cut_59.meets _ r3.2 a1 r5 er5) (.inl rfl) (by first | rfl | (simp only [mS]; done) | (simp only [mS]; rfl)) rfl (AWops.nil (AW.seq (AW.region ?_)))
   refine s_move (d := (si r3.1)) rfl ?_
   refine s_assign (d := (si r3.1)) rfl (AWops.nil (AW.ret ?_))
   obtain rfl := Option.some.inj h
   exact ⟨_, rfl, (wg 2 [0, 1, 4] [] rfl (le_upd (le_top _) (.t (.one .sc))) (ac (.cells id (ac (.own rfl) (ac .sc (ac .sc (ac .sc an))))) (ac (.none _) (ac (.cells id (all2_row _)) an))))⟩
  ·refine AW.cond_no rfl c4 (AW.skip (AW.seq (AW.region ?_)))
   refine s_move (d := (si r3.1)) rfl ?_
   refine s_assign (d := (si r3.1)) rfl (AWops.nil (AW.ret ?_))
   obtain rfl := Option.some.inj h
   exact ⟨_, rfl, (wg 2 [0, 1, 2] [] rfl (le_upd (le_top _) (.t (.one .sc))) (ac (.cells id (ac (.own rfl) (ac .sc (ac .sc (ac .sc an))))) (ac (.none _) (ac (.cells id (all2_row _)) an))))⟩
 ·refine AW.cond_no rfl c2 (AW.skip (AW.seq (AW.seq (AW.region ?_))))
  refine s_move (d := (si r1.2)) rfl ?_
  refine s_binI (v := (.bool (r1.2 == 0))) rfl rfl rfl (AWops.nil ?_)
  refine AW.cond_no rfl c2 (AW.skip (AW.seq (AW.region ?_)))
  refine s_move (d := (si r1.2)) rfl ?_
  refine s_assign (d := (si r1.2)) rfl (AWops.nil (AW.ret ?_))
  obtain rfl := Option.some.inj h
  exact ⟨_, rfl, (wg 2 [0, 1, 2] [] rfl (le_upd (le_top _) (.t (.one .sc))) (ac (.cells id (ac (.own rfl) (ac .sc (ac .sc (ac .sc an))))) (ac (.none _) (ac (.cells id (all2_row _)) an))))⟩
def vdisk_Disk_Fuse.f (k : Nat) (p0 : vdisk_Disk) (a1 : Int) : Option (Int × vdisk_Disk × (Option Int)) := (vdisk_Disk_none.f k p0).bind fun r1 => if (decide (a1 < 0)) = true then (some (1, p0, (none : Option Int))) else (some (0, p0, some a1))
theorem vdisk_Disk_Fuse.meets (k : Nat) (p0 : vdisk_Disk) (a1 : Int) (r : Int × vdisk_Disk × (Option Int)) (h : vdisk_Disk_Fuse.f k p0 a1 = some r) : Meets Try.prog 21 [(rf 0 0), (si a1)] [(o_vdisk_Disk_03 false (C.mp 1) (C.p true (.v (.pointer none))) p0), (om_ e_vdisk_file p0.files)] (optE r.2.2 (si r.1) (fun z1 : Int => (si r.1))) (optE r.2.2 [(o_vdisk_Disk_03 false (C.mp 1) (C.p true (.v (.pointer none))) r.2.1), (om_ e_vdisk_file r.2.1.files)] (fun z1 : Int => [(o_vdisk_Disk_03 false (C.mp 1) (C.ref 2 0) r.2.1), (om_ e_vdisk_file r.2.1.files), (some (AObj.cells false [(ci z1)]))])) := by
 unfold vdisk_Disk_Fuse.f at h
 refine Meets.of_body (n := 14) Try.func21 rfl rfl (nl rfl) fun x hx => ?_
 replace hx : x.k = 2 := hx
 show AW _ x _ _ ⟨14, fr0 [(rf 0 0), (si a1)], [(o_vdisk_Disk_03 false (C.mp 1) (C.p true (.v (.pointer none))) p0), (om_ e_vdisk_file p0.files)]⟩
 refine AW.seq (AW.region ?_)
 refine s_box (cs := [(ci a1)]) rfl (List.cons_ne_nil _ _) rfl ?_
 refine s_assign (d := (si 0)) rfl (AWops.nil (AW.seq (AW.block (AW.seq (AW.region ?_)))))
 refine s_move (d := (rf 0 0)) rfl ?_
 obtain ⟨r1, er1, h⟩ := bnd h
 have kr1 := vdisk_Disk_none.const er1
 subst kr1
 refine s_call2 (ρ := [0, 1]) (br := false) (H2 := [(o_vdisk_Disk_03 false (C.mp 1) (C.p true (.v (.pointer none))) p0), (om_ e_vdisk_file p0.files), (some (AObj.cells true [(ci a1)]))]) (d := (sb false)) F.ca_35 rfl rfl (ac (.one (.ref rfl)) an) (ac (.cells (ac (.mp rfl) (ac .sc (ac .sc (ac .sc (ac .sc an)))))) (ac .map an)) (by decide) rfl (vdisk_Disk_none.meets _ p0 false er1) (.inl rfl) rfl rfl ?_
 refine s_assign (d := (sb false)) rfl (AWops.nil ?_)
 refine AW.cond_no rfl rfl (AW.seq (AW.region ?_))
 refine s_load1 (c' := (ci a1)) F.ag_3 rfl rfl ?_
 refine s_binI (v := (.bool (decide (a1 < 0)))) rfl rfl rfl ?_
 refine s_assign (d := (sb (decide (a1 < 0)))) rfl (AWops.nil ?_)
 rcases itH h with ⟨c2, h⟩ | ⟨c2, h⟩
 ·refine AW.cond_yes rfl c2 (AW.seq (AW.region ?_))
  refine s_assign (d := (si 1)) rfl (AWops.nil (AW.ret ?_))
  obtain rfl := Option.some.inj h
  exact ⟨_, rfl, (wg 2 [0, 1] [] rfl (le_upd (le_top _) (.t (.one .sc))) (ac (.cells id (ac (.mp rfl) (ac .sc (ac .sc (ac .sc (ac .sc an)))))) (ac .map an)))⟩
 ·refine AW.cond_no rfl c2 (AW.skip (AW.seq (AW.region ?_)))
  refine s_move (d := (rf 0 0)) rfl ?_
  refine s_nilCheck (d := (rf 0 0)) rfl (.inl ⟨_, _, rfl⟩) ?_
  refine s_fieldRef F.fo_50_3 (by decide) rfl ?_
  refine s_store (cs' := [(C.mp 1), (ci p0.room), (ci p0.used), (C.ref 2 0), (cb p0.dead)]) rfl rfl rfl (List.cons_ne_nil _ _) rfl F.sz_48 (nl rfl) rfl (AWops.nil (AW.seq (AW.region ?_)))
  refine s_assign (d := (si 0)) rfl (AWops.nil (AW.ret ?_))
  obtain rfl := Option.some.inj h
  exact ⟨_, rfl, (wg 2 [0, 1, 2] [] rfl (le_upd (le_top _) (.t (.one .sc))) (ac (.cells id (ac (.mp rfl) (ac .sc (ac .sc (ac (.ref rfl) (ac .sc an)))))) (ac .map (ac (.cells (fun _ => rfl) (ac .sc an)) an))))⟩
def dossierref03_Disk_Fuse.f (k : Nat) (p0 : dossierref03_Disk) (a1 : Int) : Option (Int × dossierref03_Disk) := if (decide (a1 < 0)) = true then (some (1, p0)) else (some (0, (⟨p0.L, p0.Most, a1, p0.Off⟩ : dossierref03_Disk)))
theorem dossierref03_Disk_Fuse.meets (k : Nat) (p0 : dossierref03_Disk) (a1 : Int) (r : Int × dossierref03_Disk) (h : dossierref03_Disk_Fuse.f k p0 a1 = some r) : Meets Try.prog 43 [(rf 0 0), (si a1)] [(o_dossierref03_Disk_0 false (C.own 1 0 p0.L.length 3) p0), (or_ e_dossierref03_File p0.L)] (si r.1) [(o_dossierref03_Disk_0 false (C.own 1 0 r.2.L.length 3) r.2), (or_ e_dossierref03_File r.2.L)] := by
 unfold dossierref03_Disk_Fuse.f at h
 refine Meets.of_body (n := 11) Try.func43 rfl rfl (nl rfl) fun x hx => ?_
 replace hx : x.k = 2 := hx
 show AW _ x _ _ ⟨11, fr0 [(rf 0 0), (si a1)], [(o_dossierref03_Disk_0 false (C.own 1 0 p0.L.length 3) p0), (or_ e_dossierref03_File p0.L)]⟩
 refine AW.seq (AW.region ?_)
 refine s_assign (d := (si 0)) rfl (AWops.nil (AW.seq (AW.seq (AW.region ?_))))
 refine s_move (d := (si a1)) rfl ?_
 refine s_binI (v := (.bool (decide (a1 < 0)))) rfl rfl rfl (AWops.nil ?_)
 rcases itH h with ⟨c1, h⟩ | ⟨c1, h⟩
 ·refine AW.cond_yes rfl c1 (AW.seq (AW.region ?_))
  refine s_assign (d := (si 1)) rfl (AWops.nil (AW.ret ?_))
  obtain rfl := Option.some.inj h
  exact ⟨_, rfl, (wg 2 [0, 1] [] rfl (le_upd (le_top _) (.t (.one .sc))) (ac (.cells id (ac (.own rfl) (ac .sc (ac .sc (ac .sc an))))) (ac (.cells id (all2_row _)) an)))⟩
 ·refine AW.cond_no rfl c1 (AW.skip (AW.seq (AW.region ?_)))
  refine s_move (d := (rf 0 0)) rfl ?_
  refine s_move (d := (si a1)) rfl ?_
  refine s_nilCheck (d := (rf 0 0)) rfl (.inl ⟨_, _, rfl⟩) ?_
  refine s_fieldRef F.fo_72_2 (by decide) rfl ?_
  refine s_store (cs' := [(C.own 1 0 p0.L.length 3), (ci p0.Most), (ci a1), (cb p0.Off)]) rfl rfl rfl (List.cons_ne_nil _ _) rfl F.sz_3 (nl rfl) rfl (AWops.nil (AW.seq (AW.region ?_)))
  refine s_assign (d := (si 0)) rfl (AWops.nil (AW.ret ?_))
  obtain rfl := Option.some.inj h
  exact ⟨_, rfl, (wg 2 [0, 1] [] rfl (le_upd (le_top _) (.t (.one .sc))) (ac (.cells id (ac (.own rfl) (ac .sc (ac .sc (ac .sc an))))) (ac (.cells id (all2_row _)) an)))⟩
mutual
def dossierref03_Disk_Crash_44.j1 : Nat → Int → dossierref03_Disk → (List Int) → (List dossierref03_File) → Int → dossierref03_File → Option dossierref03_Disk
 | 0, _, _, _, _, _, _ => none
 | k + 1, x8, p0, a1, x1, x2, v4 => if (decide (0 ≤ 0 ∧ 0 ≤ (IntKind.i64.wrap (v4.Sure + x8)) ∧ (IntKind.i64.wrap (v4.Sure + x8)) ≤ (v4.B.length : Int))) = true then (if (decide (([] : List Int).length + (sub v4.B 0 (IntKind.i64.wrap (v4.Sure + x8))).length ≤ 140737488355328)) = true then (if (decide (x1.length + ([(⟨v4.Name, sub v4.B 0 (IntKind.i64.wrap (v4.Sure + x8)), ((sub v4.B 0 (IntKind.i64.wrap (v4.Sure + x8))).length : Int)⟩ : dossierref03_File)] : List dossierref03_File).length ≤ 2932031007402)) = true then (dossierref03_Disk_Crash_44.l0 k (x1 ++ ([(⟨v4.Name, sub v4.B 0 (IntKind.i64.wrap (v4.Sure + x8)), ((sub v4.B 0 (IntKind.i64.wrap (v4.Sure + x8))).length : Int)⟩ : dossierref03_File)] : List dossierref03_File)) (IntKind.i64.wrap (x2 + 1)) p0 a1) else none) else none) else none
def dossierref03_Disk_Crash_44.l0 : Nat → (List dossierref03_File) → Int → dossierref03_Disk → (List Int) → Option dossierref03_Disk
 | 0, _, _, _, _ => none
 | k + 1, x1, x2, p0, a1 => if (decide (x2 < (p0.L.length : Int))) = true then ((rd p0.L x2).bind fun v4 => if (decide (x2 < (a1.length : Int))) = true then ((rd a1 x2).bind fun v7 => dossierref03_Disk_Crash_44.j1 k (if (if (IntKind.i64.wrap ((v4.B.length : Int) - v4.Sure)) < v7 then (IntKind.i64.wrap ((v4.B.length : Int) - v4.Sure)) else v7) > 0 then (if (IntKind.i64.wrap ((v4.B.length : Int) - v4.Sure)) < v7 then (IntKind.i64.wrap ((v4.B.length : Int) - v4.Sure)) else v7) else 0) p0 a1 x1 x2 v4) else (dossierref03_Disk_Crash_44.j1 k 0 p0 a1 x1 x2 v4)) else (some (⟨x1, p0.Most, (-1), false⟩ : dossierref03_Disk))
end
def dossierref03_Disk_Crash_44.f (k : Nat) (p0 : dossierref03_Disk) (a1 : List Int) : Option dossierref03_Disk := dossierref03_Disk_Crash_44.l0 k ([] : List dossierref03_File) 0 p0 a1
theorem dossierref03_Disk_Crash_44.meets (k : Nat) (p0 : dossierref03_Disk) (a1 : List Int) (r : dossierref03_Disk) (h : dossierref03_Disk_Crash_44.f k p0 a1 = some r) : Meets Try.prog 44 [(rf 0 0), (D.one (C.p false (.sl a1.length (a1.flatMap e_i64))))] [(o_dossierref03_Disk_0 false (C.own 1 0 p0.L.length 3) p0), (or_ e_dossierref03_File p0.L)] (D.tup []) [(o_dossierref03_Disk_0 false (C.own 2 0 r.L.length 3) r), none, (or_ e_dossierref03_File r.L)] := by
 unfold dossierref03_Disk_Crash_44.f at h
 refine Meets.of_body (n := 64) Try.func44 rfl rfl (nl rfl) fun x hx => ?_
 replace hx : x.k = 2 := hx
 show AW _ x _ _ ⟨64, fr0 [(rf 0 0), (D.one (C.p false (.sl a1.length (a1.flatMap e_i64))))], [(o_dossierref03_Disk_0 false (C.own 1 0 p0.L.length 3) p0), (or_ e_dossierref03_File p0.L)]⟩
 refine AW.weak (st' := ⟨64, (upd 64 (upd 64 topF 0 (rf 0 0)) 1 (D.one (C.p false (.sl a1.length (a1.flatMap e_i64))))), [(o_dossierref03_Disk_0 false (C.own 2 0 p0.L.length 3) p0), none, (or_ e_dossierref03_File p0.L)]⟩) (Weak.genL (kk := 2) [0, 1, 1] [] hx rfl (by decide) rfl rfl rfl rfl (le_upd (le_upd (le_top _) (.t (.one (.ref rfl)))) (.t (.one .same))) (ac (.cells id (ac (.own rfl) (ac .sc (ac .sc (ac .sc an))))) (ac (.none _) (ac (.cells id (all2_row _)) an)))) (AW.seq (AW.region ?_))
 refine s_assign (d := (sc (.slice none 0 0))) rfl (AWops.nil (AW.seq (AW.seq (AW.region ?_))))
 refine s_move (d := (rf 0 0)) rfl ?_
 refine s_nilCheck (d := (rf 0 0)) rfl (.inl ⟨_, _, rfl⟩) ?_
 refine s_fieldRef F.fo_72_0 (by decide) rfl ?_
 refine s_load1 (c' := (C.own 2 0 p0.L.length 3)) F.ag_70 rfl rfl ?_
 refine s_len (n := p0.L.length) F.u_70 rfl (.inr ⟨(fun _ _ h => by cases h), ⟨_, rfl⟩⟩) ?_
 refine s_move (d := (si 0)) rfl (AWops.nil (AW.block ?_))
 refine AW.loopw (st0 := ⟨64, (upd 64 (upd 64 (upd 64 (upd 64 (upd 64 (upd 64 topF 0 (rf 0 0)) 1 (D.one (C.p false (.sl a1.length (a1.flatMap e_i64))))) 4 (D.one (C.own 2 0 ([] : List dossierref03_File).length 3))) 12 (D.one (C.own 3 0 p0.L.length 3))) 13 (si (p0.L.length : Int))) 14 (si 0)), [(o_dossierref03_Disk_0 false (C.own 3 0 p0.L.length 3) p0), none, (some (AObj.cells true (rowC e_dossierref03_File ([] : List dossierref03_File)))), (or_ e_dossierref03_File p0.L)]⟩) (fun kv st => kv ≤ k ∧ ∃ (x1 : List dossierref03_File) (x2 : Int), dossierref03_Disk_Crash_44.l0 kv x1 x2 p0 a1 = some r ∧ st = ⟨64, (upd 64 (upd 64 (upd 64 (upd 64 (upd 64 (upd 64 topF 0 (rf 0 0)) 1 (D.one (C.p false (.sl a1.length (a1.flatMap e_i64))))) 4 (D.one (C.own 2 0 x1.length 3))) 12 (D.one (C.own 3 0 p0.L.length 3))) 13 (si (p0.L.length : Int))) 14 (si x2)), [(o_dossierref03_Disk_0 false (C.own 3 0 p0.L.length 3) p0), none, (ow_ e_dossierref03_File x1), (or_ e_dossierref03_File p0.L)]⟩) (k := k) (Weak.trans (Weak.nil (sz := 3) (i := 4) rfl) (wg 2 [0, 1, 3, 2] [] hx (le_upd (le_upd (le_upd (le_upd (le_upd (le_upd (le_top _) (.t (.one (.ref rfl)))) (.t (.one .same))) (.t (.one (.own rfl)))) (.t (.one (.own rfl)))) (.t (.one .sc))) (.t (.one .sc))) (ac (.cells id (ac (.own rfl) (ac .sc (ac .sc (ac .sc an))))) (ac (.none _) (ac (.cells (fun _ => rfl) an) (ac (.cells id (all2_row _)) an)))))) ⟨Nat.le_refl _, ([] : List dossierref03_File), 0, h, rfl⟩ ?_
 rintro ql0 st ⟨hkl0, x1, x2, h, rfl⟩
 cases ql0 with
 | zero => exact absurd h (by simp [dossierref03_Disk_Crash_44.l0])
 | succ ql0 =>
  replace h := (dossierref03_Disk_Crash_44.l0.eq_2 _ _ _ _ _).symm.trans h
  refine AW.seq (AW.region ?_)
  refine s_binI (v := (.bool (decide (x2 < (p0.L.length : Int))))) rfl rfl rfl (AWops.nil (AW.seq ?_))
  rcases itH h with ⟨c3, h⟩ | ⟨c3, h⟩
  ·refine AW.cond_yes rfl c3 (AW.skip (AW.seq (AW.block (AW.seq (AW.region ?_)))))
   refine s_move (d := (si x2)) rfl ?_
   obtain ⟨v4, ev4, h⟩ := bnd h
   obtain ⟨pv4, qv4, gv4⟩ := rd_some ev4
   refine s_indexOwn (d := (D.one (C.ref 3 (0 + x2.toNat * 3)))) F.u_70 F.sz_82 rfl rfl pv4 qv4 rfl ?_
   obtain ⟨R5, hR5⟩ := row_at (f := e_dossierref03_File) (sz := 3) (o := 0) e_dossierref03_File_len gv4 (e_dossierref03_File_eq v4) (by decide)
   refine s_loadN (ds := (c_dossierref03_File v4)) F.ag_82 F.sz_82 (congrArg some hR5) rfl rfl ?_
   refine s_alloc (cs := [(ct (⟨#[]⟩ : ByteArray)), (C.p true (.v (.slice none 0 0))), (ci 0)]) F.z_82 rfl rfl ?_
   refine s_assign (d := (si x2)) rfl ?_
   refine s_store (cs' := (c_dossierref03_File v4)) rfl rfl rfl (List.cons_ne_nil _ _) rfl F.sz_82 (nl rfl) rfl (AWops.nil (AW.seq (AW.region ?_)))
   refine s_assign (d := (si 0)) rfl (AWops.nil ?_)
   refine AW.seqJ (fun st => ∃ (x8 : Int), dossierref03_Disk_Crash_44.j1 ql0 x8 p0 a1 x1 x2 v4 = some r ∧ st = ⟨64, (upd 64 (upd 64 (upd 64 (upd 64 (upd 64 (upd 64 (upd 64 (upd 64 topF 0 (rf 0 0)) 1 (D.one (C.p false (.sl a1.length (a1.flatMap e_i64))))) 4 (D.one (C.own 2 0 x1.length 3))) 6 (rf 3 0)) 7 (si x8)) 12 (D.one (C.own 4 0 p0.L.length 3))) 13 (si (p0.L.length : Int))) 14 (si x2)), [(o_dossierref03_Disk_0 false (C.own 4 0 p0.L.length 3) p0), none, (ow_ e_dossierref03_File x1), (some (AObj.cells true (c_dossierref03_File v4))), (or_ e_dossierref03_File p0.L)]⟩) ?_ ?_
   ·refine AW.seq (AW.region ?_)
    refine s_move (d := (si x2)) rfl ?_
    refine s_move (d := (D.one (C.p false (.sl a1.length (a1.flatMap e_i64))))) rfl ?_
    refine s_len (n := a1.length) F.u_24 rfl (.inr ⟨(fun _ _ h => by cases h), ⟨_, rfl⟩⟩) ?_
    refine s_binI (v := (.bool (decide (x2 < (a1.length : Int))))) rfl rfl rfl (AWops.nil ?_)
    rcases itH h with ⟨c6, h⟩ | ⟨c6, h⟩
    ·refine AW.cond_yes rfl c6 ?_
     refine AW.weak (st' := ⟨64, (upd 64 (upd 64 (upd 64 (upd 64 (upd 64 (upd 64 (upd 64 (upd 64 (upd 64 topF 0 (rf 0 0)) 1 (D.one (C.p false (.sl a1.length (a1.flatMap e_i64))))) 4 (D.one (C.own 2 0 x1.length 3))) 5 (si x2)) 6 (rf 3 0)) 7 (si 0)) 12 (D.one (C.own 4 0 p0.L.length 3))) 13 (si (p0.L.length : Int))) 14 (si x2)), [(o_dossierref03_Disk_0 false (C.own 4 0 p0.L.length 3) p0), none, (ow_ e_dossierref03_File x1), (some (AObj.cells true (c_dossierref03_File v4))), (or_ e_dossierref03_File p0.L)]⟩) (wg 2 [0, 1, 2, 4, 3] [] hx (le_upd (le_upd (le_upd (le_upd (le_upd (le_upd (le_upd (le_upd (le_upd (le_top _) (.t (.one (.ref rfl)))) (.t (.one .same))) (.t (.one (.own rfl)))) (.t (.one .sc))) (.t (.one (.ref rfl)))) (.t (.one .sc))) (.t (.one (.own rfl)))) (.t (.one .sc))) (.t (.one .sc))) (ac (.cells id (ac (.own rfl) (ac .sc (ac .sc (ac .sc an))))) (ac (.none _) (ac (.cells (fun _ => rfl) (all2_row _)) (ac (.cells (fun _ => rfl) (ac .sc (ac .same (ac .sc an)))) (ac (.cells id (all2_row _)) an)))))) ?_
     obtain ⟨v7, ev7, h⟩ := bnd h
     obtain ⟨pv7, qv7, gv7⟩ := rd_some ev7
     refine AW.draw (n := 64) (L := 5) [(ft 0 23 (D.one (C.p false (.sl a1.length (a1.flatMap e_i64)))) [(1, (D.one (C.p false (.sl a1.length (a1.flatMap e_i64)))))]), (ft 1 24 (si x2) [(5, (si x2))]), (ft 2 25 (D.one (C.peek false [P.v (.int .i64 v7)])) [(23, (D.one (C.p false (.sl a1.length (a1.flatMap e_i64))))), (24, (si x2))]), (ft 3 26 (si v7) [(25, (D.one (C.peek false [P.v (.int .i64 v7)])))]), (ft 4 27 (rf 3 1) [(6, (rf 3 0))]), (5, ⟨some 28, (D.one (C.p false (.sl v4.B.length (v4.B.flatMap e_u8)))), [(27, (rf 3 1))], [(3, (some (AObj.cells true (c_dossierref03_File v4))))], [], none⟩), (ft 6 29 (si (v4.B.length : Int)) [(28, (D.one (C.p false (.sl v4.B.length (v4.B.flatMap e_u8)))))]), (ft 7 30 (rf 3 2) [(6, (rf 3 0))]), (8, ⟨some 31, (si v4.Sure), [(30, (rf 3 2))], [(3, (some (AObj.cells true (c_dossierref03_File v4))))], [], none⟩), (ft 9 32 (si (IntKind.i64.wrap ((v4.B.length : Int) - v4.Sure))) [(29, (si (v4.B.length : Int))), (31, (si v4.Sure))]), (ft 10 33 (si (if (IntKind.i64.wrap ((v4.B.length : Int) - v4.Sure)) < v7 then (IntKind.i64.wrap ((v4.B.length : Int) - v4.Sure)) else v7)) [(26, (si v7)), (32, (si (IntKind.i64.wrap ((v4.B.length : Int) - v4.Sure))))]), (ft 11 34 (si (if (if (IntKind.i64.wrap ((v4.B.length : Int) - v4.Sure)) < v7 then (IntKind.i64.wrap ((v4.B.length : Int) - v4.Sure)) else v7) > 0 then (if (IntKind.i64.wrap ((v4.B.length : Int) - v4.Sure)) < v7 then (IntKind.i64.wrap ((v4.B.length : Int) - v4.Sure)) else v7) else 0)) [(33, (si (if (IntKind.i64.wrap ((v4.B.length : Int) - v4.Sure)) < v7 then (IntKind.i64.wrap ((v4.B.length : Int) - v4.Sure)) else v7)))]), (ft 12 7 (si (if (if (IntKind.i64.wrap ((v4.B.length : Int) - v4.Sure)) < v7 then (IntKind.i64.wrap ((v4.B.length : Int) - v4.Sure)) else v7) > 0 then (if (IntKind.i64.wrap ((v4.B.length : Int) - v4.Sure)) < v7 then (IntKind.i64.wrap ((v4.B.length : Int) - v4.Sure)) else v7) else 0)) [(34, (si (if (if (IntKind.i64.wrap ((v4.B.length : Int) - v4.Sure)) < v7 then (IntKind.i64.wrap ((v4.B.length : Int) - v4.Sure)) else v7) > 0 then (if (IntKind.i64.wrap ((v4.B.length : Int) - v4.Sure)) < v7 then (IntKind.i64.wrap ((v4.B.length : Int) - v4.Sure)) else v7) else 0)))])] [[], [], [0, 1], [0, 1, 2], [], [4], [4, 5], [], [7], [4, 5, 6, 7, 8], (.range 10), (.range 11), (.range 12)] (nl rfl) [0, 0, 1, 2, 0, 1, 2, 0, 1, 3, 4, 5, 6] rfl (TK := []) rfl AllK.nil' (by repeat (first | refine fC ⟨?_, ?_⟩ ?_ | refine sC rfl ?_ | refine hC rfl ?_ | trivial)) ?_ ?_
     ·refine (pC ?_ (pC ?_ (pC ?_ (pC ?_ (pC ?_ (pC ?_ (pC ?_ (pC ?_ (pC ?_ (pC ?_ (pC ?_ (pC ?_ (pC ?_ AllStep.nil')))))))))))))
      ·intro K rest fr hv htk k
       show AWops _ x _ _ K ⟨64, (upd 64 fr 1 (D.one (C.p false (.sl a1.length (a1.flatMap e_i64))))), _⟩
       refine s_move (d := (D.one (C.p false (.sl a1.length (a1.flatMap e_i64))))) rfl k
      ·intro K rest fr hv htk k
       show AWops _ x _ _ K ⟨64, (upd 64 fr 5 (si x2)), _⟩
       refine s_move (d := (si x2)) rfl k
      ·intro K rest fr hv htk k
       show AWops _ x _ _ K ⟨64, (upd 64 (upd 64 fr 24 (si x2)) 23 (D.one (C.p false (.sl a1.length (a1.flatMap e_i64))))), [(hv 0), (hv 1), (hv 2), (hv 3), (hv 4)]⟩
       refine s_indexImm (ps := [P.v (.int .i64 v7)]) F.u_24 F.sz_3 rfl rfl pv7 qv7 (flat_at e_i64_len gv7 (e_i64_eq v7)) k
      ·intro K rest fr hv htk k
       show AWops _ x _ _ K ⟨64, (upd 64 fr 25 (D.one (C.peek false [P.v (.int .i64 v7)]))), [(hv 0), (hv 1), (hv 2), (hv 3), (hv 4)]⟩
       refine s_load1 (c' := (ci v7)) F.ag_3 rfl rfl k
      ·intro K rest fr hv htk k
       show AWops _ x _ _ K ⟨64, (upd 64 fr 6 (rf 3 0)), [(hv 0), (hv 1), (hv 2), (hv 3), (hv 4)]⟩
       refine s_fieldRef F.fo_82_1 (by decide) rfl k
      ·intro K rest fr hv htk k
       show AWops _ x _ _ K ⟨64, (upd 64 fr 27 (rf 3 1)), [(hv 0), (hv 1), (hv 2), (some (AObj.cells true (c_dossierref03_File v4))), (hv 4)]⟩
       refine s_load1 (c' := (C.p false (.sl v4.B.length (v4.B.flatMap e_u8)))) F.ag_22 rfl rfl k
      ·intro K rest fr hv htk k
       show AWops _ x _ _ K ⟨64, (upd 64 fr 28 (D.one (C.p false (.sl v4.B.length (v4.B.flatMap e_u8))))), [(hv 0), (hv 1), (hv 2), (hv 3), (hv 4)]⟩
       refine s_len (n := v4.B.length) F.u_22 rfl (.inr ⟨(fun _ _ h => by cases h), ⟨_, rfl⟩⟩) k
      ·intro K rest fr hv htk k
       show AWops _ x _ _ K ⟨64, (upd 64 fr 6 (rf 3 0)), [(hv 0), (hv 1), (hv 2), (hv 3), (hv 4)]⟩
       refine s_fieldRef F.fo_82_2 (by decide) rfl k
      ·intro K rest fr hv htk k
       show AWops _ x _ _ K ⟨64, (upd 64 fr 30 (rf 3 2)), [(hv 0), (hv 1), (hv 2), (some (AObj.cells true (c_dossierref03_File v4))), (hv 4)]⟩
       refine s_load1 (c' := (ci v4.Sure)) F.ag_3 rfl rfl k
      ·intro K rest fr hv htk k
       show AWops _ x _ _ K ⟨64, (upd 64 (upd 64 fr 31 (si v4.Sure)) 29 (si (v4.B.length : Int))), _⟩
       refine s_binI (v := (.int .i64 (IntKind.i64.wrap ((v4.B.length : Int) - v4.Sure)))) rfl rfl rfl k
      ·intro K rest fr hv htk k
       show AWops _ x _ _ K ⟨64, (upd 64 (upd 64 fr 32 (si (IntKind.i64.wrap ((v4.B.length : Int) - v4.Sure)))) 26 (si v7)), [(hv 0), (hv 1), (hv 2), (hv 3), (hv 4)]⟩
       refine s_min2 (r := (if (IntKind.i64.wrap ((v4.B.length : Int) - v4.Sure)) < v7 then (IntKind.i64.wrap ((v4.B.length : Int) - v4.Sure)) else v7)) rfl rfl rfl k
      ·intro K rest fr hv htk k
       show AWops _ x _ _ K ⟨64, (upd 64 fr 33 (si (if (IntKind.i64.wrap ((v4.B.length : Int) - v4.Sure)) < v7 then (IntKind.i64.wrap ((v4.B.length : Int) - v4.Sure)) else v7))), [(hv 0), (hv 1), (hv 2), (hv 3), (hv 4)]⟩
       refine s_max2 (r := (if (if (IntKind.i64.wrap ((v4.B.length : Int) - v4.Sure)) < v7 then (IntKind.i64.wrap ((v4.B.length : Int) - v4.Sure)) else v7) > 0 then (if (IntKind.i64.wrap ((v4.B.length : Int) - v4.Sure)) < v7 then (IntKind.i64.wrap ((v4.B.length : Int) - v4.Sure)) else v7) else 0)) rfl rfl rfl k
      ·intro K rest fr hv htk k
       show AWops _ x _ _ K ⟨64, (upd 64 fr 34 (si (if (if (IntKind.i64.wrap ((v4.B.length : Int) - v4.Sure)) < v7 then (IntKind.i64.wrap ((v4.B.length : Int) - v4.Sure)) else v7) > 0 then (if (IntKind.i64.wrap ((v4.B.length : Int) - v4.Sure)) < v7 then (IntKind.i64.wrap ((v4.B.length : Int) - v4.Sure)) else v7) else 0))), _⟩
       refine s_assign (d := (si (if (if (IntKind.i64.wrap ((v4.B.length : Int) - v4.Sure)) < v7 then (IntKind.i64.wrap ((v4.B.length : Int) - v4.Sure)) else v7) > 0 then (if (IntKind.i64.wrap ((v4.B.length : Int) - v4.Sure)) < v7 then (IntKind.i64.wrap ((v4.B.length : Int) - v4.Sure)) else v7) else 0))) rfl k
     ·refine AWops.weak (st' := ⟨64, (upd 64 (upd 64 (upd 64 (upd 64 (upd 64 (upd 64 (upd 64 (upd 64 topF 0 (rf 0 0)) 1 (D.one (C.p false (.sl a1.length (a1.flatMap e_i64))))) 4 (D.one (C.own 2 0 x1.length 3))) 6 (rf 3 0)) 7 (si (if (if (IntKind.i64.wrap ((v4.B.length : Int) - v4.Sure)) < v7 then (IntKind.i64.wrap ((v4.B.length : Int) - v4.Sure)) else v7) > 0 then (if (IntKind.i64.wrap ((v4.B.length : Int) - v4.Sure)) < v7 then (IntKind.i64.wrap ((v4.B.length : Int) - v4.Sure)) else v7) else 0))) 12 (D.one (C.own 4 0 p0.L.length 3))) 13 (si (p0.L.length : Int))) 14 (si x2)), [(o_dossierref03_Disk_0 false (C.own 4 0 p0.L.length 3) p0), none, (ow_ e_dossierref03_File x1), (some (AObj.cells true (c_dossierref03_File v4))), (or_ e_dossierref03_File p0.L)]⟩) (wg 2 [0, 1, 2, 3, 4] [] hx (le_upd (le_upd (le_upd (le_upd (le_upd (le_upd (le_upd (le_upd (le_top _) (.t (.one (.ref rfl)))) (.t (.one .same))) (.t (.one (.own rfl)))) (.t (.one (.ref rfl)))) (.t (.one .sc))) (.t (.one (.own rfl)))) (.t (.one .sc))) (.t (.one .sc))) (ac (.cells id (ac (.own rfl) (ac .sc (ac .sc (ac .sc an))))) (ac (.none _) (ac (.cells (fun _ => rfl) (all2_row _)) (ac (.cells (fun _ => rfl) (ac .sc (ac .same (ac .sc an)))) (ac (.cells id (all2_row _)) an)))))) (AWops.nil ?_)
      exact ⟨⟨64, (upd 64 (upd 64 (upd 64 (upd 64 (upd 64 (upd 64 (upd 64 (upd 64 topF 0 (rf 0 0)) 1 (D.one (C.p false (.sl a1.length (a1.flatMap e_i64))))) 4 (D.one (C.own 2 0 x1.length 3))) 6 (rf 3 0)) 7 (si (if (if (IntKind.i64.wrap ((v4.B.length : Int) - v4.Sure)) < v7 then (IntKind.i64.wrap ((v4.B.length : Int) - v4.Sure)) else v7) > 0 then (if (IntKind.i64.wrap ((v4.B.length : Int) - v4.Sure)) < v7 then (IntKind.i64.wrap ((v4.B.length : Int) - v4.Sure)) else v7) else 0))) 12 (D.one (C.own 4 0 p0.L.length 3))) 13 (si (p0.L.length : Int))) 14 (si x2)), [(o_dossierref03_Disk_0 false (C.own 4 0 p0.L.length 3) p0), none, (ow_ e_dossierref03_File x1), (some (AObj.cells true (c_dossierref03_File v4))), (or_ e_dossierref03_File p0.L)]⟩, (wg 2 [0, 1, 2, 3, 4] [] hx (le_upd (le_upd (le_upd (le_upd (le_upd (le_upd (le_upd (le_upd (le_top _) (.t (.one (.ref rfl)))) (.t (.one .same))) (.t (.one (.own rfl)))) (.t (.one (.ref rfl)))) (.t (.one .sc))) (.t (.one (.own rfl)))) (.t (.one .sc))) (.t (.one .sc))) (ac (.cells id (ac (.own rfl) (ac .sc (ac .sc (ac .sc an))))) (ac (.none _) (ac (.cells (fun _ => rfl) (all2_row _)) (ac (.cells (fun _ => rfl) (ac .sc (ac .same (ac .sc an)))) (ac (.cells id (all2_row _)) an)))))), (if (if (IntKind.i64.wrap ((v4.B.length : Int) - v4.Sure)) < v7 then (IntKind.i64.wrap ((v4.B.length : Int) - v4.Sure)) else v7) > 0 then (if (IntKind.i64.wrap ((v4.B.length : Int) - v4.Sure)) < v7 then (IntKind.i64.wrap ((v4.B.length : Int) - v4.Sure)) else v7) else 0), h, rfl⟩
    ·refine AW.cond_no rfl c6 (AW.skip ?_)
     exact ⟨⟨64, (upd 64 (upd 64 (upd 64 (upd 64 (upd 64 (upd 64 (upd 64 (upd 64 topF 0 (rf 0 0)) 1 (D.one (C.p false (.sl a1.length (a1.flatMap e_i64))))) 4 (D.one (C.own 2 0 x1.length 3))) 6 (rf 3 0)) 7 (si 0)) 12 (D.one (C.own 4 0 p0.L.length 3))) 13 (si (p0.L.length : Int))) 14 (si x2)), [(o_dossierref03_Disk_0 false (C.own 4 0 p0.L.length 3) p0), none, (ow_ e_dossierref03_File x1), (some (AObj.cells true (c_dossierref03_File v4))), (or_ e_dossierref03_File p0.L)]⟩, (wg 2 [0, 1, 2, 4, 3] [] hx (le_upd (le_upd (le_upd (le_upd (le_upd (le_upd (le_upd (le_upd (le_top _) (.t (.one (.ref rfl)))) (.t (.one .same))) (.t (.one (.own rfl)))) (.t (.one (.ref rfl)))) (.t (.one .sc))) (.t (.one (.own rfl)))) (.t (.one .sc))) (.t (.one .sc))) (ac (.cells id (ac (.own rfl) (ac .sc (ac .sc (ac .sc an))))) (ac (.none _) (ac (.cells (fun _ => rfl) (all2_row _)) (ac (.cells (fun _ => rfl) (ac .sc (ac .same (ac .sc an)))) (ac (.cells id (all2_row _)) an)))))), 0, h, rfl⟩
   ·rintro st ⟨x8, h, rfl⟩
    cases ql0 with
    | zero => exact absurd h (by simp [dossierref03_Disk_Crash_44.j1])
    | succ qj1 =>
     replace h := (dossierref03_Disk_Crash_44.j1.eq_2 _ _ _ _ _ _ _).symm.trans h
     refine AW.seq (AW.region ?_)
     refine s_buildSlice (n := 0) (ps := []) (cs := rowC e_u8 ([] : List Int)) F.u_22 F.sz_5 F.z_5 rfl rfl (by decide) (by decide) rfl rfl ?_
     refine s_fieldRef F.fo_82_1 (by decide) rfl ?_
     refine s_load1 (c' := (C.p false (.sl v4.B.length (v4.B.flatMap e_u8)))) F.ag_22 rfl rfl ?_
     refine s_fieldRef F.fo_82_2 (by decide) rfl ?_
     refine s_load1 (c' := (ci v4.Sure)) F.ag_3 rfl rfl ?_
     refine s_move (d := (si x8)) rfl ?_
     refine s_binI (v := (.int .i64 (IntKind.i64.wrap (v4.Sure + x8)))) rfl rfl rfl ?_
     obtain ⟨c9, h⟩ := gdH h
     have dc9 := of_decide_eq_true c9
     refine t_sliceImm (a := 0) (b := IntKind.i64.wrap (v4.Sure + x8)) F.u_22 F.sz_5 e_u8_len rfl (by omega) (by omega) (by omega) .no (.yes rfl (by omega) rfl) ?_
     obtain ⟨c10, h⟩ := gdH h
     have dc10 := of_decide_eq_true c10
     refine t_append (xs := ([] : List Int)) (ys := sub v4.B 0 (IntKind.i64.wrap (v4.Sure + x8))) (zs := sub v4.B 0 (IntKind.i64.wrap (v4.Sure + x8))) (H' := [(o_dossierref03_Disk_0 false (C.own 4 0 p0.L.length 3) p0), none, (ow_ e_dossierref03_File x1), (some (AObj.cells true (c_dossierref03_File v4))), (or_ e_dossierref03_File p0.L), none, (some (AObj.cells true (rowC e_u8 (sub v4.B 0 (IntKind.i64.wrap (v4.Sure + x8))))))]) F.u_22 F.in_5 rfl e_u8_len (.own rfl rfl) .imm F.u_22 (by omega) (by omega) rfl rfl ?_
     refine s_assign (d := (D.one (C.own 6 0 ((sub v4.B 0 (IntKind.i64.wrap (v4.Sure + x8))).length) 1))) rfl (AWops.nil (AW.region ?_))
     refine s_move (d := (D.one (C.own 2 0 x1.length 3))) rfl ?_
     refine s_fieldRef F.fo_82_0 (by decide) rfl ?_
     refine s_load1 (c' := (ct v4.Name)) F.ag_9 rfl rfl ?_
     refine s_move (d := (D.one (C.own 6 0 ((sub v4.B 0 (IntKind.i64.wrap (v4.Sure + x8))).length) 1))) rfl ?_
     refine s_move (d := (D.one (C.own 6 0 ((sub v4.B 0 (IntKind.i64.wrap (v4.Sure + x8))).length) 1))) rfl ?_
     refine s_len (n := (sub v4.B 0 (IntKind.i64.wrap (v4.Sure + x8))).length) F.u_22 rfl (.inr ⟨(fun _ _ h => by cases h), ⟨_, rfl⟩⟩) ?_
     refine s_build (ps := [(0, (st_ v4.Name)), (1, (D.one (C.own 6 0 ((sub v4.B 0 (IntKind.i64.wrap (v4.Sure + x8))).length) 1))), (2, (si ((sub v4.B 0 (IntKind.i64.wrap (v4.Sure + x8))).length : Int)))]) (cs := [(ct v4.Name), (C.own 6 0 ((sub v4.B 0 (IntKind.i64.wrap (v4.Sure + x8))).length) 1), (ci ((sub v4.B 0 (IntKind.i64.wrap (v4.Sure + x8))).length : Int))]) F.z_82 rfl F.so_82 rfl rfl ?_
     refine AWops.weak (st' := ⟨64, (upd 64 (upd 64 (upd 64 (upd 64 (upd 64 (upd 64 (upd 64 (upd 64 (upd 64 (upd 64 (upd 64 (upd 64 (upd 64 (upd 64 (upd 64 (upd 64 (upd 64 (upd 64 (upd 64 (upd 64 (upd 64 (upd 64 (upd 64 (upd 64 topF 0 (rf 0 0)) 1 (D.one (C.p false (.sl a1.length (a1.flatMap e_i64))))) 4 (D.one (C.own 2 0 x1.length 3))) 6 (rf 3 0)) 7 (si x8)) 8 (D.one (C.p false (.sl (sub v4.B 0 (IntKind.i64.wrap (v4.Sure + x8))).length ((sub v4.B 0 (IntKind.i64.wrap (v4.Sure + x8))).flatMap e_u8))))) 12 (D.one (C.own 4 0 p0.L.length 3))) 13 (si (p0.L.length : Int))) 14 (si x2)) 36 (rf 3 1)) 37 (D.one (C.p false (.sl v4.B.length (v4.B.flatMap e_u8))))) 38 (rf 3 2)) 39 (si v4.Sure)) 40 (si x8)) 41 (si (IntKind.i64.wrap (v4.Sure + x8)))) 42 (D.one (C.p false (.sl (sub v4.B 0 (IntKind.i64.wrap (v4.Sure + x8))).length ((sub v4.B 0 (IntKind.i64.wrap (v4.Sure + x8))).flatMap e_u8))))) 43 (D.one (C.p false (.sl (sub v4.B 0 (IntKind.i64.wrap (v4.Sure + x8))).length ((sub v4.B 0 (IntKind.i64.wrap (v4.Sure + x8))).flatMap e_u8))))) 44 (D.one (C.own 2 0 x1.length 3))) 45 (rf 3 0)) 46 (st_ v4.Name)) 47 (D.one (C.p false (.sl (sub v4.B 0 (IntKind.i64.wrap (v4.Sure + x8))).length ((sub v4.B 0 (IntKind.i64.wrap (v4.Sure + x8))).flatMap e_u8))))) 48 (D.one (C.p false (.sl (sub v4.B 0 (IntKind.i64.wrap (v4.Sure + x8))).length ((sub v4.B 0 (IntKind.i64.wrap (v4.Sure + x8))).flatMap e_u8))))) 49 (si ((sub v4.B 0 (IntKind.i64.wrap (v4.Sure + x8))).length : Int))) 50 (D.agg [(ct v4.Name), (C.p false (.sl (sub v4.B 0 (IntKind.i64.wrap (v4.Sure + x8))).length ((sub v4.B 0 (IntKind.i64.wrap (v4.Sure + x8))).flatMap e_u8))), (ci ((sub v4.B 0 (IntKind.i64.wrap (v4.Sure + x8))).length : Int))])), [(o_dossierref03_Disk_0 false (C.own 4 0 p0.L.length 3) p0), none, (ow_ e_dossierref03_File x1), (some (AObj.cells true (c_dossierref03_File v4))), (or_ e_dossierref03_File p0.L)]⟩) (wg 2 [0, 1, 2, 3, 4] [6] hx (le_upd (le_upd (le_upd (le_upd (le_upd (le_upd (le_upd (le_upd (le_upd (le_upd (le_upd (le_upd (le_upd (le_upd (le_upd (le_upd (le_upd (le_upd (le_upd (le_upd (le_upd (le_upd (le_upd (le_upd (le_top _) (.t (.one (.ref rfl)))) (.t (.one .same))) (.t (.one (.own rfl)))) (.t (.one (.ref rfl)))) (.t (.one .sc))) (.t (.one (CLe.frz e_u8_len rfl rfl rfl)))) (.t (.one (.own rfl)))) (.t (.one .sc))) (.t (.one .sc))) (.t (.one (.ref rfl)))) (.t (.one .same))) (.t (.one (.ref rfl)))) (.t (.one .sc))) (.t (.one .sc))) (.t (.one .sc))) (.t (.one .same))) (.t (.one (CLe.frz e_u8_len rfl rfl rfl)))) (.t (.one (.own rfl)))) (.t (.one (.ref rfl)))) (.t (.one .sc))) (.t (.one (CLe.frz e_u8_len rfl rfl rfl)))) (.t (.one (CLe.frz e_u8_len rfl rfl rfl)))) (.t (.one .sc))) (.t (.agg (ac .sc (ac (CLe.frz e_u8_len rfl rfl rfl) (ac .sc an)))))) (ac (.cells id (ac (.own rfl) (ac .sc (ac .sc (ac .sc an))))) (ac (.none _) (ac (.cells (fun _ => rfl) (all2_row _)) (ac (.cells (fun _ => rfl) (ac .sc (ac .same (ac .sc an)))) (ac (.cells id (all2_row _)) an)))))) ?_
     refine s_buildSlice (n := 1) (ps := [(0, (D.agg [(ct v4.Name), (C.p false (.sl (sub v4.B 0 (IntKind.i64.wrap (v4.Sure + x8))).length ((sub v4.B 0 (IntKind.i64.wrap (v4.Sure + x8))).flatMap e_u8))), (ci ((sub v4.B 0 (IntKind.i64.wrap (v4.Sure + x8))).length : Int))]))]) (cs := rowC e_dossierref03_File ([(⟨v4.Name, sub v4.B 0 (IntKind.i64.wrap (v4.Sure + x8)), ((sub v4.B 0 (IntKind.i64.wrap (v4.Sure + x8))).length : Int)⟩ : dossierref03_File)] : List dossierref03_File)) F.u_70 F.sz_82 F.z_82 rfl rfl (by decide) (by decide) rfl rfl ?_
     obtain ⟨c11, h⟩ := gdH h
     have dc11 := of_decide_eq_true c11
     refine t_append (xs := x1) (ys := ([(⟨v4.Name, sub v4.B 0 (IntKind.i64.wrap (v4.Sure + x8)), ((sub v4.B 0 (IntKind.i64.wrap (v4.Sure + x8))).length : Int)⟩ : dossierref03_File)] : List dossierref03_File)) (zs := x1 ++ ([(⟨v4.Name, sub v4.B 0 (IntKind.i64.wrap (v4.Sure + x8)), ((sub v4.B 0 (IntKind.i64.wrap (v4.Sure + x8))).length : Int)⟩ : dossierref03_File)] : List dossierref03_File)) (H' := [(o_dossierref03_Disk_0 false (C.own 4 0 p0.L.length 3) p0), none, none, (some (AObj.cells true (c_dossierref03_File v4))), (or_ e_dossierref03_File p0.L), (some (AObj.cells true (rowC e_dossierref03_File ([(⟨v4.Name, sub v4.B 0 (IntKind.i64.wrap (v4.Sure + x8)), ((sub v4.B 0 (IntKind.i64.wrap (v4.Sure + x8))).length : Int)⟩ : dossierref03_File)] : List dossierref03_File)))), (some (AObj.cells true (rowC e_dossierref03_File (x1 ++ ([(⟨v4.Name, sub v4.B 0 (IntKind.i64.wrap (v4.Sure + x8)), ((sub v4.B 0 (IntKind.i64.wrap (v4.Sure + x8))).length : Int)⟩ : dossierref03_File)] : List dossierref03_File)))))]) F.u_70 F.in_82 rfl e_dossierref03_File_len (.own rfl rfl) (.own rfl rfl) F.u_70 (by omega) (by omega) rfl rfl ?_
     refine s_assign (d := (D.one (C.own 6 0 ((x1 ++ ([(⟨v4.Name, sub v4.B 0 (IntKind.i64.wrap (v4.Sure + x8)), ((sub v4.B 0 (IntKind.i64.wrap (v4.Sure + x8))).length : Int)⟩ : dossierref03_File)] : List dossierref03_File)).length) 3))) rfl (AWops.nil (AW.region ?_))
     refine s_binI (v := (.int .i64 (IntKind.i64.wrap (x2 + 1)))) rfl rfl rfl ?_
     refine s_move (d := (si (IntKind.i64.wrap (x2 + 1)))) rfl (AWops.nil ?_)
     exact ⟨_, ⟨64, (upd 64 (upd 64 (upd 64 (upd 64 (upd 64 (upd 64 topF 0 (rf 0 0)) 1 (D.one (C.p false (.sl a1.length (a1.flatMap e_i64))))) 4 (D.one (C.own 2 0 (x1 ++ ([(⟨v4.Name, sub v4.B 0 (IntKind.i64.wrap (v4.Sure + x8)), ((sub v4.B 0 (IntKind.i64.wrap (v4.Sure + x8))).length : Int)⟩ : dossierref03_File)] : List dossierref03_File)).length 3))) 12 (D.one (C.own 3 0 p0.L.length 3))) 13 (si (p0.L.length : Int))) 14 (si (IntKind.i64.wrap (x2 + 1)))), [(o_dossierref03_Disk_0 false (C.own 3 0 p0.L.length 3) p0), none, (some (AObj.cells true (rowC e_dossierref03_File (x1 ++ ([(⟨v4.Name, sub v4.B 0 (IntKind.i64.wrap (v4.Sure + x8)), ((sub v4.B 0 (IntKind.i64.wrap (v4.Sure + x8))).length : Int)⟩ : dossierref03_File)] : List dossierref03_File))))), (or_ e_dossierref03_File p0.L)]⟩, by omega, (wg 2 [0, 1, 6, 4] [] hx (le_upd (le_upd (le_upd (le_upd (le_upd (le_upd (le_top _) (.t (.one (.ref rfl)))) (.t (.one .same))) (.t (.one (.own rfl)))) (.t (.one (.own rfl)))) (.t (.one .sc))) (.t (.one .sc))) (ac (.cells id (ac (.own rfl) (ac .sc (ac .sc (ac .sc an))))) (ac (.none _) (ac (.cells (fun _ => rfl) (all2_row _)) (ac (.cells id (all2_row _)) an))))), by omega, x1 ++ ([(⟨v4.Name, sub v4.B 0 (IntKind.i64.wrap (v4.Sure + x8)), ((sub v4.B 0 (IntKind.i64.wrap (v4.Sure + x8))).length : Int)⟩ : dossierref03_File)] : List dossierref03_File), IntKind.i64.wrap (x2 + 1), h, rfl⟩
  ·refine AW.cond_no rfl c3 (AW.exit (AW.region ?_))
   refine s_move (d := (rf 0 0)) rfl ?_
   refine s_move (d := (rf 0 0)) rfl ?_
   refine s_move (d := (rf 0 0)) rfl ?_
   refine s_move (d := (D.one (C.own 2 0 x1.length 3))) rfl ?_
   refine s_nilCheck (d := (rf 0 0)) rfl (.inl ⟨_, _, rfl⟩) ?_
   refine s_fieldRef F.fo_72_0 (by decide) rfl ?_
   refine s_store (cs' := [(C.own 2 0 x1.length 3), (ci p0.Most), (ci p0.Burns), (cb p0.Off)]) rfl rfl rfl (List.cons_ne_nil _ _) rfl F.sz_70 (nl rfl) rfl ?_
   refine s_nilCheck (d := (rf 0 0)) rfl (.inl ⟨_, _, rfl⟩) ?_
   refine s_fieldRef F.fo_72_3 (by decide) rfl ?_
   refine s_store (cs' := [(C.own 2 0 x1.length 3), (ci p0.Most), (ci p0.Burns), (cb false)]) rfl rfl rfl (List.cons_ne_nil _ _) rfl F.sz_4 (nl rfl) rfl ?_
   refine s_nilCheck (d := (rf 0 0)) rfl (.inl ⟨_, _, rfl⟩) ?_
   refine s_fieldRef F.fo_72_2 (by decide) rfl ?_
   refine s_store (cs' := [(C.own 2 0 x1.length 3), (ci p0.Most), (ci (-1)), (cb false)]) rfl rfl rfl (List.cons_ne_nil _ _) rfl F.sz_3 (nl rfl) rfl (AWops.nil ?_)
   obtain rfl := Option.some.inj h
   exact ⟨_, rfl, (wg 2 [0, 1, 2] [] rfl (le_upd (le_top _) (DLe.tup an)) (ac (.cells id (ac (.own rfl) (ac .sc (ac .sc (ac .sc an))))) (ac (.none _) (ac (.cells (fun _ => rfl) (all2_row _)) an))))⟩
def vdisk_Disk_Room.f (k : Nat) (p0 : vdisk_Disk) (a1 : Int) : Option (Int × vdisk_Disk) := (vdisk_Disk_none.f k p0).bind fun r1 => if (decide (a1 < 0)) = true then (some (1, p0)) else (if (decide (a1 > 4194304)) = true then (some (1, p0)) else (some (0, (⟨p0.files, a1, p0.used, (), p0.dead⟩ : vdisk_Disk))))
theorem vdisk_Disk_Room.meets (k : Nat) (p0 : vdisk_Disk) (a1 : Int) (r : Int × vdisk_Disk) (h : vdisk_Disk_Room.f k p0 a1 = some r) : Meets Try.prog 22 [(rf 0 0), (si a1)] [(o_vdisk_Disk_03 false (C.mp 1) (C.p true (.v (.pointer none))) p0), (om_ e_vdisk_file p0.files)] (si r.1) [(o_vdisk_Disk_03 false (C.mp 1) (C.p true (.v (.pointer none))) r.2), (om_ e_vdisk_file r.2.files)] := by
 unfold vdisk_Disk_Room.f at h
 refine Meets.of_body (n := 19) Try.func22 rfl rfl (nl rfl) fun x hx => ?_
 replace hx : x.k = 2 := hx
 show AW _ x _ _ ⟨19, fr0 [(rf 0 0), (si a1)], [(o_vdisk_Disk_03 false (C.mp 1) (C.p true (.v (.pointer none))) p0), (om_ e_vdisk_file p0.files)]⟩
 refine AW.seq (AW.region ?_)
 refine s_assign (d := (si 0)) rfl (AWops.nil (AW.seq (AW.block (AW.seq (AW.region ?_)))))
 refine s_move (d := (rf 0 0)) rfl ?_
 obtain ⟨r1, er1, h⟩ := bnd h
 have kr1 := vdisk_Disk_none.const er1
 subst kr1
 refine s_call2 (ρ := [0, 1]) (br := false) (H2 := [(o_vdisk_Disk_03 false (C.mp 1) (C.p true (.v (.pointer none))) p0), (om_ e_vdisk_file p0.files)]) (d := (sb false)) F.ca_35 rfl rfl (ac (.one (.ref rfl)) an) (ac (.cells (ac (.mp rfl) (ac .sc (ac .sc (ac .sc (ac .sc an)))))) (ac .map an)) (by decide) rfl (vdisk_Disk_none.meets _ p0 false er1) (.inl rfl) rfl rfl ?_
 refine s_assign (d := (sb false)) rfl (AWops.nil ?_)
 refine AW.cond_no rfl rfl (AW.seq (AW.region ?_))
 refine s_move (d := (si a1)) rfl ?_
 refine s_binI (v := (.bool (decide (a1 < 0)))) rfl rfl rfl ?_
 refine s_move (d := (sb (decide (a1 < 0)))) rfl ?_
 rcases itH h with ⟨c2, h⟩ | ⟨c2, h⟩
 ·refine AWops.guard_no rfl (nl rfl) rfl c2 ?_
  refine AWops.guard_no rfl (nl rfl) rfl c2 ?_
  refine s_pick_yes (d := (sb true)) rfl c2 rfl ?_
  refine s_assign (d := (sb true)) rfl (AWops.nil ?_)
  refine AW.cond_yes rfl rfl (AW.seq (AW.region ?_))
  refine s_assign (d := (si 1)) rfl (AWops.nil (AW.ret ?_))
  obtain rfl := Option.some.inj h
  exact ⟨_, rfl, (wg 2 [0, 1] [] rfl (le_upd (le_top _) (.t (.one .sc))) (ac (.cells id (ac (.mp rfl) (ac .sc (ac .sc (ac .sc (ac .sc an)))))) (ac .map an)))⟩
 ·refine AWops.guard_yes rfl (nl rfl) rfl c2 ?_
  refine s_move (d := (si a1)) rfl ?_
  refine AWops.guard_yes rfl (nl rfl) rfl c2 ?_
  refine s_binI (v := (.bool (decide (a1 > 4194304)))) rfl rfl rfl ?_
  refine s_pick_no (d := (sb (decide (a1 > 4194304)))) rfl c2 rfl ?_
  refine s_assign (d := (sb (decide (a1 > 4194304)))) rfl (AWops.nil ?_)
  rcases itH h with ⟨c3, h⟩ | ⟨c3, h⟩
  ·refine AW.cond_yes rfl c3 (AW.seq (AW.region ?_))
   refine s_assign (d := (si 1)) rfl (AWops.nil (AW.ret ?_))
   obtain rfl := Option.some.inj h
   exact ⟨_, rfl, (wg 2 [0, 1] [] rfl (le_upd (le_top _) (.t (.one .sc))) (ac (.cells id (ac (.mp rfl) (ac .sc (ac .sc (ac .sc (ac .sc an)))))) (ac .map an)))⟩
  ·refine AW.cond_no rfl c3 (AW.skip (AW.seq (AW.region ?_)))
   refine s_move (d := (rf 0 0)) rfl ?_
   refine s_move (d := (si a1)) rfl ?_
   refine s_nilCheck (d := (rf 0 0)) rfl (.inl ⟨_, _, rfl⟩) ?_
   refine s_fieldRef F.fo_50_1 (by decide) rfl ?_
   refine s_store (cs' := [(C.mp 1), (ci a1), (ci p0.used), (C.p true (.v (.pointer none))), (cb p0.dead)]) rfl rfl rfl (List.cons_ne_nil _ _) rfl F.sz_3 (nl rfl) rfl (AWops.nil (AW.seq (AW.region ?_)))
   refine s_assign (d := (si 0)) rfl (AWops.nil (AW.ret ?_))
   obtain rfl := Option.some.inj h
   exact ⟨_, rfl, (wg 2 [0, 1] [] rfl (le_upd (le_top _) (.t (.one .sc))) (ac (.cells id (ac (.mp rfl) (ac .sc (ac .sc (ac .sc (ac .sc an)))))) (ac .map an)))⟩
def dossierref03_Disk_Room.f (k : Nat) (p0 : dossierref03_Disk) (a1 : Int) : Option (Int × dossierref03_Disk) := if (decide (a1 < 0)) = true then (some (1, p0)) else (if (decide (a1 > 4194304)) = true then (some (1, p0)) else (some (0, (⟨p0.L, a1, p0.Burns, p0.Off⟩ : dossierref03_Disk))))
theorem dossierref03_Disk_Room.meets (k : Nat) (p0 : dossierref03_Disk) (a1 : Int) (r : Int × dossierref03_Disk) (h : dossierref03_Disk_Room.f k p0 a1 = some r) : Meets Try.prog 45 [(rf 0 0), (si a1)] [(o_dossierref03_Disk_0 false (C.own 1 0 p0.L.length 3) p0), (or_ e_dossierref03_File p0.L)] (si r.1) [(o_dossierref03_Disk_0 false (C.own 1 0 r.2.L.length 3) r.2), (or_ e_dossierref03_File r.2.L)] := by
 unfold dossierref03_Disk_Room.f at h
 refine Meets.of_body (n := 15) Try.func45 rfl rfl (nl rfl) fun x hx => ?_
 replace hx : x.k = 2 := hx
 show AW _ x _ _ ⟨15, fr0 [(rf 0 0), (si a1)], [(o_dossierref03_Disk_0 false (C.own 1 0 p0.L.length 3) p0), (or_ e_dossierref03_File p0.L)]⟩
 refine AW.seq (AW.region ?_)
 refine s_assign (d := (si 0)) rfl (AWops.nil (AW.seq (AW.seq (AW.region ?_))))
 refine s_move (d := (si a1)) rfl ?_
 refine s_binI (v := (.bool (decide (a1 < 0)))) rfl rfl rfl ?_
 refine s_move (d := (sb (decide (a1 < 0)))) rfl ?_
 rcases itH h with ⟨c1, h⟩ | ⟨c1, h⟩
 ·refine AWops.guard_no rfl (nl rfl) rfl c1 ?_
  refine AWops.guard_no rfl (nl rfl) rfl c1 ?_
  refine s_pick_yes (d := (sb true)) rfl c1 rfl (AWops.nil ?_)
  refine AW.cond_yes rfl rfl (AW.seq (AW.region ?_))
  refine s_assign (d := (si 1)) rfl (AWops.nil (AW.ret ?_))
  obtain rfl := Option.some.inj h
  exact ⟨_, rfl, (wg 2 [0, 1] [] rfl (le_upd (le_top _) (.t (.one .sc))) (ac (.cells id (ac (.own rfl) (ac .sc (ac .sc (ac .sc an))))) (ac (.cells id (all2_row _)) an)))⟩
 ·refine AWops.guard_yes rfl (nl rfl) rfl c1 ?_
  refine s_move (d := (si a1)) rfl ?_
  refine AWops.guard_yes rfl (nl rfl) rfl c1 ?_
  refine s_binI (v := (.bool (decide (a1 > 4194304)))) rfl rfl rfl ?_
  refine s_pick_no (d := (sb (decide (a1 > 4194304)))) rfl c1 rfl (AWops.nil ?_)
  rcases itH h with ⟨c2, h⟩ | ⟨c2, h⟩
  ·refine AW.cond_yes rfl c2 (AW.seq (AW.region ?_))
   refine s_assign (d := (si 1)) rfl (AWops.nil (AW.ret ?_))
   obtain rfl := Option.some.inj h
   exact ⟨_, rfl, (wg 2 [0, 1] [] rfl (le_upd (le_top _) (.t (.one .sc))) (ac (.cells id (ac (.own rfl) (ac .sc (ac .sc (ac .sc an))))) (ac (.cells id (all2_row _)) an)))⟩
  ·refine AW.cond_no rfl c2 (AW.skip (AW.seq (AW.region ?_)))
   refine s_move (d := (rf 0 0)) rfl ?_
   refine s_move (d := (si a1)) rfl ?_
   refine s_nilCheck (d := (rf 0 0)) rfl (.inl ⟨_, _, rfl⟩) ?_
   refine s_fieldRef F.fo_72_1 (by decide) rfl ?_
   refine s_store (cs' := [(C.own 1 0 p0.L.length 3), (ci a1), (ci p0.Burns), (cb p0.Off)]) rfl rfl rfl (List.cons_ne_nil _ _) rfl F.sz_3 (nl rfl) rfl (AWops.nil (AW.seq (AW.region ?_)))
   refine s_assign (d := (si 0)) rfl (AWops.nil (AW.ret ?_))
   obtain rfl := Option.some.inj h
   exact ⟨_, rfl, (wg 2 [0, 1] [] rfl (le_upd (le_top _) (.t (.one .sc))) (ac (.cells id (ac (.own rfl) (ac .sc (ac .sc (ac .sc an))))) (ac (.cells id (all2_row _)) an)))⟩
end Go.Abs.GenLv
