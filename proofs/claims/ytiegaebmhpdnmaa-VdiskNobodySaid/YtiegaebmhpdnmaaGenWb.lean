import Derived.Test.YtiegaebmhpdnmaaGenWa
set_option linter.unusedVariables false
set_option linter.unusedSimpArgs false
set_option maxRecDepth 100000
set_option maxHeartbeats 4000000
namespace Go.Abs.GenW
open Go.Abs Go.Proofs
def vdisk_Disk_Append_9.f (k : Nat) (p0 : vdisk_Disk) (a1 : ByteArray) (a2 : List Int) : Option (Int × vdisk_Disk) := (vdisk_named.f k a1).bind fun r1 => (vdisk_Disk_change_31.f k p0 r1 a1 true (a2.length : Int)).bind fun r2 => if (r2.1 == 0) = true then ((slices_Concat_byte_byte.f k ([((mget a1 r2.2.files).getD ((⟨([] : List Int), 0⟩ : vdisk_file) : vdisk_file)).b, a2] : List (List Int))).bind fun r4 => (vdisk_Disk_set.f k r2.2 a1 (⟨r4, ((mget a1 r2.2.files).getD ((⟨([] : List Int), 0⟩ : vdisk_file) : vdisk_file)).sure⟩ : vdisk_file)).bind fun r5 => some (r2.1, r5)) else (some (r2.1, r2.2))
theorem vdisk_Disk_Append_9.meets (k : Nat) (p0 : vdisk_Disk) (a1 : ByteArray) (a2 : List Int) (r : Int × vdisk_Disk) (h : vdisk_Disk_Append_9.f k p0 a1 a2 = some r) : Meets Try.prog 9 [(D.one (C.ref 0 0)), (sc (.string a1)), (D.one (C.p false (.sl a2.length (a2.flatMap e_u8))))] [(some (AObj.cells false [(C.mp 1), (C.p true (.v (.int .i64 p0.room))), (C.p true (.v (.int .i64 p0.used))), (C.p true (.v (.pointer none))), (C.p true (.v (.bool p0.dead)))])), (some (AObj.map false (mapE true e_vdisk_file p0.files)))] (sc (.int .i64 r.1)) [(some (AObj.cells false [(C.mp 2), (C.p true (.v (.int .i64 r.2.room))), (C.p true (.v (.int .i64 r.2.used))), (C.p true (.v (.pointer none))), (C.p true (.v (.bool r.2.dead)))])), none, (some (AObj.map false (mapE true e_vdisk_file r.2.files)))] := by
 unfold vdisk_Disk_Append_9.f at h
 refine Meets.of_body (n := 36) Try.func9 rfl rfl (nl rfl) fun x hx => ?_
 replace hx : x.k = 2 := hx
 show AW _ x _ _ ⟨36, fr0 [(D.one (C.ref 0 0)), (sc (.string a1)), (D.one (C.p false (.sl a2.length (a2.flatMap e_u8))))], [(some (AObj.cells false [(C.mp 1), (C.p true (.v (.int .i64 p0.room))), (C.p true (.v (.int .i64 p0.used))), (C.p true (.v (.pointer none))), (C.p true (.v (.bool p0.dead)))])), (some (AObj.map false (mapE true e_vdisk_file p0.files)))]⟩
 refine AW.weak (st' := ⟨36, (upd 36 (upd 36 (upd 36 topF 0 (D.one (C.ref 0 0))) 1 (sc (.string a1))) 2 (D.one (C.p false (.sl a2.length (a2.flatMap e_u8))))), [(some (AObj.cells false [(C.mp 2), (C.p true (.v (.int .i64 p0.room))), (C.p true (.v (.int .i64 p0.used))), (C.p true (.v (.pointer none))), (C.p true (.v (.bool p0.dead)))])), none, (some (AObj.map false (mapE true e_vdisk_file p0.files)))]⟩) (Weak.genL (kk := 2) [0, 1, 1] [] hx rfl (by decide) rfl rfl rfl rfl (le_upd (le_upd (le_upd (le_top _) (.t (.one (.ref rfl)))) (.t (.one .sc))) (.t (.one .same))) (ac (.cells (fun h => h) (ac (.mp rfl) (ac .sc (ac .sc (ac .sc (ac .sc an)))))) (ac (.none _) (ac .map an)))) (AW.seq (AW.region ?_))
 refine s_assign (d := (sc (.int .i64 0))) rfl (AWops.nil (AW.seq (AW.region ?_)))
 refine s_move (d := (D.one (C.ref 0 0))) rfl ?_
 refine s_move (d := (sc (.string a1))) rfl ?_
 obtain ⟨r1, er1, h⟩ := bnd h
 refine s_call2 (ρ := []) (br := false) (H2 := [(some (AObj.cells false [(C.mp 2), (C.p true (.v (.int .i64 p0.room))), (C.p true (.v (.int .i64 p0.used))), (C.p true (.v (.pointer none))), (C.p true (.v (.bool p0.dead)))])), none, (some (AObj.map false (mapE true e_vdisk_file p0.files)))]) (d := (sc (.bool r1))) F.ca_32 rfl rfl (ac (.one .sc) an) an (by decide) rfl (vdisk_named.meets _ a1 r1 er1) (.inl rfl) rfl rfl ?_
 refine s_move (d := (sc (.string a1))) rfl ?_
 refine s_move (d := (D.one (C.p false (.sl a2.length (a2.flatMap e_u8))))) rfl ?_
 refine s_len (n := a2.length) F.u_22 rfl (.inr ⟨(fun _ _ h => by cases h), ⟨_, rfl⟩⟩) ?_
 obtain ⟨r2, er2, h⟩ := bnd h
 refine s_call2 (ρ := [0, 2]) (br := false) (H2 := [(some (AObj.cells false [(C.mp 3), (C.p true (.v (.int .i64 r2.2.room))), (C.p true (.v (.int .i64 r2.2.used))), (C.p true (.v (.pointer none))), (C.p true (.v (.bool r2.2.dead)))])), none, none, (some (AObj.map false (mapE true e_vdisk_file r2.2.files)))]) (d := (sc (.int .i64 r2.1))) F.ca_31 rfl rfl (ac (.one (.ref rfl)) (ac (.one .sc) (ac (.one .sc) (ac (.one .sc) (ac (.one .sc) an))))) (ac (.cells (ac (.mp rfl) (ac .sc (ac .sc (ac .sc (ac .sc an)))))) (ac .map an)) (by decide) rfl (vdisk_Disk_change_31.meets _ p0 r1 a1 true (a2.length : Int) r2 er2) (.inl rfl) rfl rfl ?_
 refine s_assign (d := (sc (.int .i64 r2.1))) rfl (AWops.nil (AW.seq (AW.seq (AW.region ?_))))
 refine s_move (d := (sc (.int .i64 r2.1))) rfl ?_
 refine s_binI (v := (.bool (r2.1 == 0))) rfl rfl rfl (AWops.nil ?_)
 rcases itH h with ⟨c3, h⟩ | ⟨c3, h⟩
 ·refine AW.cond_yes rfl c3 (AW.seq (AW.region ?_))
  refine s_move (d := (D.one (C.ref 0 0))) rfl ?_
  refine s_nilCheck (d := (D.one (C.ref 0 0))) rfl (.inl ⟨_, _, rfl⟩) ?_
  refine s_fieldRef F.fo_50_0 (by decide) rfl ?_
  refine s_load1 (c' := (C.mp 3)) F.ag_47 rfl rfl ?_
  refine s_move (d := (sc (.string a1))) rfl ?_
  refine t_lookup (b := true) F.u_47 F.u_9 F.z_65 (z := ((⟨([] : List Int), 0⟩ : vdisk_file) : vdisk_file)) (zs := [(.slice none 0 0), (.int .i64 0)]) rfl (fun h => by cases h) (ac ZRel.n (ac (ZRel.v _ rfl) an)) rfl rfl rfl rfl ?_
  refine s_alloc (cs := [(C.p true (.v (.slice none 0 0))), (C.p true (.v (.int .i64 0)))]) F.z_65 rfl rfl ?_
  refine s_store (cs' := (c_vdisk_file ((mget a1 r2.2.files).getD ((⟨([] : List Int), 0⟩ : vdisk_file) : vdisk_file)))) rfl rfl rfl (List.cons_ne_nil _ _) rfl F.sz_65 (nl rfl) rfl (AWops.nil ?_)
  refine AW.weak (st' := ⟨36, (upd 36 (upd 36 (upd 36 (upd 36 (upd 36 topF 0 (D.one (C.ref 0 0))) 1 (sc (.string a1))) 2 (D.one (C.p false (.sl a2.length (a2.flatMap e_u8))))) 7 (sc (.int .i64 r2.1))) 8 (D.one (C.ref 2 0))), [(some (AObj.cells false [(C.mp 3), (C.p true (.v (.int .i64 r2.2.room))), (C.p true (.v (.int .i64 r2.2.used))), (C.p true (.v (.pointer none))), (C.p true (.v (.bool r2.2.dead)))])), none, (some (AObj.cells true (c_vdisk_file ((mget a1 r2.2.files).getD ((⟨([] : List Int), 0⟩ : vdisk_file) : vdisk_file))))), (some (AObj.map false (mapE true e_vdisk_file r2.2.files)))]⟩) (Weak.gen (kk := 2) [0, 1, 4, 3] [] hx rfl (by decide) (by decide) rfl rfl rfl (le_upd (le_upd (le_upd (le_upd (le_upd (le_top _) (.t (.one (.ref rfl)))) (.t (.one .sc))) (.t (.one .same))) (.t (.one .sc))) (.t (.one (.ref rfl)))) (ac (.cells (fun h => h) (ac (.mp rfl) (ac .sc (ac .sc (ac .sc (ac .sc an)))))) (ac (.none _) (ac (.cells (fun h => h) (ac .same (ac .sc an))) (ac .map an))))) ?_
  obtain ⟨r4, er4, h⟩ := bnd h
  obtain ⟨r5, er5, h⟩ := bnd h
  refine AW.draw (n := 36) (L := 7) [(0, ⟨some 24, (D.one (C.ref 0 0)), [(0, (D.one (C.ref 0 0)))], [], [], none⟩), (1, ⟨some 25, (sc (.string a1)), [(1, (sc (.string a1)))], [], [], none⟩), (2, ⟨some 26, (D.one (C.ref 2 0)), [(8, (D.one (C.ref 2 0)))], [], [], none⟩), (3, ⟨some 27, (D.one (C.p false (.sl (((mget a1 r2.2.files).getD ((⟨([] : List Int), 0⟩ : vdisk_file) : vdisk_file)).b).length ((((mget a1 r2.2.files).getD ((⟨([] : List Int), 0⟩ : vdisk_file) : vdisk_file)).b).flatMap e_u8)))), [(26, (D.one (C.ref 2 0)))], [(2, (some (AObj.cells true (c_vdisk_file ((mget a1 r2.2.files).getD ((⟨([] : List Int), 0⟩ : vdisk_file) : vdisk_file))))))], [], none⟩), (4, ⟨some 28, (D.one (C.p false (.sl a2.length (a2.flatMap e_u8)))), [(2, (D.one (C.p false (.sl a2.length (a2.flatMap e_u8)))))], [], [], none⟩), (5, ⟨some 29, (D.one (C.own 4 0 (([((mget a1 r2.2.files).getD ((⟨([] : List Int), 0⟩ : vdisk_file) : vdisk_file)).b, a2] : List (List Int)).length) 1)), [(27, (D.one (C.p false (.sl (((mget a1 r2.2.files).getD ((⟨([] : List Int), 0⟩ : vdisk_file) : vdisk_file)).b).length ((((mget a1 r2.2.files).getD ((⟨([] : List Int), 0⟩ : vdisk_file) : vdisk_file)).b).flatMap e_u8))))), (28, (D.one (C.p false (.sl a2.length (a2.flatMap e_u8)))))], [], [(4, (some (AObj.cells true (rowC (e_sl e_u8) ([((mget a1 r2.2.files).getD ((⟨([] : List Int), 0⟩ : vdisk_file) : vdisk_file)).b, a2] : List (List Int))))))], some 4⟩), (6, ⟨some 30, (D.one (C.p false (.sl r4.length (r4.flatMap e_u8)))), [(29, (D.one (C.own 4 0 (([((mget a1 r2.2.files).getD ((⟨([] : List Int), 0⟩ : vdisk_file) : vdisk_file)).b, a2] : List (List Int)).length) 1)))], [(4, (some (AObj.cells true (rowC (e_sl e_u8) ([((mget a1 r2.2.files).getD ((⟨([] : List Int), 0⟩ : vdisk_file) : vdisk_file)).b, a2] : List (List Int))))))], [], some 5⟩), (7, ⟨some 31, (D.one (C.ref 2 1)), [(8, (D.one (C.ref 2 0)))], [], [], none⟩), (8, ⟨some 32, (sc (.int .i64 (((mget a1 r2.2.files).getD ((⟨([] : List Int), 0⟩ : vdisk_file) : vdisk_file)).sure))), [(31, (D.one (C.ref 2 1)))], [(2, (some (AObj.cells true (c_vdisk_file ((mget a1 r2.2.files).getD ((⟨([] : List Int), 0⟩ : vdisk_file) : vdisk_file))))))], [], none⟩), (9, ⟨some 33, (D.agg [(C.p false (.sl r4.length (r4.flatMap e_u8))), (C.p true (.v (.int .i64 (((mget a1 r2.2.files).getD ((⟨([] : List Int), 0⟩ : vdisk_file) : vdisk_file)).sure))))]), [(30, (D.one (C.p false (.sl r4.length (r4.flatMap e_u8))))), (32, (sc (.int .i64 (((mget a1 r2.2.files).getD ((⟨([] : List Int), 0⟩ : vdisk_file) : vdisk_file)).sure))))], [], [], none⟩), (10, ⟨some 34, (D.tup []), [(24, (D.one (C.ref 0 0))), (25, (sc (.string a1))), (33, (D.agg [(C.p false (.sl r4.length (r4.flatMap e_u8))), (C.p true (.v (.int .i64 (((mget a1 r2.2.files).getD ((⟨([] : List Int), 0⟩ : vdisk_file) : vdisk_file)).sure))))]))], [(0, (some (AObj.cells false [(C.mp 3), (C.p true (.v (.int .i64 r2.2.room))), (C.p true (.v (.int .i64 r2.2.used))), (C.p true (.v (.pointer none))), (C.p true (.v (.bool r2.2.dead)))]))), (3, (some (AObj.map false (mapE true e_vdisk_file r2.2.files))))], [(0, (some (AObj.cells false [(C.mp 6), (C.p true (.v (.int .i64 r5.room))), (C.p true (.v (.int .i64 r5.used))), (C.p true (.v (.pointer none))), (C.p true (.v (.bool r5.dead)))]))), (3, none), (6, (some (AObj.map false (mapE true e_vdisk_file r5.files))))], some 6⟩)] [[], [], [], [2], [], [2, 3, 4], [2, 3, 4, 5], [], [7], [2, 3, 4, 5, 6, 7, 8], [0, 1, 2, 3, 4, 5, 6, 7, 8, 9]] (nl rfl) [0, 0, 0, 1, 0, 2, 3, 0, 1, 4, 5] rfl (TK := [(5, 4), (6, 5), (10, 6)]) rfl (AllK.cons' ⟨(tk_upd (tk_upd (tk_upd (tk_upd (tk_upd tk_top rfl) rfl) rfl) rfl) rfl), (tC rfl (tC rfl (tC rfl (tC rfl AllT.nil')))), (fC (.inr rfl) (fC (.inr rfl) (fC (.inr rfl) (fC (.inr rfl) (fC (.inr rfl) (fC (.inl rfl) (fC (.inl rfl) (fC (.inr rfl) (fC (.inr rfl) (fC (.inl rfl) (fC (.inl rfl) AllF.nil')))))))))))⟩ (AllK.cons' ⟨(tk_upd (tk_upd (tk_upd (tk_upd (tk_upd tk_top rfl) rfl) rfl) rfl) rfl), (tC rfl (tC rfl (tC rfl (tC rfl AllT.nil')))), (fC (.inr rfl) (fC (.inr rfl) (fC (.inr rfl) (fC (.inr rfl) (fC (.inr rfl) (fC (.inr (by unfold tkFoot; simp only [List.all_cons, List.all_nil, tkO_row, Bool.and_true, Bool.true_and]; rfl)) (fC (.inl rfl) (fC (.inr rfl) (fC (.inr rfl) (fC (.inl rfl) (fC (.inl rfl) AllF.nil')))))))))))⟩ (AllK.cons' ⟨(tk_upd (tk_upd (tk_upd (tk_upd (tk_upd tk_top rfl) rfl) rfl) rfl) rfl), (tC rfl (tC rfl (tC rfl (tC rfl AllT.nil')))), (fC (.inr rfl) (fC (.inr rfl) (fC (.inr rfl) (fC (.inr rfl) (fC (.inr rfl) (fC (.inr (by unfold tkFoot; simp only [List.all_cons, List.all_nil, tkO_row, Bool.and_true, Bool.true_and]; rfl)) (fC (.inr rfl) (fC (.inr rfl) (fC (.inr rfl) (fC (.inr rfl) (fC (.inl rfl) AllF.nil')))))))))))⟩ AllK.nil'))) (fC ⟨(sC rfl AllS.nil'), AllH.nil'⟩ (fC ⟨(sC rfl AllS.nil'), AllH.nil'⟩ (fC ⟨(sC rfl AllS.nil'), AllH.nil'⟩ (fC ⟨(sC rfl AllS.nil'), (hC rfl AllH.nil')⟩ (fC ⟨(sC rfl AllS.nil'), AllH.nil'⟩ (fC ⟨(sC rfl (sC rfl AllS.nil')), AllH.nil'⟩ (fC ⟨(sC rfl AllS.nil'), (hC rfl AllH.nil')⟩ (fC ⟨(sC rfl AllS.nil'), AllH.nil'⟩ (fC ⟨(sC rfl AllS.nil'), (hC rfl AllH.nil')⟩ (fC ⟨(sC rfl (sC rfl AllS.nil')), AllH.nil'⟩ (fC ⟨(sC rfl (sC rfl (sC rfl AllS.nil'))), (hC rfl (hC rfl AllH.nil'))⟩ AllF.nil'))))))))))) ?_ ?_
  ·refine (pC ?_ (pC ?_ (pC ?_ (pC ?_ (pC ?_ (pC ?_ (pC ?_ (pC ?_ (pC ?_ (pC ?_ (pC ?_ AllStep.nil')))))))))))
   ·intro K rest fr hv htk k
    show AWops _ x _ _ K ⟨36, (upd 36 fr 0 (D.one (C.ref 0 0))), _⟩
    refine s_move (d := (D.one (C.ref 0 0))) rfl k
   ·intro K rest fr hv htk k
    show AWops _ x _ _ K ⟨36, (upd 36 fr 1 (sc (.string a1))), _⟩
    refine s_move (d := (sc (.string a1))) rfl k
   ·intro K rest fr hv htk k
    show AWops _ x _ _ K ⟨36, (upd 36 fr 8 (D.one (C.ref 2 0))), [(hv 0), (hv 1), (hv 2), (hv 3), (hv 4), (hv 5), (hv 6)]⟩
    refine s_fieldRef F.fo_65_0 (by decide) rfl k
   ·intro K rest fr hv htk k
    show AWops _ x _ _ K ⟨36, (upd 36 fr 26 (D.one (C.ref 2 0))), [(hv 0), (hv 1), (some (AObj.cells true (c_vdisk_file ((mget a1 r2.2.files).getD ((⟨([] : List Int), 0⟩ : vdisk_file) : vdisk_file))))), (hv 3), (hv 4), (hv 5), (hv 6)]⟩
    refine s_load1 (c' := (C.p false (.sl (((mget a1 r2.2.files).getD ((⟨([] : List Int), 0⟩ : vdisk_file) : vdisk_file)).b).length ((((mget a1 r2.2.files).getD ((⟨([] : List Int), 0⟩ : vdisk_file) : vdisk_file)).b).flatMap e_u8)))) F.ag_22 rfl rfl k
   ·intro K rest fr hv htk k
    show AWops _ x _ _ K ⟨36, (upd 36 fr 2 (D.one (C.p false (.sl a2.length (a2.flatMap e_u8))))), _⟩
    refine s_move (d := (D.one (C.p false (.sl a2.length (a2.flatMap e_u8))))) rfl k
   ·intro K rest fr hv htk k
    show AWops _ x _ _ K ⟨36, (upd 36 (upd 36 fr 28 (D.one (C.p false (.sl a2.length (a2.flatMap e_u8))))) 27 (D.one (C.p false (.sl (((mget a1 r2.2.files).getD ((⟨([] : List Int), 0⟩ : vdisk_file) : vdisk_file)).b).length ((((mget a1 r2.2.files).getD ((⟨([] : List Int), 0⟩ : vdisk_file) : vdisk_file)).b).flatMap e_u8))))), [(hv 0), (hv 1), (hv 2), (hv 3), (hv 4), (hv 5), (hv 6)]⟩
    refine s_buildSlice (n := 2) (ps := [(0, (D.one (C.p false (.sl (((mget a1 r2.2.files).getD ((⟨([] : List Int), 0⟩ : vdisk_file) : vdisk_file)).b).length ((((mget a1 r2.2.files).getD ((⟨([] : List Int), 0⟩ : vdisk_file) : vdisk_file)).b).flatMap e_u8))))), (1, (D.one (C.p false (.sl a2.length (a2.flatMap e_u8)))))]) (cs := rowC (e_sl e_u8) ([((mget a1 r2.2.files).getD ((⟨([] : List Int), 0⟩ : vdisk_file) : vdisk_file)).b, a2] : List (List Int))) F.u_23 F.sz_22 F.z_22 rfl rfl (by decide) (by decide) rfl rfl ?_
    refine AWops.weak (st' := ⟨36, (upd 36 (upd 36 (upd 36 fr 28 (D.one (C.p false (.sl a2.length (a2.flatMap e_u8))))) 27 (D.one (C.p false (.sl (((mget a1 r2.2.files).getD ((⟨([] : List Int), 0⟩ : vdisk_file) : vdisk_file)).b).length ((((mget a1 r2.2.files).getD ((⟨([] : List Int), 0⟩ : vdisk_file) : vdisk_file)).b).flatMap e_u8))))) 29 (D.one (C.own 4 0 (([((mget a1 r2.2.files).getD ((⟨([] : List Int), 0⟩ : vdisk_file) : vdisk_file)).b, a2] : List (List Int)).length) 1))), [(hv 0), (hv 1), (hv 2), (hv 3), (some (AObj.cells true (rowC (e_sl e_u8) ([((mget a1 r2.2.files).getD ((⟨([] : List Int), 0⟩ : vdisk_file) : vdisk_file)).b, a2] : List (List Int))))), (hv 5), (hv 6)]⟩) (Weak.gen (kk := 2) [0, 1, 2, 3, 7, 5, 6] [] hx rfl (by decide) (by decide) rfl rfl rfl (le_upd2 (le_ok (p := 4) (L := 7) rfl (htk 4 rfl).1) (.t (.one (.own rfl)))) (ac (ole_ok (p := 4) (L := 7) rfl ((htk 4 rfl).2 0)) (ac (ole_ok (p := 4) (L := 7) rfl ((htk 4 rfl).2 1)) (ac (ole_ok (p := 4) (L := 7) rfl ((htk 4 rfl).2 2)) (ac (ole_ok (p := 4) (L := 7) rfl ((htk 4 rfl).2 3)) (ac (.cells (fun h => h) (all2_row _)) (ac (ole_ok (p := 4) (L := 7) rfl ((htk 4 rfl).2 5)) (ac (ole_ok (p := 4) (L := 7) rfl ((htk 4 rfl).2 6)) an)))))))) k
   ·intro K rest fr hv htk k
    show AWops _ x _ _ K ⟨36, (upd 36 fr 29 (D.one (C.own 4 0 (([((mget a1 r2.2.files).getD ((⟨([] : List Int), 0⟩ : vdisk_file) : vdisk_file)).b, a2] : List (List Int)).length) 1))), [(hv 0), (hv 1), (hv 2), (hv 3), (some (AObj.cells true (rowC (e_sl e_u8) ([((mget a1 r2.2.files).getD ((⟨([] : List Int), 0⟩ : vdisk_file) : vdisk_file)).b, a2] : List (List Int))))), (hv 5), (hv 6)]⟩
    refine s_call2 (ρ := []) (br := true) (H2 := [(hv 0), (hv 1), (hv 2), (hv 3), (some (AObj.cells true (rowC (e_sl e_u8) ([((mget a1 r2.2.files).getD ((⟨([] : List Int), 0⟩ : vdisk_file) : vdisk_file)).b, a2] : List (List Int))))), (hv 5), (hv 6), (some (AObj.cells true (rowC e_u8 r4)))]) (d := (D.one (C.own 7 0 r4.length 1))) F.ca_34 rfl rfl (ac (.one (LendC.bor (e_sl_len _) rfl rfl rfl)) an) an (by decide) rfl (slices_Concat_byte_byte.meets _ ([((mget a1 r2.2.files).getD ((⟨([] : List Int), 0⟩ : vdisk_file) : vdisk_file)).b, a2] : List (List Int)) r4 er4) (.inr ⟨rfl, by simp [frH, frC, fr_row e_u8_fr]⟩) (by first | rfl | (simp only [mergeH2, orF, Bool.false_or, Bool.or_false, Bool.true_or, Bool.or_true, mergeAt, mergeObj, renO, ren_row, List.drop_succ_cons, List.drop_zero, List.map_cons, List.map_nil, Option.map_some, Option.map_none, List.length_cons, List.length_nil, Nat.zero_add, List.append_assoc, List.cons_append, List.nil_append]; done) | (simp only [mergeH2, orF, Bool.false_or, Bool.or_false, Bool.true_or, Bool.or_true, mergeAt, mergeObj, renO, ren_row, List.drop_succ_cons, List.drop_zero, List.map_cons, List.map_nil, Option.map_some, Option.map_none, List.length_cons, List.length_nil, Nat.zero_add, List.append_assoc, List.cons_append, List.nil_append]; rfl)) rfl ?_
    refine AWops.weak (st' := ⟨36, (upd 36 (upd 36 fr 29 (D.one (C.own 4 0 (([((mget a1 r2.2.files).getD ((⟨([] : List Int), 0⟩ : vdisk_file) : vdisk_file)).b, a2] : List (List Int)).length) 1))) 30 (D.one (C.p false (.sl r4.length (r4.flatMap e_u8))))), [(hv 0), (hv 1), (hv 2), (hv 3), (some (AObj.cells true (rowC (e_sl e_u8) ([((mget a1 r2.2.files).getD ((⟨([] : List Int), 0⟩ : vdisk_file) : vdisk_file)).b, a2] : List (List Int))))), (hv 5), (hv 6)]⟩) (Weak.gen (kk := 2) [0, 1, 2, 3, 4, 5, 6] [7] hx rfl (by decide) (by decide) rfl rfl rfl (le_upd2 (le_ok (p := 5) (L := 7) rfl (htk 5 rfl).1) (.t (.one (CLe.frz e_u8_len rfl rfl rfl)))) (ac (ole_ok (p := 5) (L := 7) rfl ((htk 5 rfl).2 0)) (ac (ole_ok (p := 5) (L := 7) rfl ((htk 5 rfl).2 1)) (ac (ole_ok (p := 5) (L := 7) rfl ((htk 5 rfl).2 2)) (ac (ole_ok (p := 5) (L := 7) rfl ((htk 5 rfl).2 3)) (ac (.cells (fun h => h) (all2_row _)) (ac (ole_ok (p := 5) (L := 7) rfl ((htk 5 rfl).2 5)) (ac (ole_ok (p := 5) (L := 7) rfl ((htk 5 rfl).2 6)) an)))))))) k
   ·intro K rest fr hv htk k
    show AWops _ x _ _ K ⟨36, (upd 36 fr 8 (D.one (C.ref 2 0))), [(hv 0), (hv 1), (hv 2), (hv 3), (hv 4), (hv 5), (hv 6)]⟩
    refine s_fieldRef F.fo_65_1 (by decide) rfl k
   ·intro K rest fr hv htk k
    show AWops _ x _ _ K ⟨36, (upd 36 fr 31 (D.one (C.ref 2 1))), [(hv 0), (hv 1), (some (AObj.cells true (c_vdisk_file ((mget a1 r2.2.files).getD ((⟨([] : List Int), 0⟩ : vdisk_file) : vdisk_file))))), (hv 3), (hv 4), (hv 5), (hv 6)]⟩
    refine s_load1 (c' := (C.p true (.v (.int .i64 (((mget a1 r2.2.files).getD ((⟨([] : List Int), 0⟩ : vdisk_file) : vdisk_file)).sure))))) F.ag_3 rfl rfl k
   ·intro K rest fr hv htk k
    show AWops _ x _ _ K ⟨36, (upd 36 (upd 36 fr 32 (sc (.int .i64 (((mget a1 r2.2.files).getD ((⟨([] : List Int), 0⟩ : vdisk_file) : vdisk_file)).sure)))) 30 (D.one (C.p false (.sl r4.length (r4.flatMap e_u8))))), [(hv 0), (hv 1), (hv 2), (hv 3), (hv 4), (hv 5), (hv 6)]⟩
    refine s_build (ps := [(0, (D.one (C.p false (.sl r4.length (r4.flatMap e_u8))))), (1, (sc (.int .i64 (((mget a1 r2.2.files).getD ((⟨([] : List Int), 0⟩ : vdisk_file) : vdisk_file)).sure))))]) (cs := [(C.p false (.sl r4.length (r4.flatMap e_u8))), (C.p true (.v (.int .i64 (((mget a1 r2.2.files).getD ((⟨([] : List Int), 0⟩ : vdisk_file) : vdisk_file)).sure))))]) F.z_65 rfl F.so_65 rfl rfl k
   ·intro K rest fr hv htk k
    show AWops _ x _ _ K ⟨36, (upd 36 (upd 36 (upd 36 fr 33 (D.agg [(C.p false (.sl r4.length (r4.flatMap e_u8))), (C.p true (.v (.int .i64 (((mget a1 r2.2.files).getD ((⟨([] : List Int), 0⟩ : vdisk_file) : vdisk_file)).sure))))])) 25 (sc (.string a1))) 24 (D.one (C.ref 0 0))), [(some (AObj.cells false [(C.mp 3), (C.p true (.v (.int .i64 r2.2.room))), (C.p true (.v (.int .i64 r2.2.used))), (C.p true (.v (.pointer none))), (C.p true (.v (.bool r2.2.dead)))])), (hv 1), (hv 2), (some (AObj.map false (mapE true e_vdisk_file r2.2.files))), (hv 4), (hv 5), (hv 6)]⟩
    refine s_call2 (ρ := [0, 3]) (br := false) (H2 := [(some (AObj.cells false [(C.mp 7), (C.p true (.v (.int .i64 r5.room))), (C.p true (.v (.int .i64 r5.used))), (C.p true (.v (.pointer none))), (C.p true (.v (.bool r5.dead)))])), (hv 1), (hv 2), none, (hv 4), (hv 5), (hv 6), (some (AObj.map false (mapE true e_vdisk_file r5.files)))]) (d := (D.tup [])) F.ca_33 rfl rfl (ac (.one (.ref rfl)) (ac (.one .sc) (ac (LendT.aggL (ac .imm (ac .sc an))) an))) (ac (.cells (ac (.mp rfl) (ac .sc (ac .sc (ac .sc (ac .sc an)))))) (ac .map an)) (by decide) rfl (vdisk_Disk_set.meets _ r2.2 a1 (⟨r4, ((mget a1 r2.2.files).getD ((⟨([] : List Int), 0⟩ : vdisk_file) : vdisk_file)).sure⟩ : vdisk_file) r5 er5) (.inl rfl) rfl rfl ?_
    refine AWops.weak (st' := ⟨36, (upd 36 (upd 36 (upd 36 (upd 36 fr 33 (D.agg [(C.p false (.sl r4.length (r4.flatMap e_u8))), (C.p true (.v (.int .i64 (((mget a1 r2.2.files).getD ((⟨([] : List Int), 0⟩ : vdisk_file) : vdisk_file)).sure))))])) 25 (sc (.string a1))) 24 (D.one (C.ref 0 0))) 34 (D.tup [])), [(some (AObj.cells false [(C.mp 6), (C.p true (.v (.int .i64 r5.room))), (C.p true (.v (.int .i64 r5.used))), (C.p true (.v (.pointer none))), (C.p true (.v (.bool r5.dead)))])), (hv 1), (hv 2), none, (hv 4), (hv 5), (some (AObj.map false (mapE true e_vdisk_file r5.files)))]⟩) (Weak.gen (kk := 2) [0, 1, 2, 3, 4, 5, 7] [] hx rfl (by decide) (by decide) rfl rfl rfl (le_upd2 (le_ok (p := 6) (L := 7) rfl (htk 6 rfl).1) (DLe.tup an)) (ac (.cells (fun h => h) (ac (.mp rfl) (ac .sc (ac .sc (ac .sc (ac .sc an)))))) (ac (ole_ok (p := 6) (L := 7) rfl ((htk 6 rfl).2 1)) (ac (ole_ok (p := 6) (L := 7) rfl ((htk 6 rfl).2 2)) (ac (.none _) (ac (ole_ok (p := 6) (L := 7) rfl ((htk 6 rfl).2 4)) (ac (ole_ok (p := 6) (L := 7) rfl ((htk 6 rfl).2 5)) (ac .map an)))))))) k
  ·refine AWops.weak (st' := ⟨36, (upd 36 topF 7 (sc (.int .i64 r2.1))), [(some (AObj.cells false [(C.mp 2), (C.p true (.v (.int .i64 r5.room))), (C.p true (.v (.int .i64 r5.used))), (C.p true (.v (.pointer none))), (C.p true (.v (.bool r5.dead)))])), none, (some (AObj.map false (mapE true e_vdisk_file r5.files)))]⟩) (Weak.gen (kk := 2) [0, 1, 6] [] hx rfl (by decide) (by decide) rfl rfl rfl (le_upd (le_top _) (.t (.one .sc))) (ac (.cells (fun h => h) (ac (.mp rfl) (ac .sc (ac .sc (ac .sc (ac .sc an)))))) (ac (.none _) (ac .map an)))) (AWops.nil (AW.seq (AW.region ?_)))
   refine s_move (d := (sc (.int .i64 r2.1))) rfl ?_
   refine s_assign (d := (sc (.int .i64 r2.1))) rfl (AWops.nil (AW.ret ?_))
   obtain rfl := Option.some.inj h
   exact ⟨_, rfl, (Weak.gen (kk := 2) [0, 1, 2] [] rfl rfl (by decide) (by decide) rfl rfl rfl (le_upd (le_top _) (.t (.one .sc))) (ac (.cells (fun h => h) (ac (.mp rfl) (ac .sc (ac .sc (ac .sc (ac .sc an)))))) (ac (.none _) (ac .map an))))⟩
 ·refine AW.cond_no rfl c3 (AW.skip (AW.seq (AW.region ?_)))
  refine s_move (d := (sc (.int .i64 r2.1))) rfl ?_
  refine s_assign (d := (sc (.int .i64 r2.1))) rfl (AWops.nil (AW.ret ?_))
  obtain rfl := Option.some.inj h
  exact ⟨_, rfl, (Weak.gen (kk := 2) [0, 1, 3] [] rfl rfl (by decide) (by decide) rfl rfl rfl (le_upd (le_top _) (.t (.one .sc))) (ac (.cells (fun h => h) (ac (.mp rfl) (ac .sc (ac .sc (ac .sc (ac .sc an)))))) (ac (.none _) (ac .map an))))⟩
def vdisk_Disk_Names_24.f (k : Nat) (p0 : vdisk_Disk) : Option ((List ByteArray) × vdisk_Disk) := (vdisk_Disk_none_35.f k p0).bind fun r1 => if r1.1 = true then (some (([] : List ByteArray), r1.2)) else (if (okK r1.2.files) = true then (some (sortK r1.2.files, r1.2)) else none)
theorem vdisk_Disk_Names_24.meets (k : Nat) (p0 : vdisk_Disk) (r : (List ByteArray) × vdisk_Disk) (h : vdisk_Disk_Names_24.f k p0 = some r) : Meets Try.prog 24 [(D.one (C.ref 0 0))] [(some (AObj.cells false [(C.mp 1), (C.p true (.v (.int .i64 p0.room))), (C.p true (.v (.int .i64 p0.used))), (C.p true (.v (.pointer none))), (C.p true (.v (.bool p0.dead)))])), (some (AObj.map false (mapE true e_vdisk_file p0.files)))] (D.one (C.own 3 0 r.1.length 1)) [(some (AObj.cells false [(C.mp 2), (C.p true (.v (.int .i64 r.2.room))), (C.p true (.v (.int .i64 r.2.used))), (C.p true (.v (.pointer none))), (C.p true (.v (.bool r.2.dead)))])), none, (some (AObj.map false (mapE true e_vdisk_file r.2.files))), (some (AObj.cells true (rowC e_str r.1)))] := by
 unfold vdisk_Disk_Names_24.f at h
 refine Meets.of_body (n := 11) Try.func24 rfl rfl (nl rfl) fun x hx => ?_
 replace hx : x.k = 2 := hx
 show AW _ x _ _ ⟨11, fr0 [(D.one (C.ref 0 0))], [(some (AObj.cells false [(C.mp 1), (C.p true (.v (.int .i64 p0.room))), (C.p true (.v (.int .i64 p0.used))), (C.p true (.v (.pointer none))), (C.p true (.v (.bool p0.dead)))])), (some (AObj.map false (mapE true e_vdisk_file p0.files)))]⟩
 refine AW.weak (st' := ⟨11, (upd 11 topF 0 (D.one (C.ref 0 0))), [(some (AObj.cells false [(C.mp 2), (C.p true (.v (.int .i64 p0.room))), (C.p true (.v (.int .i64 p0.used))), (C.p true (.v (.pointer none))), (C.p true (.v (.bool p0.dead)))])), none, (some (AObj.map false (mapE true e_vdisk_file p0.files)))]⟩) (Weak.genL (kk := 2) [0, 1, 1] [] hx rfl (by decide) rfl rfl rfl rfl (le_upd (le_top _) (.t (.one (.ref rfl)))) (ac (.cells (fun h => h) (ac (.mp rfl) (ac .sc (ac .sc (ac .sc (ac .sc an)))))) (ac (.none _) (ac .map an)))) (AW.seq (AW.region ?_))
 refine s_assign (d := (sc (.slice none 0 0))) rfl (AWops.nil (AW.seq (AW.seq (AW.region ?_))))
 refine s_move (d := (D.one (C.ref 0 0))) rfl ?_
 obtain ⟨r1, er1, h⟩ := bnd h
 refine s_call2 (ρ := [0, 2]) (br := false) (H2 := [(some (AObj.cells false [(C.mp 3), (C.p true (.v (.int .i64 r1.2.room))), (C.p true (.v (.int .i64 r1.2.used))), (C.p true (.v (.pointer none))), (C.p true (.v (.bool r1.2.dead)))])), none, none, (some (AObj.map false (mapE true e_vdisk_file r1.2.files)))]) (d := (sc (.bool r1.1))) F.ca_35 rfl rfl (ac (.one (.ref rfl)) an) (ac (.cells (ac (.mp rfl) (ac .sc (ac .sc (ac .sc (ac .sc an)))))) (ac .map an)) (by decide) rfl (vdisk_Disk_none_35.meets _ p0 r1 er1) (.inl rfl) rfl rfl (AWops.nil ?_)
 rcases itH h with ⟨c2, h⟩ | ⟨c2, h⟩
 ·refine AW.cond_yes rfl c2 (AW.seq (AW.region ?_))
  refine s_assign (d := (sc (.slice none 0 0))) rfl (AWops.nil (AW.ret ?_))
  obtain rfl := Option.some.inj h
  exact ⟨_, rfl, (Weak.trans (Weak.nil (sz := 1) (i := 0) rfl) (Weak.gen (kk := 2) [0, 1, 3, 4] [] rfl rfl (by decide) (by decide) rfl rfl rfl (le_upd (le_top _) (.t (.one (CLe.ownN rfl (by simp))))) (ac (.cells (fun h => h) (ac (.mp rfl) (ac .sc (ac .sc (ac .sc (ac .sc an)))))) (ac (.none _) (ac .map (ac (.cells (fun h => h) an) an))))))⟩
 ·refine AW.cond_no rfl c2 (AW.skip (AW.seq (AW.region ?_)))
  refine s_move (d := (D.one (C.ref 0 0))) rfl ?_
  refine s_nilCheck (d := (D.one (C.ref 0 0))) rfl (.inl ⟨_, _, rfl⟩) ?_
  refine s_fieldRef F.fo_50_0 (by decide) rfl ?_
  refine s_load1 (c' := (C.mp 3)) F.ag_47 rfl rfl ?_
  refine s_call2 (ρ := [3]) (br := false) (H2 := [(some (AObj.cells false [(C.mp 3), (C.p true (.v (.int .i64 r1.2.room))), (C.p true (.v (.int .i64 r1.2.used))), (C.p true (.v (.pointer none))), (C.p true (.v (.bool r1.2.dead)))])), none, none, (some (AObj.map false (mapE true e_vdisk_file r1.2.files))), (some (AObj.cells true [(C.mp 3)]))]) (d := (D.one (C.clo 62 [(C.ref 4 0)]))) F.ca_48 rfl rfl (ac (.one (.mp rfl)) an) (ac .map an) (by decide) rfl (SK.keys _) (.inl rfl) rfl rfl ?_
  obtain ⟨c3, h⟩ := gdH h
  refine s_call2 (ρ := [4, 3]) (br := false) (H2 := [(some (AObj.cells false [(C.mp 3), (C.p true (.v (.int .i64 r1.2.room))), (C.p true (.v (.int .i64 r1.2.used))), (C.p true (.v (.pointer none))), (C.p true (.v (.bool r1.2.dead)))])), none, none, (some (AObj.map false (mapE true e_vdisk_file r1.2.files))), (some (AObj.cells true [(C.mp 3)])), (some (AObj.cells true (rowC e_str (sortK r1.2.files))))]) (d := (D.one (C.own 5 0 ((sortK r1.2.files).length) 1))) F.ca_47 rfl rfl (ac (.one (LendC.cloL (ac (.ref rfl) an))) an) (ac (.cells (ac (.mp rfl) an)) (ac .map an)) (by decide) rfl (SK.sorted (b := true) (f := e_vdisk_file) c3) (.inl rfl) (by first | rfl | (simp only [mergeH2, orF, Bool.false_or, Bool.or_false, Bool.true_or, Bool.or_true, mergeAt, mergeObj, renO, ren_row, List.drop_succ_cons, List.drop_zero, List.map_cons, List.map_nil, Option.map_some, Option.map_none, List.length_cons, List.length_nil, Nat.zero_add, List.append_assoc, List.cons_append, List.nil_append]; done) | (simp only [mergeH2, orF, Bool.false_or, Bool.or_false, Bool.true_or, Bool.or_true, mergeAt, mergeObj, renO, ren_row, List.drop_succ_cons, List.drop_zero, List.map_cons, List.map_nil, Option.map_some, Option.map_none, List.length_cons, List.length_nil, Nat.zero_add, List.append_assoc, List.cons_append, List.nil_append]; rfl)) rfl ?_
  refine s_assign (d := (D.one (C.own 5 0 ((sortK r1.2.files).length) 1))) rfl (AWops.nil (AW.ret ?_))
  obtain rfl := Option.some.inj h
  exact ⟨_, rfl, (Weak.gen (kk := 2) [0, 1, 3, 5] [] rfl rfl (by decide) (by decide) rfl rfl rfl (le_upd (le_top _) (.t (.one (.own rfl)))) (ac (.cells (fun h => h) (ac (.mp rfl) (ac .sc (ac .sc (ac .sc (ac .sc an)))))) (ac (.none _) (ac .map (ac (.cells (fun h => h) (all2_row _)) an)))))⟩
mutual
def vdisk_Disk_Crash_11.l0 : Nat → Int → Int → Bool → (List (ByteArray × vdisk_file)) → Int → (List Int) → ((List ByteArray) × vdisk_Disk) → Option (Int × vdisk_Disk)
 | 0, _, _, _, _, _, _, _ => none
 | k + 1, x4, x5, x6, x7, x8, a1, r3 => if (decide (x8 < (r3.1.length : Int))) = true then ((rd r3.1 x8).bind fun v10 => if (decide (x8 < (a1.length : Int))) = true then ((rd a1 x8).bind fun v13 => if (decide (v13 > 0)) = true then ((rd a1 x8).bind fun v15 => if (decide (0 ≤ (IntKind.i64.wrap ((((mget v10 x7).getD ((⟨([] : List Int), 0⟩ : vdisk_file) : vdisk_file)).sure) + (if (IntKind.i64.wrap (((((mget v10 x7).getD ((⟨([] : List Int), 0⟩ : vdisk_file) : vdisk_file)).b).length : Int) - (((mget v10 x7).getD ((⟨([] : List Int), 0⟩ : vdisk_file) : vdisk_file)).sure))) < v15 then (IntKind.i64.wrap (((((mget v10 x7).getD ((⟨([] : List Int), 0⟩ : vdisk_file) : vdisk_file)).b).length : Int) - (((mget v10 x7).getD ((⟨([] : List Int), 0⟩ : vdisk_file) : vdisk_file)).sure))) else v15))) ∧ (IntKind.i64.wrap ((((mget v10 x7).getD ((⟨([] : List Int), 0⟩ : vdisk_file) : vdisk_file)).sure) + (if (IntKind.i64.wrap (((((mget v10 x7).getD ((⟨([] : List Int), 0⟩ : vdisk_file) : vdisk_file)).b).length : Int) - (((mget v10 x7).getD ((⟨([] : List Int), 0⟩ : vdisk_file) : vdisk_file)).sure))) < v15 then (IntKind.i64.wrap (((((mget v10 x7).getD ((⟨([] : List Int), 0⟩ : vdisk_file) : vdisk_file)).b).length : Int) - (((mget v10 x7).getD ((⟨([] : List Int), 0⟩ : vdisk_file) : vdisk_file)).sure))) else v15))) ≤ ((((mget v10 x7).getD ((⟨([] : List Int), 0⟩ : vdisk_file) : vdisk_file)).b).length : Int))) = true then ((vdisk_Disk_set.f k (⟨x7, x4, x5, (), x6⟩ : vdisk_Disk) v10 (⟨sub (((mget v10 x7).getD ((⟨([] : List Int), 0⟩ : vdisk_file) : vdisk_file)).b) 0 (IntKind.i64.wrap ((((mget v10 x7).getD ((⟨([] : List Int), 0⟩ : vdisk_file) : vdisk_file)).sure) + (if (IntKind.i64.wrap (((((mget v10 x7).getD ((⟨([] : List Int), 0⟩ : vdisk_file) : vdisk_file)).b).length : Int) - (((mget v10 x7).getD ((⟨([] : List Int), 0⟩ : vdisk_file) : vdisk_file)).sure))) < v15 then (IntKind.i64.wrap (((((mget v10 x7).getD ((⟨([] : List Int), 0⟩ : vdisk_file) : vdisk_file)).b).length : Int) - (((mget v10 x7).getD ((⟨([] : List Int), 0⟩ : vdisk_file) : vdisk_file)).sure))) else v15))), IntKind.i64.wrap ((((mget v10 x7).getD ((⟨([] : List Int), 0⟩ : vdisk_file) : vdisk_file)).sure) + (if (IntKind.i64.wrap (((((mget v10 x7).getD ((⟨([] : List Int), 0⟩ : vdisk_file) : vdisk_file)).b).length : Int) - (((mget v10 x7).getD ((⟨([] : List Int), 0⟩ : vdisk_file) : vdisk_file)).sure))) < v15 then (IntKind.i64.wrap (((((mget v10 x7).getD ((⟨([] : List Int), 0⟩ : vdisk_file) : vdisk_file)).b).length : Int) - (((mget v10 x7).getD ((⟨([] : List Int), 0⟩ : vdisk_file) : vdisk_file)).sure))) else v15))⟩ : vdisk_file)).bind fun r17 => vdisk_Disk_Crash_11.l0 k r17.room r17.used r17.dead r17.files (IntKind.i64.wrap (x8 + 1)) a1 r3) else none) else (if (decide (0 ≤ (((mget v10 x7).getD ((⟨([] : List Int), 0⟩ : vdisk_file) : vdisk_file)).sure) ∧ (((mget v10 x7).getD ((⟨([] : List Int), 0⟩ : vdisk_file) : vdisk_file)).sure) ≤ ((((mget v10 x7).getD ((⟨([] : List Int), 0⟩ : vdisk_file) : vdisk_file)).b).length : Int))) = true then ((vdisk_Disk_set.f k (⟨x7, x4, x5, (), x6⟩ : vdisk_Disk) v10 (⟨sub (((mget v10 x7).getD ((⟨([] : List Int), 0⟩ : vdisk_file) : vdisk_file)).b) 0 (((mget v10 x7).getD ((⟨([] : List Int), 0⟩ : vdisk_file) : vdisk_file)).sure), ((mget v10 x7).getD ((⟨([] : List Int), 0⟩ : vdisk_file) : vdisk_file)).sure⟩ : vdisk_file)).bind fun r19 => vdisk_Disk_Crash_11.l0 k r19.room r19.used r19.dead r19.files (IntKind.i64.wrap (x8 + 1)) a1 r3) else none)) else (if (decide (0 ≤ (((mget v10 x7).getD ((⟨([] : List Int), 0⟩ : vdisk_file) : vdisk_file)).sure) ∧ (((mget v10 x7).getD ((⟨([] : List Int), 0⟩ : vdisk_file) : vdisk_file)).sure) ≤ ((((mget v10 x7).getD ((⟨([] : List Int), 0⟩ : vdisk_file) : vdisk_file)).b).length : Int))) = true then ((vdisk_Disk_set.f k (⟨x7, x4, x5, (), x6⟩ : vdisk_Disk) v10 (⟨sub (((mget v10 x7).getD ((⟨([] : List Int), 0⟩ : vdisk_file) : vdisk_file)).b) 0 (((mget v10 x7).getD ((⟨([] : List Int), 0⟩ : vdisk_file) : vdisk_file)).sure), ((mget v10 x7).getD ((⟨([] : List Int), 0⟩ : vdisk_file) : vdisk_file)).sure⟩ : vdisk_file)).bind fun r21 => vdisk_Disk_Crash_11.l0 k r21.room r21.used r21.dead r21.files (IntKind.i64.wrap (x8 + 1)) a1 r3) else none)) else (some (0, (⟨x7, x4, x5, (), false⟩ : vdisk_Disk)))
end
def vdisk_Disk_Crash_11.f (k : Nat) (p0 : vdisk_Disk) (a1 : List Int) : Option (Int × vdisk_Disk) := (vdisk_Disk_none_35.f k p0).bind fun r1 => if r1.1 = true then (some (2, r1.2)) else ((vdisk_Disk_Names_24.f k r1.2).bind fun r3 => vdisk_Disk_Crash_11.l0 k r3.2.room r3.2.used r3.2.dead r3.2.files 0 a1 r3)
theorem vdisk_Disk_Crash_11.meets (k : Nat) (p0 : vdisk_Disk) (a1 : List Int) (r : Int × vdisk_Disk) (h : vdisk_Disk_Crash_11.f k p0 a1 = some r) : Meets Try.prog 11 [(D.one (C.ref 0 0)), (D.one (C.p false (.sl a1.length (a1.flatMap e_i64))))] [(some (AObj.cells false [(C.mp 1), (C.p true (.v (.int .i64 p0.room))), (C.p true (.v (.int .i64 p0.used))), (C.p true (.v (.pointer none))), (C.p true (.v (.bool p0.dead)))])), (some (AObj.map false (mapE true e_vdisk_file p0.files)))] (sc (.int .i64 r.1)) [(some (AObj.cells false [(C.mp 2), (C.p true (.v (.int .i64 r.2.room))), (C.p true (.v (.int .i64 r.2.used))), (C.p true (.v (.pointer none))), (C.p true (.v (.bool r.2.dead)))])), none, (some (AObj.map false (mapE true e_vdisk_file r.2.files)))] := by
 unfold vdisk_Disk_Crash_11.f at h
 refine Meets.of_body (n := 69) Try.func11 rfl rfl (nl rfl) fun x hx => ?_
 replace hx : x.k = 2 := hx
 show AW _ x _ _ ⟨69, fr0 [(D.one (C.ref 0 0)), (D.one (C.p false (.sl a1.length (a1.flatMap e_i64))))], [(some (AObj.cells false [(C.mp 1), (C.p true (.v (.int .i64 p0.room))), (C.p true (.v (.int .i64 p0.used))), (C.p true (.v (.pointer none))), (C.p true (.v (.bool p0.dead)))])), (some (AObj.map false (mapE true e_vdisk_file p0.files)))]⟩
 refine AW.weak (st' := ⟨69, (upd 69 (upd 69 topF 0 (D.one (C.ref 0 0))) 1 (D.one (C.p false (.sl a1.length (a1.flatMap e_i64))))), [(some (AObj.cells false [(C.mp 2), (C.p true (.v (.int .i64 p0.room))), (C.p true (.v (.int .i64 p0.used))), (C.p true (.v (.pointer none))), (C.p true (.v (.bool p0.dead)))])), none, (some (AObj.map false (mapE true e_vdisk_file p0.files)))]⟩) (Weak.genL (kk := 2) [0, 1, 1] [] hx rfl (by decide) rfl rfl rfl rfl (le_upd (le_upd (le_top _) (.t (.one (.ref rfl)))) (.t (.one .same))) (ac (.cells (fun h => h) (ac (.mp rfl) (ac .sc (ac .sc (ac .sc (ac .sc an)))))) (ac (.none _) (ac .map an)))) (AW.seq (AW.region ?_))
 refine s_assign (d := (sc (.int .i64 0))) rfl (AWops.nil (AW.seq (AW.seq (AW.region ?_))))
 refine s_move (d := (D.one (C.ref 0 0))) rfl ?_
 obtain ⟨r1, er1, h⟩ := bnd h
 refine s_call2 (ρ := [0, 2]) (br := false) (H2 := [(some (AObj.cells false [(C.mp 3), (C.p true (.v (.int .i64 r1.2.room))), (C.p true (.v (.int .i64 r1.2.used))), (C.p true (.v (.pointer none))), (C.p true (.v (.bool r1.2.dead)))])), none, none, (some (AObj.map false (mapE true e_vdisk_file r1.2.files)))]) (d := (sc (.bool r1.1))) F.ca_35 rfl rfl (ac (.one (.ref rfl)) an) (ac (.cells (ac (.mp rfl) (ac .sc (ac .sc (ac .sc (ac .sc an)))))) (ac .map an)) (by decide) rfl (vdisk_Disk_none_35.meets _ p0 r1 er1) (.inl rfl) rfl rfl (AWops.nil ?_)
 rcases itH h with ⟨c2, h⟩ | ⟨c2, h⟩
 ·refine AW.cond_yes rfl c2 (AW.seq (AW.region ?_))
  refine s_assign (d := (sc (.int .i64 2))) rfl (AWops.nil (AW.ret ?_))
  obtain rfl := Option.some.inj h
  exact ⟨_, rfl, (Weak.gen (kk := 2) [0, 1, 3] [] rfl rfl (by decide) (by decide) rfl rfl rfl (le_upd (le_top _) (.t (.one .sc))) (ac (.cells (fun h => h) (ac (.mp rfl) (ac .sc (ac .sc (ac .sc (ac .sc an)))))) (ac (.none _) (ac .map an))))⟩
 ·refine AW.cond_no rfl c2 (AW.skip (AW.seq (AW.seq (AW.region ?_))))
  refine s_move (d := (D.one (C.ref 0 0))) rfl ?_
  obtain ⟨r3, er3, h⟩ := bnd h
  refine s_call2 (ρ := [0, 3]) (br := false) (H2 := [(some (AObj.cells false [(C.mp 4), (C.p true (.v (.int .i64 r3.2.room))), (C.p true (.v (.int .i64 r3.2.used))), (C.p true (.v (.pointer none))), (C.p true (.v (.bool r3.2.dead)))])), none, none, none, (some (AObj.map false (mapE true e_vdisk_file r3.2.files))), (some (AObj.cells true (rowC e_str r3.1)))]) (d := (D.one (C.own 5 0 r3.1.length 1))) F.ca_24 rfl rfl (ac (.one (.ref rfl)) an) (ac (.cells (ac (.mp rfl) (ac .sc (ac .sc (ac .sc (ac .sc an)))))) (ac .map an)) (by decide) rfl (vdisk_Disk_Names_24.meets _ r1.2 r3 er3) (.inl rfl) (by first | rfl | (simp only [mergeH2, orF, Bool.false_or, Bool.or_false, Bool.true_or, Bool.or_true, mergeAt, mergeObj, renO, ren_row, List.drop_succ_cons, List.drop_zero, List.map_cons, List.map_nil, Option.map_some, Option.map_none, List.length_cons, List.length_nil, Nat.zero_add, List.append_assoc, List.cons_append, List.nil_append]; done) | (simp only [mergeH2, orF, Bool.false_or, Bool.or_false, Bool.true_or, Bool.or_true, mergeAt, mergeObj, renO, ren_row, List.drop_succ_cons, List.drop_zero, List.map_cons, List.map_nil, Option.map_some, Option.map_none, List.length_cons, List.length_nil, Nat.zero_add, List.append_assoc, List.cons_append, List.nil_append]; rfl)) rfl ?_
  refine s_len (n := r3.1.length) F.u_55 rfl (.inr ⟨(fun _ _ h => by cases h), ⟨_, rfl⟩⟩) ?_
  refine s_move (d := (sc (.int .i64 0))) rfl (AWops.nil (AW.block ?_))
  refine AW.loopw (st0 := ⟨69, (upd 69 (upd 69 (upd 69 (upd 69 (upd 69 topF 0 (D.one (C.ref 0 0))) 1 (D.one (C.p false (.sl a1.length (a1.flatMap e_i64))))) 12 (D.one (C.own 2 0 r3.1.length 1))) 13 (sc (.int .i64 (r3.1.length : Int)))) 14 (sc (.int .i64 0))), [(some (AObj.cells false [(C.mp 3), (C.p true (.v (.int .i64 r3.2.room))), (C.p true (.v (.int .i64 r3.2.used))), (C.p true (.v (.pointer none))), (C.p true (.v (.bool r3.2.dead)))])), none, (some (AObj.cells true (rowC e_str r3.1))), (some (AObj.map false (mapE true e_vdisk_file r3.2.files)))]⟩) (fun kv st => kv ≤ k ∧ ∃ (x4 : Int) (x5 : Int) (x6 : Bool) (x7 : List (ByteArray × vdisk_file)) (x8 : Int), vdisk_Disk_Crash_11.l0 kv x4 x5 x6 x7 x8 a1 r3 = some r ∧ st = ⟨69, (upd 69 (upd 69 (upd 69 (upd 69 (upd 69 topF 0 (D.one (C.ref 0 0))) 1 (D.one (C.p false (.sl a1.length (a1.flatMap e_i64))))) 12 (D.one (C.own 2 0 r3.1.length 1))) 13 (sc (.int .i64 (r3.1.length : Int)))) 14 (sc (.int .i64 x8))), [(some (AObj.cells false [(C.mp 3), (C.p true (.v (.int .i64 x4))), (C.p true (.v (.int .i64 x5))), (C.p true (.v (.pointer none))), (C.p true (.v (.bool x6)))])), none, (some (AObj.cells true (rowC e_str r3.1))), (some (AObj.map false (mapE true e_vdisk_file x7)))]⟩) (k := k) (Weak.gen (kk := 2) [0, 1, 5, 4] [] hx rfl (by decide) (by decide) rfl rfl rfl (le_upd (le_upd (le_upd (le_upd (le_upd (le_top _) (.t (.one (.ref rfl)))) (.t (.one .same))) (.t (.one (.own rfl)))) (.t (.one .sc))) (.t (.one .sc))) (ac (.cells (fun h => h) (ac (.mp rfl) (ac .sc (ac .sc (ac .sc (ac .sc an)))))) (ac (.none _) (ac (.cells (fun h => h) (all2_row _)) (ac .map an))))) ⟨Nat.le_refl _, r3.2.room, r3.2.used, r3.2.dead, r3.2.files, 0, h, rfl⟩ ?_
  rintro ql0 st ⟨hkl0, x4, x5, x6, x7, x8, h, rfl⟩
  cases ql0 with
  | zero => exact absurd h (by simp [vdisk_Disk_Crash_11.l0])
  | succ ql0 =>
   replace h := (vdisk_Disk_Crash_11.l0.eq_2 _ _ _ _ _ _ _ _).symm.trans h
   refine AW.seq (AW.region ?_)
   refine s_binI (v := (.bool (decide (x8 < (r3.1.length : Int))))) rfl rfl rfl (AWops.nil (AW.seq ?_))
   rcases itH h with ⟨c9, h⟩ | ⟨c9, h⟩
   ·refine AW.cond_yes rfl c9 (AW.skip (AW.seq (AW.block (AW.seq (AW.region ?_)))))
    refine s_move (d := (sc (.int .i64 x8))) rfl ?_
    obtain ⟨v10, ev10, h⟩ := bnd h
    obtain ⟨pv10, qv10, gv10⟩ := rd_some ev10
    refine s_indexOwn (d := (D.one (C.ref 2 (0 + x8.toNat * 1)))) F.u_55 F.sz_9 rfl rfl pv10 qv10 rfl ?_
    obtain ⟨R11, hR11⟩ := row_at (f := e_str) (sz := 1) (o := 0) e_str_len gv10 (e_str_eq v10) (by decide)
    refine s_load1 (c' := (C.p true (.v (.string v10)))) F.ag_9 (congrArg some hR11) rfl ?_
    refine s_assign (d := (sc (.int .i64 x8))) rfl ?_
    refine s_assign (d := (sc (.string v10))) rfl (AWops.nil (AW.seq (AW.region ?_)))
    refine s_move (d := (D.one (C.ref 0 0))) rfl ?_
    refine s_nilCheck (d := (D.one (C.ref 0 0))) rfl (.inl ⟨_, _, rfl⟩) ?_
    refine s_fieldRef F.fo_50_0 (by decide) rfl ?_
    refine s_load1 (c' := (C.mp 3)) F.ag_47 rfl rfl ?_
    refine s_move (d := (sc (.string v10))) rfl ?_
    refine t_lookup (b := true) F.u_47 F.u_9 F.z_65 (z := ((⟨([] : List Int), 0⟩ : vdisk_file) : vdisk_file)) (zs := [(.slice none 0 0), (.int .i64 0)]) rfl (fun h => by cases h) (ac ZRel.n (ac (ZRel.v _ rfl) an)) rfl rfl rfl rfl ?_
    refine s_alloc (cs := [(C.p true (.v (.slice none 0 0))), (C.p true (.v (.int .i64 0)))]) F.z_65 rfl rfl ?_
    refine s_store (cs' := (c_vdisk_file ((mget v10 x7).getD ((⟨([] : List Int), 0⟩ : vdisk_file) : vdisk_file)))) rfl rfl rfl (List.cons_ne_nil _ _) rfl F.sz_65 (nl rfl) rfl (AWops.nil (AW.seq (AW.region ?_)))
    refine s_fieldRef F.fo_65_1 (by decide) rfl ?_
    refine s_load1 (c' := (C.p true (.v (.int .i64 (((mget v10 x7).getD ((⟨([] : List Int), 0⟩ : vdisk_file) : vdisk_file)).sure))))) F.ag_3 rfl rfl ?_
    refine s_assign (d := (sc (.int .i64 (((mget v10 x7).getD ((⟨([] : List Int), 0⟩ : vdisk_file) : vdisk_file)).sure)))) rfl (AWops.nil (AW.seq (AW.seq (AW.region ?_))))
    refine s_move (d := (sc (.int .i64 x8))) rfl ?_
    refine s_move (d := (D.one (C.p false (.sl a1.length (a1.flatMap e_i64))))) rfl ?_
    refine s_len (n := a1.length) F.u_24 rfl (.inr ⟨(fun _ _ h => by cases h), ⟨_, rfl⟩⟩) ?_
    refine s_binI (v := (.bool (decide (x8 < (a1.length : Int))))) rfl rfl rfl ?_
    refine s_move (d := (sc (.bool (decide (x8 < (a1.length : Int)))))) rfl ?_
    rcases itH h with ⟨c12, h⟩ | ⟨c12, h⟩
    ·refine AWops.guard_yes rfl (nl rfl) rfl c12 ?_
     refine s_move (d := (D.one (C.p false (.sl a1.length (a1.flatMap e_i64))))) rfl ?_
     refine AWops.guard_yes rfl (nl rfl) rfl c12 ?_
     refine s_move (d := (sc (.int .i64 x8))) rfl ?_
     refine AWops.guard_yes rfl (nl rfl) rfl c12 ?_
     obtain ⟨v13, ev13, h⟩ := bnd h
     obtain ⟨pv13, qv13, gv13⟩ := rd_some ev13
     refine s_indexImm (ps := [P.v (.int .i64 v13)]) F.u_24 F.sz_3 rfl rfl pv13 qv13 (flat_at e_i64_len gv13 (e_i64_eq v13)) ?_
     refine AWops.guard_yes rfl (nl rfl) rfl c12 ?_
     refine s_load1 (c' := (C.p true (.v (.int .i64 v13)))) F.ag_3 rfl rfl ?_
     refine AWops.guard_yes rfl (nl rfl) rfl c12 ?_
     refine s_binI (v := (.bool (decide (v13 > 0)))) rfl rfl rfl ?_
     refine s_pick_yes (d := (sc (.bool (decide (v13 > 0))))) rfl c12 rfl (AWops.nil ?_)
     rcases itH h with ⟨c14, h⟩ | ⟨c14, h⟩
     ·refine AW.cond_yes rfl c14 ?_
      refine AW.weak (st' := ⟨69, (upd 69 (upd 69 (upd 69 (upd 69 (upd 69 (upd 69 (upd 69 (upd 69 (upd 69 (upd 69 (upd 69 (upd 69 (upd 69 (upd 69 topF 0 (D.one (C.ref 0 0))) 1 (D.one (C.p false (.sl a1.length (a1.flatMap e_i64))))) 5 (sc (.int .i64 x8))) 6 (sc (.string v10))) 7 (D.one (C.ref 2 0))) 8 (sc (.int .i64 (((mget v10 x7).getD ((⟨([] : List Int), 0⟩ : vdisk_file) : vdisk_file)).sure)))) 12 (D.one (C.own 3 0 r3.1.length 1))) 13 (sc (.int .i64 (r3.1.length : Int)))) 14 (sc (.int .i64 x8))) 32 (D.one (C.p false (.sl a1.length (a1.flatMap e_i64))))) 33 (sc (.int .i64 x8))) 34 (D.one (C.peek false [P.v (.int .i64 v13)]))) 35 (sc (.int .i64 v13))) 36 (sc (.bool (decide (v13 > 0))))), [(some (AObj.cells false [(C.mp 4), (C.p true (.v (.int .i64 x4))), (C.p true (.v (.int .i64 x5))), (C.p true (.v (.pointer none))), (C.p true (.v (.bool x6)))])), none, (some (AObj.cells true (c_vdisk_file ((mget v10 x7).getD ((⟨([] : List Int), 0⟩ : vdisk_file) : vdisk_file))))), (some (AObj.cells true (rowC e_str r3.1))), (some (AObj.map false (mapE true e_vdisk_file x7)))]⟩) (Weak.gen (kk := 2) [0, 1, 4, 2, 3] [] hx rfl (by decide) (by decide) rfl rfl rfl (le_upd (le_upd (le_upd (le_upd (le_upd (le_upd (le_upd (le_upd (le_upd (le_upd (le_upd (le_upd (le_upd (le_upd (le_top _) (.t (.one (.ref rfl)))) (.t (.one .same))) (.t (.one .sc))) (.t (.one .sc))) (.t (.one (.ref rfl)))) (.t (.one .sc))) (.t (.one (.own rfl)))) (.t (.one .sc))) (.t (.one .sc))) (.t (.one .same))) (.t (.one .sc))) (.t (.one .peek))) (.t (.one .sc))) (.t (.one .sc))) (ac (.cells (fun h => h) (ac (.mp rfl) (ac .sc (ac .sc (ac .sc (ac .sc an)))))) (ac (.none _) (ac (.cells (fun h => h) (ac .same (ac .sc an))) (ac (.cells (fun h => h) (all2_row _)) (ac .map an)))))) ?_
      obtain ⟨v15, ev15, h⟩ := bnd h
      obtain ⟨pv15, qv15, gv15⟩ := rd_some ev15
      refine AW.draw (n := 69) (L := 5) [(0, ⟨some 38, (D.one (C.ref 2 1)), [(7, (D.one (C.ref 2 0)))], [], [], none⟩), (1, ⟨some 39, (sc (.int .i64 (((mget v10 x7).getD ((⟨([] : List Int), 0⟩ : vdisk_file) : vdisk_file)).sure))), [(38, (D.one (C.ref 2 1)))], [(2, (some (AObj.cells true (c_vdisk_file ((mget v10 x7).getD ((⟨([] : List Int), 0⟩ : vdisk_file) : vdisk_file))))))], [], none⟩), (2, ⟨some 40, (D.one (C.p false (.sl a1.length (a1.flatMap e_i64)))), [(1, (D.one (C.p false (.sl a1.length (a1.flatMap e_i64)))))], [], [], none⟩), (3, ⟨some 41, (sc (.int .i64 x8)), [(5, (sc (.int .i64 x8)))], [], [], none⟩), (4, ⟨some 42, (D.one (C.peek false [P.v (.int .i64 v15)])), [(40, (D.one (C.p false (.sl a1.length (a1.flatMap e_i64))))), (41, (sc (.int .i64 x8)))], [], [], none⟩), (5, ⟨some 43, (sc (.int .i64 v15)), [(42, (D.one (C.peek false [P.v (.int .i64 v15)])))], [], [], none⟩), (6, ⟨some 44, (D.one (C.ref 2 0)), [(7, (D.one (C.ref 2 0)))], [], [], none⟩), (7, ⟨some 45, (D.one (C.p false (.sl (((mget v10 x7).getD ((⟨([] : List Int), 0⟩ : vdisk_file) : vdisk_file)).b).length ((((mget v10 x7).getD ((⟨([] : List Int), 0⟩ : vdisk_file) : vdisk_file)).b).flatMap e_u8)))), [(44, (D.one (C.ref 2 0)))], [(2, (some (AObj.cells true (c_vdisk_file ((mget v10 x7).getD ((⟨([] : List Int), 0⟩ : vdisk_file) : vdisk_file))))))], [], none⟩), (8, ⟨some 46, (sc (.int .i64 ((((mget v10 x7).getD ((⟨([] : List Int), 0⟩ : vdisk_file) : vdisk_file)).b).length : Int))), [(45, (D.one (C.p false (.sl (((mget v10 x7).getD ((⟨([] : List Int), 0⟩ : vdisk_file) : vdisk_file)).b).length ((((mget v10 x7).getD ((⟨([] : List Int), 0⟩ : vdisk_file) : vdisk_file)).b).flatMap e_u8)))))], [], [], none⟩), (9, ⟨some 47, (D.one (C.ref 2 1)), [(7, (D.one (C.ref 2 0)))], [], [], none⟩), (10, ⟨some 48, (sc (.int .i64 (((mget v10 x7).getD ((⟨([] : List Int), 0⟩ : vdisk_file) : vdisk_file)).sure))), [(47, (D.one (C.ref 2 1)))], [(2, (some (AObj.cells true (c_vdisk_file ((mget v10 x7).getD ((⟨([] : List Int), 0⟩ : vdisk_file) : vdisk_file))))))], [], none⟩), (11, ⟨some 49, (sc (.int .i64 (IntKind.i64.wrap (((((mget v10 x7).getD ((⟨([] : List Int), 0⟩ : vdisk_file) : vdisk_file)).b).length : Int) - (((mget v10 x7).getD ((⟨([] : List Int), 0⟩ : vdisk_file) : vdisk_file)).sure))))), [(46, (sc (.int .i64 ((((mget v10 x7).getD ((⟨([] : List Int), 0⟩ : vdisk_file) : vdisk_file)).b).length : Int)))), (48, (sc (.int .i64 (((mget v10 x7).getD ((⟨([] : List Int), 0⟩ : vdisk_file) : vdisk_file)).sure))))], [], [], none⟩), (12, ⟨some 50, (sc (.int .i64 (if (IntKind.i64.wrap (((((mget v10 x7).getD ((⟨([] : List Int), 0⟩ : vdisk_file) : vdisk_file)).b).length : Int) - (((mget v10 x7).getD ((⟨([] : List Int), 0⟩ : vdisk_file) : vdisk_file)).sure))) < v15 then (IntKind.i64.wrap (((((mget v10 x7).getD ((⟨([] : List Int), 0⟩ : vdisk_file) : vdisk_file)).b).length : Int) - (((mget v10 x7).getD ((⟨([] : List Int), 0⟩ : vdisk_file) : vdisk_file)).sure))) else v15))), [(43, (sc (.int .i64 v15))), (49, (sc (.int .i64 (IntKind.i64.wrap (((((mget v10 x7).getD ((⟨([] : List Int), 0⟩ : vdisk_file) : vdisk_file)).b).length : Int) - (((mget v10 x7).getD ((⟨([] : List Int), 0⟩ : vdisk_file) : vdisk_file)).sure))))))], [], [], none⟩), (13, ⟨some 51, (sc (.int .i64 (IntKind.i64.wrap ((((mget v10 x7).getD ((⟨([] : List Int), 0⟩ : vdisk_file) : vdisk_file)).sure) + (if (IntKind.i64.wrap (((((mget v10 x7).getD ((⟨([] : List Int), 0⟩ : vdisk_file) : vdisk_file)).b).length : Int) - (((mget v10 x7).getD ((⟨([] : List Int), 0⟩ : vdisk_file) : vdisk_file)).sure))) < v15 then (IntKind.i64.wrap (((((mget v10 x7).getD ((⟨([] : List Int), 0⟩ : vdisk_file) : vdisk_file)).b).length : Int) - (((mget v10 x7).getD ((⟨([] : List Int), 0⟩ : vdisk_file) : vdisk_file)).sure))) else v15))))), [(39, (sc (.int .i64 (((mget v10 x7).getD ((⟨([] : List Int), 0⟩ : vdisk_file) : vdisk_file)).sure)))), (50, (sc (.int .i64 (if (IntKind.i64.wrap (((((mget v10 x7).getD ((⟨([] : List Int), 0⟩ : vdisk_file) : vdisk_file)).b).length : Int) - (((mget v10 x7).getD ((⟨([] : List Int), 0⟩ : vdisk_file) : vdisk_file)).sure))) < v15 then (IntKind.i64.wrap (((((mget v10 x7).getD ((⟨([] : List Int), 0⟩ : vdisk_file) : vdisk_file)).b).length : Int) - (((mget v10 x7).getD ((⟨([] : List Int), 0⟩ : vdisk_file) : vdisk_file)).sure))) else v15))))], [], [], none⟩), (14, ⟨some 8, (sc (.int .i64 (IntKind.i64.wrap ((((mget v10 x7).getD ((⟨([] : List Int), 0⟩ : vdisk_file) : vdisk_file)).sure) + (if (IntKind.i64.wrap (((((mget v10 x7).getD ((⟨([] : List Int), 0⟩ : vdisk_file) : vdisk_file)).b).length : Int) - (((mget v10 x7).getD ((⟨([] : List Int), 0⟩ : vdisk_file) : vdisk_file)).sure))) < v15 then (IntKind.i64.wrap (((((mget v10 x7).getD ((⟨([] : List Int), 0⟩ : vdisk_file) : vdisk_file)).b).length : Int) - (((mget v10 x7).getD ((⟨([] : List Int), 0⟩ : vdisk_file) : vdisk_file)).sure))) else v15))))), [(51, (sc (.int .i64 (IntKind.i64.wrap ((((mget v10 x7).getD ((⟨([] : List Int), 0⟩ : vdisk_file) : vdisk_file)).sure) + (if (IntKind.i64.wrap (((((mget v10 x7).getD ((⟨([] : List Int), 0⟩ : vdisk_file) : vdisk_file)).b).length : Int) - (((mget v10 x7).getD ((⟨([] : List Int), 0⟩ : vdisk_file) : vdisk_file)).sure))) < v15 then (IntKind.i64.wrap (((((mget v10 x7).getD ((⟨([] : List Int), 0⟩ : vdisk_file) : vdisk_file)).b).length : Int) - (((mget v10 x7).getD ((⟨([] : List Int), 0⟩ : vdisk_file) : vdisk_file)).sure))) else v15))))))], [], [], none⟩)] [[], [0], [], [], [2, 3], [2, 3, 4], [], [6], [6, 7], [], [9], [6, 7, 8, 9, 10], [2, 3, 4, 5, 6, 7, 8, 9, 10, 11], [0, 1, 2, 3, 4, 5, 6, 7, 8, 9, 10, 11, 12], [0, 1, 2, 3, 4, 5, 6, 7, 8, 9, 10, 11, 12, 13]] (nl rfl) [0, 1, 0, 0, 1, 2, 0, 1, 2, 0, 1, 3, 4, 5, 6] rfl (TK := []) rfl AllK.nil' (fC ⟨(sC rfl AllS.nil'), AllH.nil'⟩ (fC ⟨(sC rfl AllS.nil'), (hC rfl AllH.nil')⟩ (fC ⟨(sC rfl AllS.nil'), AllH.nil'⟩ (fC ⟨(sC rfl AllS.nil'), AllH.nil'⟩ (fC ⟨(sC rfl (sC rfl AllS.nil')), AllH.nil'⟩ (fC ⟨(sC rfl AllS.nil'), AllH.nil'⟩ (fC ⟨(sC rfl AllS.nil'), AllH.nil'⟩ (fC ⟨(sC rfl AllS.nil'), (hC rfl AllH.nil')⟩ (fC ⟨(sC rfl AllS.nil'), AllH.nil'⟩ (fC ⟨(sC rfl AllS.nil'), AllH.nil'⟩ (fC ⟨(sC rfl AllS.nil'), (hC rfl AllH.nil')⟩ (fC ⟨(sC rfl (sC rfl AllS.nil')), AllH.nil'⟩ (fC ⟨(sC rfl (sC rfl AllS.nil')), AllH.nil'⟩ (fC ⟨(sC rfl (sC rfl AllS.nil')), AllH.nil'⟩ (fC ⟨(sC rfl AllS.nil'), AllH.nil'⟩ AllF.nil'))))))))))))))) ?_ ?_
      ·refine (pC ?_ (pC ?_ (pC ?_ (pC ?_ (pC ?_ (pC ?_ (pC ?_ (pC ?_ (pC ?_ (pC ?_ (pC ?_ (pC ?_ (pC ?_ (pC ?_ (pC ?_ AllStep.nil')))))))))))))))
       ·intro K rest fr hv htk k
        show AWops _ x _ _ K ⟨69, (upd 69 fr 7 (D.one (C.ref 2 0))), [(hv 0), (hv 1), (hv 2), (hv 3), (hv 4)]⟩
        refine s_fieldRef F.fo_65_1 (by decide) rfl k
       ·intro K rest fr hv htk k
        show AWops _ x _ _ K ⟨69, (upd 69 fr 38 (D.one (C.ref 2 1))), [(hv 0), (hv 1), (some (AObj.cells true (c_vdisk_file ((mget v10 x7).getD ((⟨([] : List Int), 0⟩ : vdisk_file) : vdisk_file))))), (hv 3), (hv 4)]⟩
        refine s_load1 (c' := (C.p true (.v (.int .i64 (((mget v10 x7).getD ((⟨([] : List Int), 0⟩ : vdisk_file) : vdisk_file)).sure))))) F.ag_3 rfl rfl k
       ·intro K rest fr hv htk k
        show AWops _ x _ _ K ⟨69, (upd 69 fr 1 (D.one (C.p false (.sl a1.length (a1.flatMap e_i64))))), _⟩
        refine s_move (d := (D.one (C.p false (.sl a1.length (a1.flatMap e_i64))))) rfl k
       ·intro K rest fr hv htk k
        show AWops _ x _ _ K ⟨69, (upd 69 fr 5 (sc (.int .i64 x8))), _⟩
        refine s_move (d := (sc (.int .i64 x8))) rfl k
       ·intro K rest fr hv htk k
        show AWops _ x _ _ K ⟨69, (upd 69 (upd 69 fr 41 (sc (.int .i64 x8))) 40 (D.one (C.p false (.sl a1.length (a1.flatMap e_i64))))), [(hv 0), (hv 1), (hv 2), (hv 3), (hv 4)]⟩
        refine s_indexImm (ps := [P.v (.int .i64 v15)]) F.u_24 F.sz_3 rfl rfl pv15 qv15 (flat_at e_i64_len gv15 (e_i64_eq v15)) k
       ·intro K rest fr hv htk k
        show AWops _ x _ _ K ⟨69, (upd 69 fr 42 (D.one (C.peek false [P.v (.int .i64 v15)]))), [(hv 0), (hv 1), (hv 2), (hv 3), (hv 4)]⟩
        refine s_load1 (c' := (C.p true (.v (.int .i64 v15)))) F.ag_3 rfl rfl k
       ·intro K rest fr hv htk k
        show AWops _ x _ _ K ⟨69, (upd 69 fr 7 (D.one (C.ref 2 0))), [(hv 0), (hv 1), (hv 2), (hv 3), (hv 4)]⟩
        refine s_fieldRef F.fo_65_0 (by decide) rfl k
       ·intro K rest fr hv htk k
        show AWops _ x _ _ K ⟨69, (upd 69 fr 44 (D.one (C.ref 2 0))), [(hv 0), (hv 1), (some (AObj.cells true (c_vdisk_file ((mget v10 x7).getD ((⟨([] : List Int), 0⟩ : vdisk_file) : vdisk_file))))), (hv 3), (hv 4)]⟩
        refine s_load1 (c' := (C.p false (.sl (((mget v10 x7).getD ((⟨([] : List Int), 0⟩ : vdisk_file) : vdisk_file)).b).length ((((mget v10 x7).getD ((⟨([] : List Int), 0⟩ : vdisk_file) : vdisk_file)).b).flatMap e_u8)))) F.ag_22 rfl rfl k
       ·intro K rest fr hv htk k
        show AWops _ x _ _ K ⟨69, (upd 69 fr 45 (D.one (C.p false (.sl (((mget v10 x7).getD ((⟨([] : List Int), 0⟩ : vdisk_file) : vdisk_file)).b).length ((((mget v10 x7).getD ((⟨([] : List Int), 0⟩ : vdisk_file) : vdisk_file)).b).flatMap e_u8))))), [(hv 0), (hv 1), (hv 2), (hv 3), (hv 4)]⟩
        refine s_len (n := (((mget v10 x7).getD ((⟨([] : List Int), 0⟩ : vdisk_file) : vdisk_file)).b).length) F.u_22 rfl (.inr ⟨(fun _ _ h => by cases h), ⟨_, rfl⟩⟩) k
       ·intro K rest fr hv htk k
        show AWops _ x _ _ K ⟨69, (upd 69 fr 7 (D.one (C.ref 2 0))), [(hv 0), (hv 1), (hv 2), (hv 3), (hv 4)]⟩
        refine s_fieldRef F.fo_65_1 (by decide) rfl k
       ·intro K rest fr hv htk k
        show AWops _ x _ _ K ⟨69, (upd 69 fr 47 (D.one (C.ref 2 1))), [(hv 0), (hv 1), (some (AObj.cells true (c_vdisk_file ((mget v10 x7).getD ((⟨([] : List Int), 0⟩ : vdisk_file) : vdisk_file))))), (hv 3), (hv 4)]⟩
        refine s_load1 (c' := (C.p true (.v (.int .i64 (((mget v10 x7).getD ((⟨([] : List Int), 0⟩ : vdisk_file) : vdisk_file)).sure))))) F.ag_3 rfl rfl k
       ·intro K rest fr hv htk k
        show AWops _ x _ _ K ⟨69, (upd 69 (upd 69 fr 48 (sc (.int .i64 (((mget v10 x7).getD ((⟨([] : List Int), 0⟩ : vdisk_file) : vdisk_file)).sure)))) 46 (sc (.int .i64 ((((mget v10 x7).getD ((⟨([] : List Int), 0⟩ : vdisk_file) : vdisk_file)).b).length : Int)))), _⟩
        refine s_binI (v := (.int .i64 (IntKind.i64.wrap (((((mget v10 x7).getD ((⟨([] : List Int), 0⟩ : vdisk_file) : vdisk_file)).b).length : Int) - (((mget v10 x7).getD ((⟨([] : List Int), 0⟩ : vdisk_file) : vdisk_file)).sure))))) rfl rfl rfl k
       ·intro K rest fr hv htk k
        show AWops _ x _ _ K ⟨69, (upd 69 (upd 69 fr 49 (sc (.int .i64 (IntKind.i64.wrap (((((mget v10 x7).getD ((⟨([] : List Int), 0⟩ : vdisk_file) : vdisk_file)).b).length : Int) - (((mget v10 x7).getD ((⟨([] : List Int), 0⟩ : vdisk_file) : vdisk_file)).sure)))))) 43 (sc (.int .i64 v15))), [(hv 0), (hv 1), (hv 2), (hv 3), (hv 4)]⟩
        refine s_min2 (r := (if (IntKind.i64.wrap (((((mget v10 x7).getD ((⟨([] : List Int), 0⟩ : vdisk_file) : vdisk_file)).b).length : Int) - (((mget v10 x7).getD ((⟨([] : List Int), 0⟩ : vdisk_file) : vdisk_file)).sure))) < v15 then (IntKind.i64.wrap (((((mget v10 x7).getD ((⟨([] : List Int), 0⟩ : vdisk_file) : vdisk_file)).b).length : Int) - (((mget v10 x7).getD ((⟨([] : List Int), 0⟩ : vdisk_file) : vdisk_file)).sure))) else v15)) rfl rfl rfl k
       ·intro K rest fr hv htk k
        show AWops _ x _ _ K ⟨69, (upd 69 (upd 69 fr 50 (sc (.int .i64 (if (IntKind.i64.wrap (((((mget v10 x7).getD ((⟨([] : List Int), 0⟩ : vdisk_file) : vdisk_file)).b).length : Int) - (((mget v10 x7).getD ((⟨([] : List Int), 0⟩ : vdisk_file) : vdisk_file)).sure))) < v15 then (IntKind.i64.wrap (((((mget v10 x7).getD ((⟨([] : List Int), 0⟩ : vdisk_file) : vdisk_file)).b).length : Int) - (((mget v10 x7).getD ((⟨([] : List Int), 0⟩ : vdisk_file) : vdisk_file)).sure))) else v15)))) 39 (sc (.int .i64 (((mget v10 x7).getD ((⟨([] : List Int), 0⟩ : vdisk_file) : vdisk_file)).sure)))), _⟩
        refine s_binI (v := (.int .i64 (IntKind.i64.wrap ((((mget v10 x7).getD ((⟨([] : List Int), 0⟩ : vdisk_file) : vdisk_file)).sure) + (if (IntKind.i64.wrap (((((mget v10 x7).getD ((⟨([] : List Int), 0⟩ : vdisk_file) : vdisk_file)).b).length : Int) - (((mget v10 x7).getD ((⟨([] : List Int), 0⟩ : vdisk_file) : vdisk_file)).sure))) < v15 then (IntKind.i64.wrap (((((mget v10 x7).getD ((⟨([] : List Int), 0⟩ : vdisk_file) : vdisk_file)).b).length : Int) - (((mget v10 x7).getD ((⟨([] : List Int), 0⟩ : vdisk_file) : vdisk_file)).sure))) else v15))))) rfl rfl rfl k
       ·intro K rest fr hv htk k
        show AWops _ x _ _ K ⟨69, (upd 69 fr 51 (sc (.int .i64 (IntKind.i64.wrap ((((mget v10 x7).getD ((⟨([] : List Int), 0⟩ : vdisk_file) : vdisk_file)).sure) + (if (IntKind.i64.wrap (((((mget v10 x7).getD ((⟨([] : List Int), 0⟩ : vdisk_file) : vdisk_file)).b).length : Int) - (((mget v10 x7).getD ((⟨([] : List Int), 0⟩ : vdisk_file) : vdisk_file)).sure))) < v15 then (IntKind.i64.wrap (((((mget v10 x7).getD ((⟨([] : List Int), 0⟩ : vdisk_file) : vdisk_file)).b).length : Int) - (((mget v10 x7).getD ((⟨([] : List Int), 0⟩ : vdisk_file) : vdisk_file)).sure))) else v15)))))), _⟩
        refine s_assign (d := (sc (.int .i64 (IntKind.i64.wrap ((((mget v10 x7).getD ((⟨([] : List Int), 0⟩ : vdisk_file) : vdisk_file)).sure) + (if (IntKind.i64.wrap (((((mget v10 x7).getD ((⟨([] : List Int), 0⟩ : vdisk_file) : vdisk_file)).b).length : Int) - (((mget v10 x7).getD ((⟨([] : List Int), 0⟩ : vdisk_file) : vdisk_file)).sure))) < v15 then (IntKind.i64.wrap (((((mget v10 x7).getD ((⟨([] : List Int), 0⟩ : vdisk_file) : vdisk_file)).b).length : Int) - (((mget v10 x7).getD ((⟨([] : List Int), 0⟩ : vdisk_file) : vdisk_file)).sure))) else v15)))))) rfl k
      ·refine AWops.weak (st' := ⟨69, (upd 69 (upd 69 (upd 69 (upd 69 (upd 69 (upd 69 (upd 69 (upd 69 (upd 69 (upd 69 (upd 69 (upd 69 (upd 69 topF 0 (D.one (C.ref 0 0))) 1 (D.one (C.p false (.sl a1.length (a1.flatMap e_i64))))) 6 (sc (.string v10))) 7 (D.one (C.ref 2 0))) 8 (sc (.int .i64 (IntKind.i64.wrap ((((mget v10 x7).getD ((⟨([] : List Int), 0⟩ : vdisk_file) : vdisk_file)).sure) + (if (IntKind.i64.wrap (((((mget v10 x7).getD ((⟨([] : List Int), 0⟩ : vdisk_file) : vdisk_file)).b).length : Int) - (((mget v10 x7).getD ((⟨([] : List Int), 0⟩ : vdisk_file) : vdisk_file)).sure))) < v15 then (IntKind.i64.wrap (((((mget v10 x7).getD ((⟨([] : List Int), 0⟩ : vdisk_file) : vdisk_file)).b).length : Int) - (((mget v10 x7).getD ((⟨([] : List Int), 0⟩ : vdisk_file) : vdisk_file)).sure))) else v15)))))) 12 (D.one (C.own 3 0 r3.1.length 1))) 13 (sc (.int .i64 (r3.1.length : Int)))) 14 (sc (.int .i64 x8))) 32 (D.one (C.p false (.sl a1.length (a1.flatMap e_i64))))) 33 (sc (.int .i64 x8))) 34 (D.one (C.peek false [P.v (.int .i64 v13)]))) 35 (sc (.int .i64 v13))) 36 (sc (.bool (decide (v13 > 0))))), [(some (AObj.cells false [(C.mp 4), (C.p true (.v (.int .i64 x4))), (C.p true (.v (.int .i64 x5))), (C.p true (.v (.pointer none))), (C.p true (.v (.bool x6)))])), none, (some (AObj.cells true (c_vdisk_file ((mget v10 x7).getD ((⟨([] : List Int), 0⟩ : vdisk_file) : vdisk_file))))), (some (AObj.cells true (rowC e_str r3.1))), (some (AObj.map false (mapE true e_vdisk_file x7)))]⟩) (Weak.gen (kk := 2) [0, 1, 2, 3, 4] [] hx rfl (by decide) (by decide) rfl rfl rfl (le_upd (le_upd (le_upd (le_upd (le_upd (le_upd (le_upd (le_upd (le_upd (le_upd (le_upd (le_upd (le_upd (le_top _) (.t (.one (.ref rfl)))) (.t (.one .same))) (.t (.one .sc))) (.t (.one (.ref rfl)))) (.t (.one .sc))) (.t (.one (.own rfl)))) (.t (.one .sc))) (.t (.one .sc))) (.t (.one .same))) (.t (.one .sc))) (.t (.one .peek))) (.t (.one .sc))) (.t (.one .sc))) (ac (.cells (fun h => h) (ac (.mp rfl) (ac .sc (ac .sc (ac .sc (ac .sc an)))))) (ac (.none _) (ac (.cells (fun h => h) (ac .same (ac .sc an))) (ac (.cells (fun h => h) (all2_row _)) (ac .map an)))))) (AWops.nil (AW.region ?_))
       refine s_move (d := (D.one (C.ref 0 0))) rfl ?_
       refine s_move (d := (sc (.string v10))) rfl ?_
       refine s_fieldRef F.fo_65_0 (by decide) rfl ?_
       refine s_load1 (c' := (C.p false (.sl (((mget v10 x7).getD ((⟨([] : List Int), 0⟩ : vdisk_file) : vdisk_file)).b).length ((((mget v10 x7).getD ((⟨([] : List Int), 0⟩ : vdisk_file) : vdisk_file)).b).flatMap e_u8)))) F.ag_22 rfl rfl ?_
       refine s_move (d := (sc (.int .i64 (IntKind.i64.wrap ((((mget v10 x7).getD ((⟨([] : List Int), 0⟩ : vdisk_file) : vdisk_file)).sure) + (if (IntKind.i64.wrap (((((mget v10 x7).getD ((⟨([] : List Int), 0⟩ : vdisk_file) : vdisk_file)).b).length : Int) - (((mget v10 x7).getD ((⟨([] : List Int), 0⟩ : vdisk_file) : vdisk_file)).sure))) < v15 then (IntKind.i64.wrap (((((mget v10 x7).getD ((⟨([] : List Int), 0⟩ : vdisk_file) : vdisk_file)).b).length : Int) - (((mget v10 x7).getD ((⟨([] : List Int), 0⟩ : vdisk_file) : vdisk_file)).sure))) else v15)))))) rfl ?_
       refine s_move (d := (sc (.int .i64 (IntKind.i64.wrap ((((mget v10 x7).getD ((⟨([] : List Int), 0⟩ : vdisk_file) : vdisk_file)).sure) + (if (IntKind.i64.wrap (((((mget v10 x7).getD ((⟨([] : List Int), 0⟩ : vdisk_file) : vdisk_file)).b).length : Int) - (((mget v10 x7).getD ((⟨([] : List Int), 0⟩ : vdisk_file) : vdisk_file)).sure))) < v15 then (IntKind.i64.wrap (((((mget v10 x7).getD ((⟨([] : List Int), 0⟩ : vdisk_file) : vdisk_file)).b).length : Int) - (((mget v10 x7).getD ((⟨([] : List Int), 0⟩ : vdisk_file) : vdisk_file)).sure))) else v15)))))) rfl ?_
       obtain ⟨c16, h⟩ := gdH h
       have dc16 := of_decide_eq_true c16
       refine t_slice3Imm F.u_22 F.sz_5 e_u8_len rfl rfl rfl (by omega) (by omega) ?_
       refine s_move (d := (sc (.int .i64 (IntKind.i64.wrap ((((mget v10 x7).getD ((⟨([] : List Int), 0⟩ : vdisk_file) : vdisk_file)).sure) + (if (IntKind.i64.wrap (((((mget v10 x7).getD ((⟨([] : List Int), 0⟩ : vdisk_file) : vdisk_file)).b).length : Int) - (((mget v10 x7).getD ((⟨([] : List Int), 0⟩ : vdisk_file) : vdisk_file)).sure))) < v15 then (IntKind.i64.wrap (((((mget v10 x7).getD ((⟨([] : List Int), 0⟩ : vdisk_file) : vdisk_file)).b).length : Int) - (((mget v10 x7).getD ((⟨([] : List Int), 0⟩ : vdisk_file) : vdisk_file)).sure))) else v15)))))) rfl ?_
       refine s_build (ps := [(0, (D.one (C.p false (.sl (sub (((mget v10 x7).getD ((⟨([] : List Int), 0⟩ : vdisk_file) : vdisk_file)).b) 0 (IntKind.i64.wrap ((((mget v10 x7).getD ((⟨([] : List Int), 0⟩ : vdisk_file) : vdisk_file)).sure) + (if (IntKind.i64.wrap (((((mget v10 x7).getD ((⟨([] : List Int), 0⟩ : vdisk_file) : vdisk_file)).b).length : Int) - (((mget v10 x7).getD ((⟨([] : List Int), 0⟩ : vdisk_file) : vdisk_file)).sure))) < v15 then (IntKind.i64.wrap (((((mget v10 x7).getD ((⟨([] : List Int), 0⟩ : vdisk_file) : vdisk_file)).b).length : Int) - (((mget v10 x7).getD ((⟨([] : List Int), 0⟩ : vdisk_file) : vdisk_file)).sure))) else v15)))).length ((sub (((mget v10 x7).getD ((⟨([] : List Int), 0⟩ : vdisk_file) : vdisk_file)).b) 0 (IntKind.i64.wrap ((((mget v10 x7).getD ((⟨([] : List Int), 0⟩ : vdisk_file) : vdisk_file)).sure) + (if (IntKind.i64.wrap (((((mget v10 x7).getD ((⟨([] : List Int), 0⟩ : vdisk_file) : vdisk_file)).b).length : Int) - (((mget v10 x7).getD ((⟨([] : List Int), 0⟩ : vdisk_file) : vdisk_file)).sure))) < v15 then (IntKind.i64.wrap (((((mget v10 x7).getD ((⟨([] : List Int), 0⟩ : vdisk_file) : vdisk_file)).b).length : Int) - (((mget v10 x7).getD ((⟨([] : List Int), 0⟩ : vdisk_file) : vdisk_file)).sure))) else v15)))).flatMap e_u8))))), (1, (sc (.int .i64 (IntKind.i64.wrap ((((mget v10 x7).getD ((⟨([] : List Int), 0⟩ : vdisk_file) : vdisk_file)).sure) + (if (IntKind.i64.wrap (((((mget v10 x7).getD ((⟨([] : List Int), 0⟩ : vdisk_file) : vdisk_file)).b).length : Int) - (((mget v10 x7).getD ((⟨([] : List Int), 0⟩ : vdisk_file) : vdisk_file)).sure))) < v15 then (IntKind.i64.wrap (((((mget v10 x7).getD ((⟨([] : List Int), 0⟩ : vdisk_file) : vdisk_file)).b).length : Int) - (((mget v10 x7).getD ((⟨([] : List Int), 0⟩ : vdisk_file) : vdisk_file)).sure))) else v15))))))]) (cs := [(C.p false (.sl (sub (((mget v10 x7).getD ((⟨([] : List Int), 0⟩ : vdisk_file) : vdisk_file)).b) 0 (IntKind.i64.wrap ((((mget v10 x7).getD ((⟨([] : List Int), 0⟩ : vdisk_file) : vdisk_file)).sure) + (if (IntKind.i64.wrap (((((mget v10 x7).getD ((⟨([] : List Int), 0⟩ : vdisk_file) : vdisk_file)).b).length : Int) - (((mget v10 x7).getD ((⟨([] : List Int), 0⟩ : vdisk_file) : vdisk_file)).sure))) < v15 then (IntKind.i64.wrap (((((mget v10 x7).getD ((⟨([] : List Int), 0⟩ : vdisk_file) : vdisk_file)).b).length : Int) - (((mget v10 x7).getD ((⟨([] : List Int), 0⟩ : vdisk_file) : vdisk_file)).sure))) else v15)))).length ((sub (((mget v10 x7).getD ((⟨([] : List Int), 0⟩ : vdisk_file) : vdisk_file)).b) 0 (IntKind.i64.wrap ((((mget v10 x7).getD ((⟨([] : List Int), 0⟩ : vdisk_file) : vdisk_file)).sure) + (if (IntKind.i64.wrap (((((mget v10 x7).getD ((⟨([] : List Int), 0⟩ : vdisk_file) : vdisk_file)).b).length : Int) - (((mget v10 x7).getD ((⟨([] : List Int), 0⟩ : vdisk_file) : vdisk_file)).sure))) < v15 then (IntKind.i64.wrap (((((mget v10 x7).getD ((⟨([] : List Int), 0⟩ : vdisk_file) : vdisk_file)).b).length : Int) - (((mget v10 x7).getD ((⟨([] : List Int), 0⟩ : vdisk_file) : vdisk_file)).sure))) else v15)))).flatMap e_u8))), (C.p true (.v (.int .i64 (IntKind.i64.wrap ((((mget v10 x7).getD ((⟨([] : List Int), 0⟩ : vdisk_file) : vdisk_file)).sure) + (if (IntKind.i64.wrap (((((mget v10 x7).getD ((⟨([] : List Int), 0⟩ : vdisk_file) : vdisk_file)).b).length : Int) - (((mget v10 x7).getD ((⟨([] : List Int), 0⟩ : vdisk_file) : vdisk_file)).sure))) < v15 then (IntKind.i64.wrap (((((mget v10 x7).getD ((⟨([] : List Int), 0⟩ : vdisk_file) : vdisk_file)).b).length : Int) - (((mget v10 x7).getD ((⟨([] : List Int), 0⟩ : vdisk_file) : vdisk_file)).sure))) else v15))))))]) F.z_65 rfl F.so_65 rfl rfl ?_
       obtain ⟨r17, er17, h⟩ := bnd h
       refine s_call2 (ρ := [0, 4]) (br := false) (H2 := [(some (AObj.cells false [(C.mp 5), (C.p true (.v (.int .i64 r17.room))), (C.p true (.v (.int .i64 r17.used))), (C.p true (.v (.pointer none))), (C.p true (.v (.bool r17.dead)))])), none, (some (AObj.cells true (c_vdisk_file ((mget v10 x7).getD ((⟨([] : List Int), 0⟩ : vdisk_file) : vdisk_file))))), (some (AObj.cells true (rowC e_str r3.1))), none, (some (AObj.map false (mapE true e_vdisk_file r17.files)))]) (d := (D.tup [])) F.ca_33 rfl rfl (ac (.one (.ref rfl)) (ac (.one .sc) (ac (LendT.aggL (ac .imm (ac .sc an))) an))) (ac (.cells (ac (.mp rfl) (ac .sc (ac .sc (ac .sc (ac .sc an)))))) (ac .map an)) (by decide) rfl (vdisk_Disk_set.meets _ (⟨x7, x4, x5, (), x6⟩ : vdisk_Disk) v10 (⟨sub (((mget v10 x7).getD ((⟨([] : List Int), 0⟩ : vdisk_file) : vdisk_file)).b) 0 (IntKind.i64.wrap ((((mget v10 x7).getD ((⟨([] : List Int), 0⟩ : vdisk_file) : vdisk_file)).sure) + (if (IntKind.i64.wrap (((((mget v10 x7).getD ((⟨([] : List Int), 0⟩ : vdisk_file) : vdisk_file)).b).length : Int) - (((mget v10 x7).getD ((⟨([] : List Int), 0⟩ : vdisk_file) : vdisk_file)).sure))) < v15 then (IntKind.i64.wrap (((((mget v10 x7).getD ((⟨([] : List Int), 0⟩ : vdisk_file) : vdisk_file)).b).length : Int) - (((mget v10 x7).getD ((⟨([] : List Int), 0⟩ : vdisk_file) : vdisk_file)).sure))) else v15))), IntKind.i64.wrap ((((mget v10 x7).getD ((⟨([] : List Int), 0⟩ : vdisk_file) : vdisk_file)).sure) + (if (IntKind.i64.wrap (((((mget v10 x7).getD ((⟨([] : List Int), 0⟩ : vdisk_file) : vdisk_file)).b).length : Int) - (((mget v10 x7).getD ((⟨([] : List Int), 0⟩ : vdisk_file) : vdisk_file)).sure))) < v15 then (IntKind.i64.wrap (((((mget v10 x7).getD ((⟨([] : List Int), 0⟩ : vdisk_file) : vdisk_file)).b).length : Int) - (((mget v10 x7).getD ((⟨([] : List Int), 0⟩ : vdisk_file) : vdisk_file)).sure))) else v15))⟩ : vdisk_file) r17 er17) (.inl rfl) rfl rfl (AWops.nil (AW.region ?_))
       refine s_binI (v := (.int .i64 (IntKind.i64.wrap (x8 + 1)))) rfl rfl rfl ?_
       refine s_move (d := (sc (.int .i64 (IntKind.i64.wrap (x8 + 1))))) rfl (AWops.nil ?_)
       exact ⟨_, ⟨69, (upd 69 (upd 69 (upd 69 (upd 69 (upd 69 topF 0 (D.one (C.ref 0 0))) 1 (D.one (C.p false (.sl a1.length (a1.flatMap e_i64))))) 12 (D.one (C.own 2 0 r3.1.length 1))) 13 (sc (.int .i64 (r3.1.length : Int)))) 14 (sc (.int .i64 (IntKind.i64.wrap (x8 + 1))))), [(some (AObj.cells false [(C.mp 3), (C.p true (.v (.int .i64 r17.room))), (C.p true (.v (.int .i64 r17.used))), (C.p true (.v (.pointer none))), (C.p true (.v (.bool r17.dead)))])), none, (some (AObj.cells true (rowC e_str r3.1))), (some (AObj.map false (mapE true e_vdisk_file r17.files)))]⟩, by omega, (Weak.gen (kk := 2) [0, 1, 3, 5] [] hx rfl (by decide) (by decide) rfl rfl rfl (le_upd (le_upd (le_upd (le_upd (le_upd (le_top _) (.t (.one (.ref rfl)))) (.t (.one .same))) (.t (.one (.own rfl)))) (.t (.one .sc))) (.t (.one .sc))) (ac (.cells (fun h => h) (ac (.mp rfl) (ac .sc (ac .sc (ac .sc (ac .sc an)))))) (ac (.none _) (ac (.cells (fun h => h) (all2_row _)) (ac .map an))))), by omega, r17.room, r17.used, r17.dead, r17.files, IntKind.i64.wrap (x8 + 1), h, rfl⟩
     ·refine AW.cond_no rfl c14 (AW.skip (AW.region ?_))
      refine s_move (d := (D.one (C.ref 0 0))) rfl ?_
      refine s_move (d := (sc (.string v10))) rfl ?_
      refine s_fieldRef F.fo_65_0 (by decide) rfl ?_
      refine s_load1 (c' := (C.p false (.sl (((mget v10 x7).getD ((⟨([] : List Int), 0⟩ : vdisk_file) : vdisk_file)).b).length ((((mget v10 x7).getD ((⟨([] : List Int), 0⟩ : vdisk_file) : vdisk_file)).b).flatMap e_u8)))) F.ag_22 rfl rfl ?_
      refine s_move (d := (sc (.int .i64 (((mget v10 x7).getD ((⟨([] : List Int), 0⟩ : vdisk_file) : vdisk_file)).sure)))) rfl ?_
      refine s_move (d := (sc (.int .i64 (((mget v10 x7).getD ((⟨([] : List Int), 0⟩ : vdisk_file) : vdisk_file)).sure)))) rfl ?_
      obtain ⟨c18, h⟩ := gdH h
      have dc18 := of_decide_eq_true c18
      refine t_slice3Imm F.u_22 F.sz_5 e_u8_len rfl rfl rfl (by omega) (by omega) ?_
      refine s_move (d := (sc (.int .i64 (((mget v10 x7).getD ((⟨([] : List Int), 0⟩ : vdisk_file) : vdisk_file)).sure)))) rfl ?_
      refine s_build (ps := [(0, (D.one (C.p false (.sl (sub (((mget v10 x7).getD ((⟨([] : List Int), 0⟩ : vdisk_file) : vdisk_file)).b) 0 (((mget v10 x7).getD ((⟨([] : List Int), 0⟩ : vdisk_file) : vdisk_file)).sure)).length ((sub (((mget v10 x7).getD ((⟨([] : List Int), 0⟩ : vdisk_file) : vdisk_file)).b) 0 (((mget v10 x7).getD ((⟨([] : List Int), 0⟩ : vdisk_file) : vdisk_file)).sure)).flatMap e_u8))))), (1, (sc (.int .i64 (((mget v10 x7).getD ((⟨([] : List Int), 0⟩ : vdisk_file) : vdisk_file)).sure))))]) (cs := [(C.p false (.sl (sub (((mget v10 x7).getD ((⟨([] : List Int), 0⟩ : vdisk_file) : vdisk_file)).b) 0 (((mget v10 x7).getD ((⟨([] : List Int), 0⟩ : vdisk_file) : vdisk_file)).sure)).length ((sub (((mget v10 x7).getD ((⟨([] : List Int), 0⟩ : vdisk_file) : vdisk_file)).b) 0 (((mget v10 x7).getD ((⟨([] : List Int), 0⟩ : vdisk_file) : vdisk_file)).sure)).flatMap e_u8))), (C.p true (.v (.int .i64 (((mget v10 x7).getD ((⟨([] : List Int), 0⟩ : vdisk_file) : vdisk_file)).sure))))]) F.z_65 rfl F.so_65 rfl rfl ?_
      obtain ⟨r19, er19, h⟩ := bnd h
      refine s_call2 (ρ := [0, 3]) (br := false) (H2 := [(some (AObj.cells false [(C.mp 5), (C.p true (.v (.int .i64 r19.room))), (C.p true (.v (.int .i64 r19.used))), (C.p true (.v (.pointer none))), (C.p true (.v (.bool r19.dead)))])), none, (some (AObj.cells true (rowC e_str r3.1))), none, (some (AObj.cells true (c_vdisk_file ((mget v10 x7).getD ((⟨([] : List Int), 0⟩ : vdisk_file) : vdisk_file))))), (some (AObj.map false (mapE true e_vdisk_file r19.files)))]) (d := (D.tup [])) F.ca_33 rfl rfl (ac (.one (.ref rfl)) (ac (.one .sc) (ac (LendT.aggL (ac .imm (ac .sc an))) an))) (ac (.cells (ac (.mp rfl) (ac .sc (ac .sc (ac .sc (ac .sc an)))))) (ac .map an)) (by decide) rfl (vdisk_Disk_set.meets _ (⟨x7, x4, x5, (), x6⟩ : vdisk_Disk) v10 (⟨sub (((mget v10 x7).getD ((⟨([] : List Int), 0⟩ : vdisk_file) : vdisk_file)).b) 0 (((mget v10 x7).getD ((⟨([] : List Int), 0⟩ : vdisk_file) : vdisk_file)).sure), ((mget v10 x7).getD ((⟨([] : List Int), 0⟩ : vdisk_file) : vdisk_file)).sure⟩ : vdisk_file) r19 er19) (.inl rfl) rfl rfl (AWops.nil (AW.region ?_))
      refine s_binI (v := (.int .i64 (IntKind.i64.wrap (x8 + 1)))) rfl rfl rfl ?_
      refine s_move (d := (sc (.int .i64 (IntKind.i64.wrap (x8 + 1))))) rfl (AWops.nil ?_)
      exact ⟨_, ⟨69, (upd 69 (upd 69 (upd 69 (upd 69 (upd 69 topF 0 (D.one (C.ref 0 0))) 1 (D.one (C.p false (.sl a1.length (a1.flatMap e_i64))))) 12 (D.one (C.own 2 0 r3.1.length 1))) 13 (sc (.int .i64 (r3.1.length : Int)))) 14 (sc (.int .i64 (IntKind.i64.wrap (x8 + 1))))), [(some (AObj.cells false [(C.mp 3), (C.p true (.v (.int .i64 r19.room))), (C.p true (.v (.int .i64 r19.used))), (C.p true (.v (.pointer none))), (C.p true (.v (.bool r19.dead)))])), none, (some (AObj.cells true (rowC e_str r3.1))), (some (AObj.map false (mapE true e_vdisk_file r19.files)))]⟩, by omega, (Weak.gen (kk := 2) [0, 1, 2, 5] [] hx rfl (by decide) (by decide) rfl rfl rfl (le_upd (le_upd (le_upd (le_upd (le_upd (le_top _) (.t (.one (.ref rfl)))) (.t (.one .same))) (.t (.one (.own rfl)))) (.t (.one .sc))) (.t (.one .sc))) (ac (.cells (fun h => h) (ac (.mp rfl) (ac .sc (ac .sc (ac .sc (ac .sc an)))))) (ac (.none _) (ac (.cells (fun h => h) (all2_row _)) (ac .map an))))), by omega, r19.room, r19.used, r19.dead, r19.files, IntKind.i64.wrap (x8 + 1), h, rfl⟩
    ·iterate 5 refine AWops.guard_no rfl (nl rfl) rfl c12 ?_
     refine s_pick_no (d := (sc (.bool false))) rfl c12 rfl (AWops.nil ?_)
     refine AW.cond_no rfl rfl (AW.skip (AW.region ?_))
     refine s_move (d := (D.one (C.ref 0 0))) rfl ?_
     refine s_move (d := (sc (.string v10))) rfl ?_
     refine s_fieldRef F.fo_65_0 (by decide) rfl ?_
     refine s_load1 (c' := (C.p false (.sl (((mget v10 x7).getD ((⟨([] : List Int), 0⟩ : vdisk_file) : vdisk_file)).b).length ((((mget v10 x7).getD ((⟨([] : List Int), 0⟩ : vdisk_file) : vdisk_file)).b).flatMap e_u8)))) F.ag_22 rfl rfl ?_
     refine s_move (d := (sc (.int .i64 (((mget v10 x7).getD ((⟨([] : List Int), 0⟩ : vdisk_file) : vdisk_file)).sure)))) rfl ?_
     refine s_move (d := (sc (.int .i64 (((mget v10 x7).getD ((⟨([] : List Int), 0⟩ : vdisk_file) : vdisk_file)).sure)))) rfl ?_
     obtain ⟨c20, h⟩ := gdH h
     have dc20 := of_decide_eq_true c20
     refine t_slice3Imm F.u_22 F.sz_5 e_u8_len rfl rfl rfl (by omega) (by omega) ?_
     refine s_move (d := (sc (.int .i64 (((mget v10 x7).getD ((⟨([] : List Int), 0⟩ : vdisk_file) : vdisk_file)).sure)))) rfl ?_
     refine s_build (ps := [(0, (D.one (C.p false (.sl (sub (((mget v10 x7).getD ((⟨([] : List Int), 0⟩ : vdisk_file) : vdisk_file)).b) 0 (((mget v10 x7).getD ((⟨([] : List Int), 0⟩ : vdisk_file) : vdisk_file)).sure)).length ((sub (((mget v10 x7).getD ((⟨([] : List Int), 0⟩ : vdisk_file) : vdisk_file)).b) 0 (((mget v10 x7).getD ((⟨([] : List Int), 0⟩ : vdisk_file) : vdisk_file)).sure)).flatMap e_u8))))), (1, (sc (.int .i64 (((mget v10 x7).getD ((⟨([] : List Int), 0⟩ : vdisk_file) : vdisk_file)).sure))))]) (cs := [(C.p false (.sl (sub (((mget v10 x7).getD ((⟨([] : List Int), 0⟩ : vdisk_file) : vdisk_file)).b) 0 (((mget v10 x7).getD ((⟨([] : List Int), 0⟩ : vdisk_file) : vdisk_file)).sure)).length ((sub (((mget v10 x7).getD ((⟨([] : List Int), 0⟩ : vdisk_file) : vdisk_file)).b) 0 (((mget v10 x7).getD ((⟨([] : List Int), 0⟩ : vdisk_file) : vdisk_file)).sure)).flatMap e_u8))), (C.p true (.v (.int .i64 (((mget v10 x7).getD ((⟨([] : List Int), 0⟩ : vdisk_file) : vdisk_file)).sure))))]) F.z_65 rfl F.so_65 rfl rfl ?_
     obtain ⟨r21, er21, h⟩ := bnd h
     refine s_call2 (ρ := [0, 3]) (br := false) (H2 := [(some (AObj.cells false [(C.mp 5), (C.p true (.v (.int .i64 r21.room))), (C.p true (.v (.int .i64 r21.used))), (C.p true (.v (.pointer none))), (C.p true (.v (.bool r21.dead)))])), none, (some (AObj.cells true (rowC e_str r3.1))), none, (some (AObj.cells true (c_vdisk_file ((mget v10 x7).getD ((⟨([] : List Int), 0⟩ : vdisk_file) : vdisk_file))))), (some (AObj.map false (mapE true e_vdisk_file r21.files)))]) (d := (D.tup [])) F.ca_33 rfl rfl (ac (.one (.ref rfl)) (ac (.one .sc) (ac (LendT.aggL (ac .imm (ac .sc an))) an))) (ac (.cells (ac (.mp rfl) (ac .sc (ac .sc (ac .sc (ac .sc an)))))) (ac .map an)) (by decide) rfl (vdisk_Disk_set.meets _ (⟨x7, x4, x5, (), x6⟩ : vdisk_Disk) v10 (⟨sub (((mget v10 x7).getD ((⟨([] : List Int), 0⟩ : vdisk_file) : vdisk_file)).b) 0 (((mget v10 x7).getD ((⟨([] : List Int), 0⟩ : vdisk_file) : vdisk_file)).sure), ((mget v10 x7).getD ((⟨([] : List Int), 0⟩ : vdisk_file) : vdisk_file)).sure⟩ : vdisk_file) r21 er21) (.inl rfl) rfl rfl (AWops.nil (AW.region ?_))
     refine s_binI (v := (.int .i64 (IntKind.i64.wrap (x8 + 1)))) rfl rfl rfl ?_
     refine s_move (d := (sc (.int .i64 (IntKind.i64.wrap (x8 + 1))))) rfl (AWops.nil ?_)
     exact ⟨_, ⟨69, (upd 69 (upd 69 (upd 69 (upd 69 (upd 69 topF 0 (D.one (C.ref 0 0))) 1 (D.one (C.p false (.sl a1.length (a1.flatMap e_i64))))) 12 (D.one (C.own 2 0 r3.1.length 1))) 13 (sc (.int .i64 (r3.1.length : Int)))) 14 (sc (.int .i64 (IntKind.i64.wrap (x8 + 1))))), [(some (AObj.cells false [(C.mp 3), (C.p true (.v (.int .i64 r21.room))), (C.p true (.v (.int .i64 r21.used))), (C.p true (.v (.pointer none))), (C.p true (.v (.bool r21.dead)))])), none, (some (AObj.cells true (rowC e_str r3.1))), (some (AObj.map false (mapE true e_vdisk_file r21.files)))]⟩, by omega, (Weak.gen (kk := 2) [0, 1, 2, 5] [] hx rfl (by decide) (by decide) rfl rfl rfl (le_upd (le_upd (le_upd (le_upd (le_upd (le_top _) (.t (.one (.ref rfl)))) (.t (.one .same))) (.t (.one (.own rfl)))) (.t (.one .sc))) (.t (.one .sc))) (ac (.cells (fun h => h) (ac (.mp rfl) (ac .sc (ac .sc (ac .sc (ac .sc an)))))) (ac (.none _) (ac (.cells (fun h => h) (all2_row _)) (ac .map an))))), by omega, r21.room, r21.used, r21.dead, r21.files, IntKind.i64.wrap (x8 + 1), h, rfl⟩
   ·refine AW.cond_no rfl c9 (AW.exit (AW.seq (AW.region ?_)))
    refine s_move (d := (D.one (C.ref 0 0))) rfl ?_
    refine s_move (d := (D.one (C.ref 0 0))) rfl ?_
    refine s_nilCheck (d := (D.one (C.ref 0 0))) rfl (.inl ⟨_, _, rfl⟩) ?_
    refine s_fieldRef F.fo_50_4 (by decide) rfl ?_
    refine s_store (cs' := [(C.mp 3), (C.p true (.v (.int .i64 x4))), (C.p true (.v (.int .i64 x5))), (C.p true (.v (.pointer none))), (C.p true (.v (.bool false)))]) rfl rfl rfl (List.cons_ne_nil _ _) rfl F.sz_4 (nl rfl) rfl ?_
    refine s_nilCheck (d := (D.one (C.ref 0 0))) rfl (.inl ⟨_, _, rfl⟩) ?_
    refine s_fieldRef F.fo_50_3 (by decide) rfl ?_
    refine s_store (cs' := [(C.mp 3), (C.p true (.v (.int .i64 x4))), (C.p true (.v (.int .i64 x5))), (C.p true (.v (.pointer none))), (C.p true (.v (.bool false)))]) rfl rfl rfl (List.cons_ne_nil _ _) rfl F.sz_48 (nl rfl) rfl (AWops.nil (AW.seq (AW.region ?_)))
    refine s_assign (d := (sc (.int .i64 0))) rfl (AWops.nil (AW.ret ?_))
    obtain rfl := Option.some.inj h
    exact ⟨_, rfl, (Weak.gen (kk := 2) [0, 1, 3] [] rfl rfl (by decide) (by decide) rfl rfl rfl (le_upd (le_top _) (.t (.one .sc))) (ac (.cells (fun h => h) (ac (.mp rfl) (ac .sc (ac .sc (ac .sc (ac .sc an)))))) (ac (.none _) (ac .map an))))⟩
def slices_Clone_byte_byte.f (k : Nat) (a0 : List Int) : Option (List Int) := if (decide (([] : List Int).length + a0.length ≤ 140737488355328)) = true then (some a0) else none
theorem slices_Clone_byte_byte.meets (k : Nat) (a0 : List Int) (r : (List Int)) (h : slices_Clone_byte_byte.f k a0 = some r) : Meets Try.prog 36 [(D.one (C.p false (.sl a0.length (a0.flatMap e_u8))))] [] (D.one (C.own 0 0 r.length 1)) [(some (AObj.cells true (rowC e_u8 r)))] := by
 unfold slices_Clone_byte_byte.f at h
 refine Meets.of_body (n := 8) Try.func36 rfl rfl (nl rfl) fun x hx => ?_
 replace hx : x.k = 0 := hx
 show AW _ x _ _ ⟨8, fr0 [(D.one (C.p false (.sl a0.length (a0.flatMap e_u8))))], []⟩
 refine AW.seq (AW.region ?_)
 refine s_assign (d := (sc (.slice none 0 0))) rfl (AWops.nil (AW.seq (AW.seq (AW.region ?_))))
 refine s_move (d := (D.one (C.p false (.sl a0.length (a0.flatMap e_u8))))) rfl ?_
 refine s_eqNil (n := _) F.u_22 rfl (fun _ _ h => by cases h) rfl (.inl rfl) (fun b w => ?_)
 cases b with
 | false =>
  refine AWops.nil ?_
  refine AW.cond_no rfl rfl (AW.skip (AW.seq (AW.region ?_)))
  refine s_buildSlice (n := 0) (ps := []) (cs := rowC e_u8 ([] : List Int)) F.u_22 F.sz_5 F.z_5 rfl rfl (by decide) (by decide) rfl rfl ?_
  refine s_move (d := (D.one (C.p false (.sl a0.length (a0.flatMap e_u8))))) rfl ?_
  obtain ⟨c1, h⟩ := gdH h
  have dc1 := of_decide_eq_true c1
  refine t_append (xs := ([] : List Int)) (ys := a0) (zs := a0) (H' := [none, (some (AObj.cells true (rowC e_u8 a0)))]) F.u_22 F.in_5 rfl e_u8_len (.own rfl rfl) .imm F.u_22 (by omega) (by omega) rfl rfl ?_
  refine s_assign (d := (D.one (C.own 1 0 a0.length 1))) rfl (AWops.nil (AW.ret ?_))
  obtain rfl := Option.some.inj h
  exact ⟨_, rfl, (Weak.gen (kk := 0) [1] [] rfl rfl (by decide) (by decide) rfl rfl rfl (le_upd (le_top _) (.t (.one (.own rfl)))) (ac (.cells (fun h => h) (all2_row _)) an))⟩
 | true =>
  obtain rfl : a0 = [] := by cases a0 with | nil => rfl | cons _ _ => exact absurd (w (by simp)) (by decide)
  replace h : (some ([] : List Int)) = some r := by simpa [bytesI] using h
  skip
  refine AWops.nil ?_
  refine AW.cond_yes rfl rfl (AW.seq (AW.region ?_))
  refine s_assign (d := (sc (.slice none 0 0))) rfl (AWops.nil (AW.ret ?_))
  obtain rfl := Option.some.inj h
  exact ⟨_, rfl, (Weak.trans (Weak.nil (sz := 1) (i := 0) rfl) (Weak.gen (kk := 0) [0] [] rfl rfl (by decide) (by decide) rfl rfl rfl (le_upd (le_top _) (.t (.one (CLe.ownN rfl (by simp))))) (ac (.cells (fun h => h) an) an)))⟩
def vdisk_Disk_Read_12.f (k : Nat) (p0 : vdisk_Disk) (a1 : ByteArray) : Option ((List Int) × Int × vdisk_Disk) := (vdisk_Disk_none_35.f k p0).bind fun r1 => if r1.1 = true then (some (([] : List Int), 2, r1.2)) else (if r1.2.dead = true then (some (([] : List Int), 70, r1.2)) else (if ((mget a1 r1.2.files).isSome) = true then ((slices_Clone_byte_byte.f k (((mget a1 r1.2.files).getD ((⟨([] : List Int), 0⟩ : vdisk_file) : vdisk_file)).b)).bind fun r5 => some (r5, 0, r1.2)) else (some (([] : List Int), 33, r1.2))))
theorem vdisk_Disk_Read_12.meets (k : Nat) (p0 : vdisk_Disk) (a1 : ByteArray) (r : (List Int) × Int × vdisk_Disk) (h : vdisk_Disk_Read_12.f k p0 a1 = some r) : Meets Try.prog 12 [(D.one (C.ref 0 0)), (sc (.string a1))] [(some (AObj.cells false [(C.mp 1), (C.p true (.v (.int .i64 p0.room))), (C.p true (.v (.int .i64 p0.used))), (C.p true (.v (.pointer none))), (C.p true (.v (.bool p0.dead)))])), (some (AObj.map false (mapE true e_vdisk_file p0.files)))] (D.tup [(D.one (C.p false (.sl r.1.length (r.1.flatMap e_u8)))), (sc (.int .i64 r.2.1))]) [(some (AObj.cells false [(C.mp 2), (C.p true (.v (.int .i64 r.2.2.room))), (C.p true (.v (.int .i64 r.2.2.used))), (C.p true (.v (.pointer none))), (C.p true (.v (.bool r.2.2.dead)))])), none, (some (AObj.map false (mapE true e_vdisk_file r.2.2.files)))] := by
 unfold vdisk_Disk_Read_12.f at h
 refine Meets.of_body (n := 30) Try.func12 rfl rfl (nl rfl) fun x hx => ?_
 replace hx : x.k = 2 := hx
 show AW _ x _ _ ⟨30, fr0 [(D.one (C.ref 0 0)), (sc (.string a1))], [(some (AObj.cells false [(C.mp 1), (C.p true (.v (.int .i64 p0.room))), (C.p true (.v (.int .i64 p0.used))), (C.p true (.v (.pointer none))), (C.p true (.v (.bool p0.dead)))])), (some (AObj.map false (mapE true e_vdisk_file p0.files)))]⟩
 refine AW.weak (st' := ⟨30, (upd 30 (upd 30 topF 0 (D.one (C.ref 0 0))) 1 (sc (.string a1))), [(some (AObj.cells false [(C.mp 2), (C.p true (.v (.int .i64 p0.room))), (C.p true (.v (.int .i64 p0.used))), (C.p true (.v (.pointer none))), (C.p true (.v (.bool p0.dead)))])), none, (some (AObj.map false (mapE true e_vdisk_file p0.files)))]⟩) (Weak.genL (kk := 2) [0, 1, 1] [] hx rfl (by decide) rfl rfl rfl rfl (le_upd (le_upd (le_top _) (.t (.one (.ref rfl)))) (.t (.one .sc))) (ac (.cells (fun h => h) (ac (.mp rfl) (ac .sc (ac .sc (ac .sc (ac .sc an)))))) (ac (.none _) (ac .map an)))) (AW.seq (AW.region ?_))
 refine s_assign (d := (sc (.slice none 0 0))) rfl ?_
 refine s_assign (d := (sc (.int .i64 0))) rfl (AWops.nil (AW.seq (AW.block (AW.seq (AW.region ?_)))))
 refine s_move (d := (D.one (C.ref 0 0))) rfl ?_
 obtain ⟨r1, er1, h⟩ := bnd h
 refine s_call2 (ρ := [0, 2]) (br := false) (H2 := [(some (AObj.cells false [(C.mp 3), (C.p true (.v (.int .i64 r1.2.room))), (C.p true (.v (.int .i64 r1.2.used))), (C.p true (.v (.pointer none))), (C.p true (.v (.bool r1.2.dead)))])), none, none, (some (AObj.map false (mapE true e_vdisk_file r1.2.files)))]) (d := (sc (.bool r1.1))) F.ca_35 rfl rfl (ac (.one (.ref rfl)) an) (ac (.cells (ac (.mp rfl) (ac .sc (ac .sc (ac .sc (ac .sc an)))))) (ac .map an)) (by decide) rfl (vdisk_Disk_none_35.meets _ p0 r1 er1) (.inl rfl) rfl rfl ?_
 refine s_assign (d := (sc (.bool r1.1))) rfl (AWops.nil ?_)
 rcases itH h with ⟨c2, h⟩ | ⟨c2, h⟩
 ·refine AW.cond_yes rfl c2 (AW.seq (AW.region ?_))
  refine s_assign (d := (sc (.slice none 0 0))) rfl ?_
  refine s_assign (d := (sc (.int .i64 2))) rfl (AWops.nil (AW.ret ?_))
  obtain rfl := Option.some.inj h
  exact ⟨_, rfl, (Weak.gen (kk := 2) [0, 1, 3] [] rfl rfl (by decide) (by decide) rfl rfl rfl (le_upd (le_top _) (DLe.tup (ac (TLe.one .nil) (ac (TLe.one .sc) an)))) (ac (.cells (fun h => h) (ac (.mp rfl) (ac .sc (ac .sc (ac .sc (ac .sc an)))))) (ac (.none _) (ac .map an))))⟩
 ·refine AW.cond_no rfl c2 (AW.seq (AW.region ?_))
  refine s_move (d := (D.one (C.ref 0 0))) rfl ?_
  refine s_nilCheck (d := (D.one (C.ref 0 0))) rfl (.inl ⟨_, _, rfl⟩) ?_
  refine s_fieldRef F.fo_50_4 (by decide) rfl ?_
  refine s_load1 (c' := (C.p true (.v (.bool r1.2.dead)))) F.ag_4 rfl rfl ?_
  refine s_assign (d := (sc (.bool r1.2.dead))) rfl (AWops.nil ?_)
  rcases itH h with ⟨c3, h⟩ | ⟨c3, h⟩
  ·refine AW.cond_yes rfl c3 (AW.seq (AW.region ?_))
   refine s_assign (d := (sc (.slice none 0 0))) rfl ?_
   refine s_assign (d := (sc (.int .i64 70))) rfl (AWops.nil (AW.ret ?_))
   obtain rfl := Option.some.inj h
   exact ⟨_, rfl, (Weak.gen (kk := 2) [0, 1, 3] [] rfl rfl (by decide) (by decide) rfl rfl rfl (le_upd (le_top _) (DLe.tup (ac (TLe.one .nil) (ac (TLe.one .sc) an)))) (ac (.cells (fun h => h) (ac (.mp rfl) (ac .sc (ac .sc (ac .sc (ac .sc an)))))) (ac (.none _) (ac .map an))))⟩
  ·refine AW.cond_no rfl c3 (AW.skip (AW.seq (AW.region ?_)))
   refine s_move (d := (D.one (C.ref 0 0))) rfl ?_
   refine s_nilCheck (d := (D.one (C.ref 0 0))) rfl (.inl ⟨_, _, rfl⟩) ?_
   refine s_fieldRef F.fo_50_0 (by decide) rfl ?_
   refine s_load1 (c' := (C.mp 3)) F.ag_47 rfl rfl ?_
   refine s_move (d := (sc (.string a1))) rfl ?_
   refine t_lookupOk (b := true) F.u_47 F.u_9 F.z_65 (z := ((⟨([] : List Int), 0⟩ : vdisk_file) : vdisk_file)) (zs := [(.slice none 0 0), (.int .i64 0)]) rfl (fun h => by cases h) (ac ZRel.n (ac (ZRel.v _ rfl) an)) rfl rfl rfl rfl ?_
   refine s_move (d := (D.tup [(D.agg (c_vdisk_file ((mget a1 r1.2.files).getD ((⟨([] : List Int), 0⟩ : vdisk_file) : vdisk_file)))), (sc (.bool ((mget a1 r1.2.files).isSome)))])) rfl ?_
   refine s_extract (d := (D.agg (c_vdisk_file ((mget a1 r1.2.files).getD ((⟨([] : List Int), 0⟩ : vdisk_file) : vdisk_file))))) rfl rfl ?_
   refine s_extract (d := (sc (.bool ((mget a1 r1.2.files).isSome)))) rfl rfl ?_
   refine s_alloc (cs := [(C.p true (.v (.slice none 0 0))), (C.p true (.v (.int .i64 0)))]) F.z_65 rfl rfl ?_
   refine s_store (cs' := (c_vdisk_file ((mget a1 r1.2.files).getD ((⟨([] : List Int), 0⟩ : vdisk_file) : vdisk_file)))) rfl rfl rfl (List.cons_ne_nil _ _) rfl F.sz_65 (nl rfl) rfl ?_
   refine s_assign (d := (sc (.bool ((mget a1 r1.2.files).isSome)))) rfl (AWops.nil (AW.seq (AW.seq (AW.region ?_))))
   refine s_move (d := (sc (.bool ((mget a1 r1.2.files).isSome)))) rfl ?_
   refine s_not rfl (AWops.nil ?_)
   rcases itH h with ⟨c4, h⟩ | ⟨c4, h⟩
   ·refine AW.cond_no rfl (by rw [c4] <;> rfl) (AW.skip (AW.seq (AW.region ?_)))
    refine s_fieldRef F.fo_65_0 (by decide) rfl ?_
    refine s_load1 (c' := (C.p false (.sl (((mget a1 r1.2.files).getD ((⟨([] : List Int), 0⟩ : vdisk_file) : vdisk_file)).b).length ((((mget a1 r1.2.files).getD ((⟨([] : List Int), 0⟩ : vdisk_file) : vdisk_file)).b).flatMap e_u8)))) F.ag_22 rfl rfl ?_
    obtain ⟨r5, er5, h⟩ := bnd h
    refine s_call2 (ρ := []) (br := false) (H2 := [(some (AObj.cells false [(C.mp 3), (C.p true (.v (.int .i64 r1.2.room))), (C.p true (.v (.int .i64 r1.2.used))), (C.p true (.v (.pointer none))), (C.p true (.v (.bool r1.2.dead)))])), none, none, (some (AObj.map false (mapE true e_vdisk_file r1.2.files))), (some (AObj.cells true (c_vdisk_file ((mget a1 r1.2.files).getD ((⟨([] : List Int), 0⟩ : vdisk_file) : vdisk_file))))), (some (AObj.cells true (rowC e_u8 r5)))]) (d := (D.one (C.own 5 0 r5.length 1))) F.ca_36 rfl rfl (ac (.one .imm) an) an (by decide) rfl (slices_Clone_byte_byte.meets _ (((mget a1 r1.2.files).getD ((⟨([] : List Int), 0⟩ : vdisk_file) : vdisk_file)).b) r5 er5) (.inl rfl) (by first | rfl | (simp only [mergeH2, orF, Bool.false_or, Bool.or_false, Bool.true_or, Bool.or_true, mergeAt, mergeObj, renO, ren_row, List.drop_succ_cons, List.drop_zero, List.map_cons, List.map_nil, Option.map_some, Option.map_none, List.length_cons, List.length_nil, Nat.zero_add, List.append_assoc, List.cons_append, List.nil_append]; done) | (simp only [mergeH2, orF, Bool.false_or, Bool.or_false, Bool.true_or, Bool.or_true, mergeAt, mergeObj, renO, ren_row, List.drop_succ_cons, List.drop_zero, List.map_cons, List.map_nil, Option.map_some, Option.map_none, List.length_cons, List.length_nil, Nat.zero_add, List.append_assoc, List.cons_append, List.nil_append]; rfl)) rfl ?_
    refine s_assign (d := (D.one (C.own 5 0 r5.length 1))) rfl ?_
    refine s_assign (d := (sc (.int .i64 0))) rfl (AWops.nil (AW.ret ?_))
    obtain rfl := Option.some.inj h
    exact ⟨_, rfl, (Weak.gen (kk := 2) [0, 1, 3] [5] rfl rfl (by decide) (by decide) rfl rfl rfl (le_upd (le_top _) (DLe.tup (ac (TLe.one (CLe.frz e_u8_len rfl rfl rfl)) (ac (TLe.one .sc) an)))) (ac (.cells (fun h => h) (ac (.mp rfl) (ac .sc (ac .sc (ac .sc (ac .sc an)))))) (ac (.none _) (ac .map an))))⟩
   ·refine AW.cond_yes rfl (by rw [c4] <;> rfl) (AW.seq (AW.region ?_))
    refine s_assign (d := (sc (.slice none 0 0))) rfl ?_
    refine s_assign (d := (sc (.int .i64 33))) rfl (AWops.nil (AW.ret ?_))
    obtain rfl := Option.some.inj h
    exact ⟨_, rfl, (Weak.gen (kk := 2) [0, 1, 3] [] rfl rfl (by decide) (by decide) rfl rfl rfl (le_upd (le_top _) (DLe.tup (ac (TLe.one .nil) (ac (TLe.one .sc) an)))) (ac (.cells (fun h => h) (ac (.mp rfl) (ac .sc (ac .sc (ac .sc (ac .sc an)))))) (ac (.none _) (ac .map an))))⟩
def dossierlaw03_awake.f (k : Nat) : Option Bool := (vdisk_New_8.f k).bind fun r1 => if (r1.2 != 0) = true then (some false) else ((vdisk_Disk_Append_9.f k r1.1 (⟨#[97]⟩ : ByteArray) ([97, 98, 99] : List Int)).bind fun r3 => if (r3.1 != 0) = true then (some false) else ((vdisk_Disk_Crash_11.f k r3.2 ([2] : List Int)).bind fun r5 => if (r5.1 != 0) = true then (some false) else ((vdisk_Disk_Read_12.f k r5.2 (⟨#[97]⟩ : ByteArray)).bind fun r7 => if (r7.2.1 == 0) = true then (some ((ofNums r7.1).toList == (⟨#[97, 98]⟩ : ByteArray).toList)) else (some false))))
theorem dossierlaw03_awake.meets (k : Nat) (r : Bool) (h : dossierlaw03_awake.f k = some r) : Meets Try.prog 14 [] [] (sc (.bool r)) [] := by
 unfold dossierlaw03_awake.f at h
 refine Meets.of_body (n := 35) Try.func14 rfl rfl (nl rfl) fun x hx => ?_
 replace hx : x.k = 0 := hx
 show AW _ x _ _ ⟨35, fr0 [], []⟩
 refine AW.seq (AW.region ?_)
 refine s_assign (d := (sc (.bool false))) rfl (AWops.nil (AW.seq (AW.region ?_)))
 obtain ⟨r1, er1, h⟩ := bnd h
 refine s_call2 (ρ := []) (br := false) (H2 := [(some (AObj.cells true [(C.mp 1), (C.p true (.v (.int .i64 r1.1.room))), (C.p true (.v (.int .i64 r1.1.used))), (C.p true (.v (.pointer none))), (C.p true (.v (.bool r1.1.dead)))])), (some (AObj.map false (mapE true e_vdisk_file r1.1.files)))]) (d := (D.tup [(D.one (C.ref 0 0)), (sc (.int .i64 r1.2))])) F.ca_8 rfl rfl (ac (.one .sc) an) an (by decide) rfl (vdisk_New_8.meets _  r1 er1) (.inl rfl) rfl rfl ?_
 refine s_move (d := (D.tup [(D.one (C.ref 0 0)), (sc (.int .i64 r1.2))])) rfl ?_
 refine s_extract (d := (D.one (C.ref 0 0))) rfl rfl ?_
 refine s_extract (d := (sc (.int .i64 r1.2))) rfl rfl ?_
 refine s_assign (d := (D.one (C.ref 0 0))) rfl ?_
 refine s_assign (d := (sc (.int .i64 r1.2))) rfl (AWops.nil (AW.seq (AW.seq (AW.region ?_))))
 refine s_move (d := (sc (.int .i64 r1.2))) rfl ?_
 refine s_binI (v := (.bool (r1.2 != 0))) rfl rfl rfl ?_
 refine s_move (d := (sc (.bool (r1.2 != 0)))) rfl ?_
 rcases itH h with ⟨c2, h⟩ | ⟨c2, h⟩
 ·iterate 5 refine AWops.guard_no rfl (nl rfl) rfl c2 ?_
  refine s_pick_yes (d := (sc (.bool true))) rfl c2 rfl ?_
  refine s_move (d := (sc (.bool true))) rfl ?_
  iterate 4 refine AWops.guard_no rfl (nl rfl) rfl rfl ?_
  refine s_pick_yes (d := (sc (.bool true))) rfl rfl rfl (AWops.nil ?_)
  refine AW.cond_yes rfl rfl (AW.seq (AW.region ?_))
  refine s_assign (d := (sc (.bool false))) rfl (AWops.nil (AW.ret ?_))
  obtain rfl := Option.some.inj h
  exact ⟨_, rfl, (Weak.gen (kk := 0) [] [] rfl rfl (by decide) (by decide) rfl rfl rfl (le_upd (le_top _) (.t (.one .sc))) an)⟩
 ·refine AWops.guard_yes rfl (nl rfl) rfl c2 ?_
  refine s_move (d := (D.one (C.ref 0 0))) rfl ?_
  refine AWops.guard_yes rfl (nl rfl) rfl c2 ?_
  refine s_buildSlice (n := 3) (ps := [(0, (sc (.int .u8 97))), (1, (sc (.int .u8 98))), (2, (sc (.int .u8 99)))]) (cs := rowC e_u8 ([97, 98, 99] : List Int)) F.u_22 F.sz_5 F.z_5 rfl rfl (by decide) (by decide) rfl rfl ?_
  refine AWops.guard_yes rfl (nl rfl) rfl c2 ?_
  refine t_convConst (xs := ([97, 98, 99] : List Int)) F.u_22 F.u_5 rfl rfl rfl (by decide) rfl ?_
  refine AWops.guard_yes rfl (nl rfl) rfl c2 ?_
  obtain ⟨r3, er3, h⟩ := bnd h
  refine s_call2 (ρ := [0, 1]) (br := false) (H2 := [(some (AObj.cells true [(C.mp 3), (C.p true (.v (.int .i64 r3.2.room))), (C.p true (.v (.int .i64 r3.2.used))), (C.p true (.v (.pointer none))), (C.p true (.v (.bool r3.2.dead)))])), none, none, (some (AObj.map false (mapE true e_vdisk_file r3.2.files)))]) (d := (sc (.int .i64 r3.1))) F.ca_9 rfl rfl (ac (.one (.ref rfl)) (ac (.one .sc) (ac (.one .imm) an))) (ac (.cells (ac (.mp rfl) (ac .sc (ac .sc (ac .sc (ac .sc an)))))) (ac .map an)) (by decide) rfl (vdisk_Disk_Append_9.meets _ r1.1 (⟨#[97]⟩ : ByteArray) ([97, 98, 99] : List Int) r3 er3) (.inl rfl) rfl rfl ?_
  refine AWops.guard_yes rfl (nl rfl) rfl c2 ?_
  refine s_binI (v := (.bool (r3.1 != 0))) rfl rfl rfl ?_
  refine s_pick_no (d := (sc (.bool (r3.1 != 0)))) rfl c2 rfl ?_
  refine s_move (d := (sc (.bool (r3.1 != 0)))) rfl ?_
  rcases itH h with ⟨c4, h⟩ | ⟨c4, h⟩
  ·iterate 4 refine AWops.guard_no rfl (nl rfl) rfl c4 ?_
   refine s_pick_yes (d := (sc (.bool true))) rfl c4 rfl (AWops.nil ?_)
   refine AW.cond_yes rfl rfl (AW.seq (AW.region ?_))
   refine s_assign (d := (sc (.bool false))) rfl (AWops.nil (AW.ret ?_))
   obtain rfl := Option.some.inj h
   exact ⟨_, rfl, (Weak.gen (kk := 0) [] [] rfl rfl (by decide) (by decide) rfl rfl rfl (le_upd (le_top _) (.t (.one .sc))) an)⟩
  ·refine AWops.guard_yes rfl (nl rfl) rfl c4 ?_
   refine s_move (d := (D.one (C.ref 0 0))) rfl ?_
   refine AWops.guard_yes rfl (nl rfl) rfl c4 ?_
   refine s_buildSlice (n := 1) (ps := [(0, (sc (.int .i64 2)))]) (cs := rowC e_i64 ([2] : List Int)) F.u_24 F.sz_3 F.z_3 rfl rfl (by decide) (by decide) rfl rfl ?_
   refine AWops.guard_yes rfl (nl rfl) rfl c4 ?_
   obtain ⟨r5, er5, h⟩ := bnd h
   refine AWops.weak (st' := ⟨35, (upd 35 (upd 35 (upd 35 (upd 35 (upd 35 (upd 35 (upd 35 (upd 35 (upd 35 (upd 35 (upd 35 (upd 35 (upd 35 (upd 35 (upd 35 (upd 35 (upd 35 (upd 35 topF 0 (sc (.bool false))) 1 (D.one (C.ref 0 0))) 2 (sc (.int .i64 r1.2))) 4 (D.tup [(D.one (C.ref 0 0)), (sc (.int .i64 r1.2))])) 5 (D.tup [(D.one (C.ref 0 0)), (sc (.int .i64 r1.2))])) 6 (D.one (C.ref 0 0))) 7 (sc (.int .i64 r1.2))) 8 (sc (.int .i64 r1.2))) 9 (sc (.bool (r1.2 != 0)))) 10 (sc (.bool (r1.2 != 0)))) 11 (D.one (C.ref 0 0))) 13 (D.one (C.p false (.sl ([97, 98, 99] : List Int).length (([97, 98, 99] : List Int).flatMap e_u8))))) 14 (sc (.int .i64 r3.1))) 15 (sc (.bool (r3.1 != 0)))) 16 (sc (.bool (r3.1 != 0)))) 17 (sc (.bool (r3.1 != 0)))) 18 (D.one (C.ref 0 0))) 19 (D.one (C.p false (.sl ([2] : List Int).length (([2] : List Int).flatMap e_i64))))), [(some (AObj.cells true [(C.mp 1), (C.p true (.v (.int .i64 r3.2.room))), (C.p true (.v (.int .i64 r3.2.used))), (C.p true (.v (.pointer none))), (C.p true (.v (.bool r3.2.dead)))])), (some (AObj.map false (mapE true e_vdisk_file r3.2.files)))]⟩) (Weak.gen (kk := 0) [0, 3] [4] hx rfl (by decide) (by decide) rfl rfl rfl (le_upd (le_upd (le_upd (le_upd (le_upd (le_upd (le_upd (le_upd (le_upd (le_upd (le_upd (le_upd (le_upd (le_upd (le_upd (le_upd (le_upd (le_upd (le_top _) (.t (.one .sc))) (.t (.one (.ref rfl)))) (.t (.one .sc))) (DLe.tup (ac (TLe.one (.ref rfl)) (ac (TLe.one .sc) an)))) (DLe.tup (ac (TLe.one (.ref rfl)) (ac (TLe.one .sc) an)))) (.t (.one (.ref rfl)))) (.t (.one .sc))) (.t (.one .sc))) (.t (.one .sc))) (.t (.one .sc))) (.t (.one (.ref rfl)))) (.t (.one .same))) (.t (.one .sc))) (.t (.one .sc))) (.t (.one .sc))) (.t (.one .sc))) (.t (.one (.ref rfl)))) (.t (.one (CLe.frz e_i64_len rfl rfl rfl)))) (ac (.cells (fun h => h) (ac (.mp rfl) (ac .sc (ac .sc (ac .sc (ac .sc an)))))) (ac .map an))) ?_
   refine s_call2 (ρ := [0, 1]) (br := false) (H2 := [(some (AObj.cells true [(C.mp 2), (C.p true (.v (.int .i64 r5.2.room))), (C.p true (.v (.int .i64 r5.2.used))), (C.p true (.v (.pointer none))), (C.p true (.v (.bool r5.2.dead)))])), none, (some (AObj.map false (mapE true e_vdisk_file r5.2.files)))]) (d := (sc (.int .i64 r5.1))) F.ca_11 rfl rfl (ac (.one (.ref rfl)) (ac (.one .imm) an)) (ac (.cells (ac (.mp rfl) (ac .sc (ac .sc (ac .sc (ac .sc an)))))) (ac .map an)) (by decide) rfl (vdisk_Disk_Crash_11.meets _ r3.2 ([2] : List Int) r5 er5) (.inl rfl) rfl rfl ?_
   refine AWops.guard_yes rfl (nl rfl) rfl c4 ?_
   refine s_binI (v := (.bool (r5.1 != 0))) rfl rfl rfl ?_
   refine s_pick_no (d := (sc (.bool (r5.1 != 0)))) rfl c4 rfl (AWops.nil ?_)
   rcases itH h with ⟨c6, h⟩ | ⟨c6, h⟩
   ·refine AW.cond_yes rfl c6 (AW.seq (AW.region ?_))
    refine s_assign (d := (sc (.bool false))) rfl (AWops.nil (AW.ret ?_))
    obtain rfl := Option.some.inj h
    exact ⟨_, rfl, (Weak.gen (kk := 0) [] [] rfl rfl (by decide) (by decide) rfl rfl rfl (le_upd (le_top _) (.t (.one .sc))) an)⟩
   ·refine AW.cond_no rfl c6 (AW.skip (AW.seq (AW.region ?_)))
    refine s_move (d := (D.one (C.ref 0 0))) rfl ?_
    obtain ⟨r7, er7, h⟩ := bnd h
    refine s_call2 (ρ := [0, 2]) (br := false) (H2 := [(some (AObj.cells true [(C.mp 3), (C.p true (.v (.int .i64 r7.2.2.room))), (C.p true (.v (.int .i64 r7.2.2.used))), (C.p true (.v (.pointer none))), (C.p true (.v (.bool r7.2.2.dead)))])), none, none, (some (AObj.map false (mapE true e_vdisk_file r7.2.2.files)))]) (d := (D.tup [(D.one (C.p false (.sl r7.1.length (r7.1.flatMap e_u8)))), (sc (.int .i64 r7.2.1))])) F.ca_12 rfl rfl (ac (.one (.ref rfl)) (ac (.one .sc) an)) (ac (.cells (ac (.mp rfl) (ac .sc (ac .sc (ac .sc (ac .sc an)))))) (ac .map an)) (by decide) rfl (vdisk_Disk_Read_12.meets _ r5.2 (⟨#[97]⟩ : ByteArray) r7 er7) (.inl rfl) rfl rfl ?_
    refine s_move (d := (D.tup [(D.one (C.p false (.sl r7.1.length (r7.1.flatMap e_u8)))), (sc (.int .i64 r7.2.1))])) rfl ?_
    refine s_extract (d := (D.one (C.p false (.sl r7.1.length (r7.1.flatMap e_u8))))) rfl rfl ?_
    refine s_extract (d := (sc (.int .i64 r7.2.1))) rfl rfl ?_
    refine s_assign (d := (D.one (C.p false (.sl r7.1.length (r7.1.flatMap e_u8))))) rfl ?_
    refine s_assign (d := (sc (.int .i64 r7.2.1))) rfl (AWops.nil (AW.seq (AW.region ?_)))
    refine s_move (d := (sc (.int .i64 r7.2.1))) rfl ?_
    refine s_binI (v := (.bool (r7.2.1 == 0))) rfl rfl rfl ?_
    refine s_move (d := (sc (.bool (r7.2.1 == 0)))) rfl ?_
    rcases itH h with ⟨c8, h⟩ | ⟨c8, h⟩
    ·refine AWops.guard_yes rfl (nl rfl) rfl c8 ?_
     refine s_move (d := (D.one (C.p false (.sl r7.1.length (r7.1.flatMap e_u8))))) rfl ?_
     refine AWops.guard_yes rfl (nl rfl) rfl c8 ?_
     refine t_toStr (xs := r7.1) F.u_22 F.u_5 F.u_9 .imm ?_
     refine AWops.guard_yes rfl (nl rfl) rfl c8 ?_
     refine s_binS (v := (.bool ((ofNums r7.1).toList == (⟨#[97, 98]⟩ : ByteArray).toList))) rfl rfl rfl ?_
     refine s_pick_yes (d := (sc (.bool ((ofNums r7.1).toList == (⟨#[97, 98]⟩ : ByteArray).toList)))) rfl c8 rfl ?_
     refine s_assign (d := (sc (.bool ((ofNums r7.1).toList == (⟨#[97, 98]⟩ : ByteArray).toList)))) rfl (AWops.nil (AW.ret ?_))
     obtain rfl := Option.some.inj h
     exact ⟨_, rfl, (Weak.gen (kk := 0) [] [] rfl rfl (by decide) (by decide) rfl rfl rfl (le_upd (le_top _) (.t (.one .sc))) an)⟩
    ·iterate 3 refine AWops.guard_no rfl (nl rfl) rfl c8 ?_
     refine s_pick_no (d := (sc (.bool false))) rfl c8 rfl ?_
     refine s_assign (d := (sc (.bool false))) rfl (AWops.nil (AW.ret ?_))
     obtain rfl := Option.some.inj h
     exact ⟨_, rfl, (Weak.gen (kk := 0) [] [] rfl rfl (by decide) (by decide) rfl rfl rfl (le_upd (le_top _) (.t (.one .sc))) an)⟩
def dossierlaw03_VdiskNobody.f (k : Nat) (a0 : dossierplain_Step) : Option Bool := (vdisk_Disk_Read_nil0.f k a0.Name).bind fun r1 => (vdisk_Disk_Append_nil0.f k a0.Name a0.B).bind fun r2 => (vdisk_Disk_Sync_nil0.f k a0.Name).bind fun r3 => (vdisk_Disk_Rename_nil0.f k a0.Name a0.To).bind fun r4 => (vdisk_Disk_Truncate_nil0.f k a0.Name a0.N).bind fun r5 => (vdisk_Disk_Remove_nil0.f k a0.Name).bind fun r6 => if (decide ((r1.1.length : Int) > 0)) = true then (some false) else (if (r1.2 != 2) = true then (some false) else ((vdisk_Disk_Fuse_nil0.f k a0.N).bind fun r9 => (vdisk_Disk_Room_nil0.f k a0.N).bind fun r10 => (vdisk_Disk_Crash_nil0.f k a0.Keeps).bind fun r11 => (vdisk_Disk_Dead_nil0.f k).bind fun r12 => (vdisk_Disk_Names_nil0.f k).bind fun r13 => (vdisk_Disk_Used_nil0.f k).bind fun r14 => if ((IntKind.i64.wrap ((r13.length : Int) + 0)) != 0) = true then (some false) else ((vdisk_Disk_Copy_nil0.f k).bind fun r16 => (vdisk_Disk_Read.f k (⟨([] : List (ByteArray × vdisk_file)), 0, 0, (), false⟩ : vdisk_Disk) a0.Name).bind fun r17 => (vdisk_Disk_Append.f k (⟨([] : List (ByteArray × vdisk_file)), r17.2.2.room, r17.2.2.used, (), r17.2.2.dead⟩ : vdisk_Disk) a0.Name a0.B).bind fun r18 => if (r18.1 == 2) = true then ((vdisk_Disk_Sync.f k (⟨([] : List (ByteArray × vdisk_file)), r18.2.room, r18.2.used, (), r18.2.dead⟩ : vdisk_Disk) a0.Name).bind fun r20 => if (r20.1 == 2) = true then ((vdisk_Disk_Rename.f k (⟨([] : List (ByteArray × vdisk_file)), r20.2.room, r20.2.used, (), r20.2.dead⟩ : vdisk_Disk) a0.Name a0.To).bind fun r22 => if (r22.1 == 2) = true then ((vdisk_Disk_Truncate.f k (⟨([] : List (ByteArray × vdisk_file)), r22.2.room, r22.2.used, (), r22.2.dead⟩ : vdisk_Disk) a0.Name a0.N).bind fun r24 => if (r24.1 == 2) = true then ((vdisk_Disk_Remove.f k (⟨([] : List (ByteArray × vdisk_file)), r24.2.room, r24.2.used, (), r24.2.dead⟩ : vdisk_Disk) a0.Name).bind fun r26 => if (r26.1 == 2) = true then (if (decide ((r17.1.length : Int) > 0)) = true then (some false) else (if (r17.2.1 != 2) = true then (some false) else ((vdisk_Disk_Fuse.f k (⟨([] : List (ByteArray × vdisk_file)), r26.2.room, r26.2.used, (), r26.2.dead⟩ : vdisk_Disk) a0.N).bind fun r30 => if (r30.1 != 2) = true then (some false) else ((vdisk_Disk_Room.f k (⟨([] : List (ByteArray × vdisk_file)), r30.2.room, r30.2.used, (), r30.2.dead⟩ : vdisk_Disk) a0.N).bind fun r32 => if (r32.1 != 2) = true then (some false) else ((vdisk_Disk_Crash.f k (⟨([] : List (ByteArray × vdisk_file)), r32.2.room, r32.2.used, (), r32.2.dead⟩ : vdisk_Disk) a0.Keeps).bind fun r34 => if (r34.1 != 2) = true then (some false) else ((vdisk_Disk_Dead.f k (⟨([] : List (ByteArray × vdisk_file)), r34.2.room, r34.2.used, (), r34.2.dead⟩ : vdisk_Disk)).bind fun r36 => if r36.1 = true then ((vdisk_Disk_Names.f k (⟨([] : List (ByteArray × vdisk_file)), r36.2.room, r36.2.used, (), r36.2.dead⟩ : vdisk_Disk)).bind fun r38 => (vdisk_Disk_Used.f k (⟨([] : List (ByteArray × vdisk_file)), r38.2.room, r38.2.used, (), r38.2.dead⟩ : vdisk_Disk)).bind fun r39 => if ((IntKind.i64.wrap ((r38.1.length : Int) + r39.1)) != 0) = true then (some false) else ((vdisk_Disk_Copy.f k (⟨([] : List (ByteArray × vdisk_file)), r39.2.room, r39.2.used, (), r39.2.dead⟩ : vdisk_Disk)).bind fun r41 => (dossierlaw03_awake.f k).bind fun r42 => some r42)) else (some false))))))) else (some false)) else (some false)) else (some false)) else (some false)) else (some false))))
theorem dossierlaw03_VdiskNobody.meets (k : Nat) (a0 : dossierplain_Step) (r : Bool) (h : dossierlaw03_VdiskNobody.f k a0 = some r) : Meets Try.prog 5 [(D.agg (c_dossierplain_Step a0))] [] (sc (.bool r)) [] := by
 unfold dossierlaw03_VdiskNobody.f at h
 refine Meets.of_body (n := 115) Try.func5 rfl rfl (nl rfl) fun x hx => ?_
 replace hx : x.k = 0 := hx
 show AW _ x _ _ ⟨115, fr0 [(D.agg (c_dossierplain_Step a0))], []⟩
 refine AW.seq (AW.region ?_)
 refine s_box (cs := (c_dossierplain_Step a0)) rfl (List.cons_ne_nil _ _) rfl ?_
 refine s_assign (d := (sc (.bool false))) rfl (AWops.nil (AW.seq (AW.seq (AW.region ?_))))
 refine s_build (ps := []) (cs := [(C.p true (.v (.map none))), (C.p true (.v (.int .i64 0))), (C.p true (.v (.int .i64 0))), (C.p true (.v (.pointer none))), (C.p true (.v (.bool false)))]) F.z_50 rfl F.so_50 rfl rfl ?_
 refine s_box (cs := [(C.p true (.v (.map none))), (C.p true (.v (.int .i64 0))), (C.p true (.v (.int .i64 0))), (C.p true (.v (.pointer none))), (C.p true (.v (.bool false)))]) rfl (List.cons_ne_nil _ _) rfl ?_
 refine s_buildSlice (n := 2) (ps := [(0, (sc (.pointer none))), (1, (D.one (C.ref 1 0)))]) (cs := [(C.p true (.v (.pointer none))), (C.ref 1 0)]) F.u_51 F.sz_25 F.z_25 rfl rfl (by decide) (by decide) rfl rfl ?_
 refine s_len (n := 2) F.u_51 rfl (.inr ⟨(fun _ _ h => by cases h), ⟨_, rfl⟩⟩) ?_
 refine s_move (d := (sc (.int .i64 0))) rfl (AWops.nil (AW.block ?_))
 refine AW.unroll 9 ?_
 refine U.step (AW.seq (AW.region ?_))
 refine s_binI (v := (.bool true)) rfl rfl rfl (AWops.nil (AW.seq ?_))
 refine AW.cond_yes rfl rfl (AW.skip (AW.seq (AW.block (AW.seq (AW.region ?_)))))
 refine s_indexOwn (d := (D.one (C.ref 2 0))) F.u_51 F.sz_25 rfl rfl (by decide) (by decide) rfl ?_
 refine s_load1 (c' := (C.p true (.v (.pointer none)))) F.ag_25 rfl rfl ?_
 refine s_assign (d := (sc (.pointer none))) rfl (AWops.nil (AW.seq (AW.region ?_)))
 refine s_move (d := (sc (.pointer none))) rfl ?_
 refine s_fieldRef F.fo_43_2 (by decide) rfl ?_
 refine s_load1 (c' := (C.p true (.v (.string a0.Name)))) F.ag_9 rfl rfl ?_
 obtain ⟨r1, er1, h⟩ := bnd h
 refine s_call2 (ρ := []) (br := false) (H2 := [(some (AObj.cells true (c_dossierplain_Step a0))), (some (AObj.cells true [(C.p true (.v (.map none))), (C.p true (.v (.int .i64 0))), (C.p true (.v (.int .i64 0))), (C.p true (.v (.pointer none))), (C.p true (.v (.bool false)))])), (some (AObj.cells true [(C.p true (.v (.pointer none))), (C.ref 1 0)]))]) (d := (D.tup [(D.one (C.p false (.sl r1.1.length (r1.1.flatMap e_u8)))), (sc (.int .i64 r1.2))])) F.ca_12 rfl rfl (ac (.one .sc) (ac (.one .sc) an)) an (by decide) rfl (vdisk_Disk_Read_nil0.meets _ a0.Name r1 er1) (.inl rfl) rfl rfl ?_
 refine s_move (d := (D.tup [(D.one (C.p false (.sl r1.1.length (r1.1.flatMap e_u8)))), (sc (.int .i64 r1.2))])) rfl ?_
 refine s_extract (d := (D.one (C.p false (.sl r1.1.length (r1.1.flatMap e_u8))))) rfl rfl ?_
 refine s_extract (d := (sc (.int .i64 r1.2))) rfl rfl ?_
 refine s_assign (d := (D.one (C.p false (.sl r1.1.length (r1.1.flatMap e_u8))))) rfl ?_
 refine s_assign (d := (sc (.int .i64 r1.2))) rfl (AWops.nil (AW.seq (AW.region ?_)))
 refine s_move (d := (sc (.pointer none))) rfl ?_
 refine s_fieldRef F.fo_43_2 (by decide) rfl ?_
 refine s_load1 (c' := (C.p true (.v (.string a0.Name)))) F.ag_9 rfl rfl ?_
 refine s_fieldRef F.fo_43_4 (by decide) rfl ?_
 refine s_load1 (c' := (C.p false (.sl a0.B.length (a0.B.flatMap e_u8)))) F.ag_22 rfl rfl ?_
 obtain ⟨r2, er2, h⟩ := bnd h
 have kr2 := vdisk_Disk_Append_nil0.const er2
 subst kr2
 refine s_call2 (ρ := []) (br := false) (H2 := [(some (AObj.cells true (c_dossierplain_Step a0))), (some (AObj.cells true [(C.p true (.v (.map none))), (C.p true (.v (.int .i64 0))), (C.p true (.v (.int .i64 0))), (C.p true (.v (.pointer none))), (C.p true (.v (.bool false)))])), (some (AObj.cells true [(C.p true (.v (.pointer none))), (C.ref 1 0)]))]) (d := (sc (.int .i64 2))) F.ca_9 rfl rfl (ac (.one .sc) (ac (.one .sc) (ac (.one .imm) an))) an (by decide) rfl (vdisk_Disk_Append_nil0.meets _ a0.Name a0.B 2 er2) (.inl rfl) rfl rfl ?_
 refine s_binI (v := (.bool true)) rfl rfl rfl ?_
 refine s_move (d := (sc (.bool true))) rfl ?_
 refine AWops.guard_yes rfl (nl rfl) rfl rfl ?_
 refine s_move (d := (sc (.pointer none))) rfl ?_
 refine AWops.guard_yes rfl (nl rfl) rfl rfl ?_
 refine s_fieldRef F.fo_43_2 (by decide) rfl ?_
 refine AWops.guard_yes rfl (nl rfl) rfl rfl ?_
 refine s_load1 (c' := (C.p true (.v (.string a0.Name)))) F.ag_9 rfl rfl ?_
 refine AWops.guard_yes rfl (nl rfl) rfl rfl ?_
 obtain ⟨r3, er3, h⟩ := bnd h
 have kr3 := vdisk_Disk_Sync_nil0.const er3
 subst kr3
 refine s_call2 (ρ := []) (br := false) (H2 := [(some (AObj.cells true (c_dossierplain_Step a0))), (some (AObj.cells true [(C.p true (.v (.map none))), (C.p true (.v (.int .i64 0))), (C.p true (.v (.int .i64 0))), (C.p true (.v (.pointer none))), (C.p true (.v (.bool false)))])), (some (AObj.cells true [(C.p true (.v (.pointer none))), (C.ref 1 0)]))]) (d := (sc (.int .i64 2))) F.ca_10 rfl rfl (ac (.one .sc) (ac (.one .sc) an)) an (by decide) rfl (vdisk_Disk_Sync_nil0.meets _ a0.Name 2 er3) (.inl rfl) rfl rfl ?_
 refine AWops.guard_yes rfl (nl rfl) rfl rfl ?_
 refine s_binI (v := (.bool true)) rfl rfl rfl ?_
 refine s_pick_yes (d := (sc (.bool true))) rfl rfl rfl ?_
 refine s_move (d := (sc (.bool true))) rfl ?_
 refine AWops.guard_yes rfl (nl rfl) rfl rfl ?_
 refine s_move (d := (sc (.pointer none))) rfl ?_
 refine AWops.guard_yes rfl (nl rfl) rfl rfl ?_
 refine s_fieldRef F.fo_43_2 (by decide) rfl ?_
 refine AWops.guard_yes rfl (nl rfl) rfl rfl ?_
 refine s_load1 (c' := (C.p true (.v (.string a0.Name)))) F.ag_9 rfl rfl ?_
 refine AWops.guard_yes rfl (nl rfl) rfl rfl ?_
 refine s_fieldRef F.fo_43_3 (by decide) rfl ?_
 refine AWops.guard_yes rfl (nl rfl) rfl rfl ?_
 refine s_load1 (c' := (C.p true (.v (.string a0.To)))) F.ag_9 rfl rfl ?_
 refine AWops.guard_yes rfl (nl rfl) rfl rfl ?_
 obtain ⟨r4, er4, h⟩ := bnd h
 have kr4 := vdisk_Disk_Rename_nil0.const er4
 subst kr4
 refine s_call2 (ρ := []) (br := false) (H2 := [(some (AObj.cells true (c_dossierplain_Step a0))), (some (AObj.cells true [(C.p true (.v (.map none))), (C.p true (.v (.int .i64 0))), (C.p true (.v (.int .i64 0))), (C.p true (.v (.pointer none))), (C.p true (.v (.bool false)))])), (some (AObj.cells true [(C.p true (.v (.pointer none))), (C.ref 1 0)]))]) (d := (sc (.int .i64 2))) F.ca_18 rfl rfl (ac (.one .sc) (ac (.one .sc) (ac (.one .sc) an))) an (by decide) rfl (vdisk_Disk_Rename_nil0.meets _ a0.Name a0.To 2 er4) (.inl rfl) rfl rfl ?_
 refine AWops.guard_yes rfl (nl rfl) rfl rfl ?_
 refine s_binI (v := (.bool true)) rfl rfl rfl ?_
 refine s_pick_yes (d := (sc (.bool true))) rfl rfl rfl ?_
 refine s_move (d := (sc (.bool true))) rfl ?_
 refine AWops.guard_yes rfl (nl rfl) rfl rfl ?_
 refine s_move (d := (sc (.pointer none))) rfl ?_
 refine AWops.guard_yes rfl (nl rfl) rfl rfl ?_
 refine s_fieldRef F.fo_43_2 (by decide) rfl ?_
 refine AWops.guard_yes rfl (nl rfl) rfl rfl ?_
 refine s_load1 (c' := (C.p true (.v (.string a0.Name)))) F.ag_9 rfl rfl ?_
 refine AWops.guard_yes rfl (nl rfl) rfl rfl ?_
 refine s_fieldRef F.fo_43_1 (by decide) rfl ?_
 refine AWops.guard_yes rfl (nl rfl) rfl rfl ?_
 refine s_load1 (c' := (C.p true (.v (.int .i64 a0.N)))) F.ag_3 rfl rfl ?_
 refine AWops.guard_yes rfl (nl rfl) rfl rfl ?_
 obtain ⟨r5, er5, h⟩ := bnd h
 have kr5 := vdisk_Disk_Truncate_nil0.const er5
 subst kr5
 refine s_call2 (ρ := []) (br := false) (H2 := [(some (AObj.cells true (c_dossierplain_Step a0))), (some (AObj.cells true [(C.p true (.v (.map none))), (C.p true (.v (.int .i64 0))), (C.p true (.v (.int .i64 0))), (C.p true (.v (.pointer none))), (C.p true (.v (.bool false)))])), (some (AObj.cells true [(C.p true (.v (.pointer none))), (C.ref 1 0)]))]) (d := (sc (.int .i64 2))) F.ca_19 rfl rfl (ac (.one .sc) (ac (.one .sc) (ac (.one .sc) an))) an (by decide) rfl (vdisk_Disk_Truncate_nil0.meets _ a0.Name a0.N 2 er5) (.inl rfl) rfl rfl ?_
 refine AWops.guard_yes rfl (nl rfl) rfl rfl ?_
 refine s_binI (v := (.bool true)) rfl rfl rfl ?_
 refine s_pick_yes (d := (sc (.bool true))) rfl rfl rfl ?_
 refine s_move (d := (sc (.bool true))) rfl ?_
 refine AWops.guard_yes rfl (nl rfl) rfl rfl ?_
 refine s_move (d := (sc (.pointer none))) rfl ?_
 refine AWops.guard_yes rfl (nl rfl) rfl rfl ?_
 refine s_fieldRef F.fo_43_2 (by decide) rfl ?_
 refine AWops.guard_yes rfl (nl rfl) rfl rfl ?_
 refine s_load1 (c' := (C.p true (.v (.string a0.Name)))) F.ag_9 rfl rfl ?_
 refine AWops.guard_yes rfl (nl rfl) rfl rfl ?_
 obtain ⟨r6, er6, h⟩ := bnd h
 have kr6 := vdisk_Disk_Remove_nil0.const er6
 subst kr6
 refine s_call2 (ρ := []) (br := false) (H2 := [(some (AObj.cells true (c_dossierplain_Step a0))), (some (AObj.cells true [(C.p true (.v (.map none))), (C.p true (.v (.int .i64 0))), (C.p true (.v (.int .i64 0))), (C.p true (.v (.pointer none))), (C.p true (.v (.bool false)))])), (some (AObj.cells true [(C.p true (.v (.pointer none))), (C.ref 1 0)]))]) (d := (sc (.int .i64 2))) F.ca_20 rfl rfl (ac (.one .sc) (ac (.one .sc) an)) an (by decide) rfl (vdisk_Disk_Remove_nil0.meets _ a0.Name 2 er6) (.inl rfl) rfl rfl ?_
 refine AWops.guard_yes rfl (nl rfl) rfl rfl ?_
 refine s_binI (v := (.bool true)) rfl rfl rfl ?_
 refine s_pick_yes (d := (sc (.bool true))) rfl rfl rfl ?_
 refine s_assign (d := (sc (.bool true))) rfl (AWops.nil (AW.seq (AW.region ?_)))
 refine s_move (d := (sc (.bool true))) rfl ?_
 refine s_not rfl ?_
 refine s_move (d := (sc (.bool false))) rfl ?_
 refine AWops.guard_yes rfl (nl rfl) rfl rfl ?_
 refine s_move (d := (D.one (C.p false (.sl r1.1.length (r1.1.flatMap e_u8))))) rfl ?_
 refine AWops.guard_yes rfl (nl rfl) rfl rfl ?_
 refine s_len (n := r1.1.length) F.u_22 rfl (.inr ⟨(fun _ _ h => by cases h), ⟨_, rfl⟩⟩) ?_
 refine AWops.guard_yes rfl (nl rfl) rfl rfl ?_
 refine s_binI (v := (.bool (decide ((r1.1.length : Int) > 0)))) rfl rfl rfl ?_
 refine s_pick_no (d := (sc (.bool (decide ((r1.1.length : Int) > 0))))) rfl rfl rfl ?_
 refine s_move (d := (sc (.bool (decide ((r1.1.length : Int) > 0))))) rfl ?_
 rcases itH h with ⟨c7, h⟩ | ⟨c7, h⟩
 ·refine AWops.guard_no rfl (nl rfl) rfl c7 ?_
  refine AWops.guard_no rfl (nl rfl) rfl c7 ?_
  refine s_pick_yes (d := (sc (.bool true))) rfl c7 rfl ?_
  refine s_move (d := (sc (.bool true))) rfl ?_
  iterate 5 refine AWops.guard_no rfl (nl rfl) rfl rfl ?_
  refine s_pick_yes (d := (sc (.bool true))) rfl rfl rfl ?_
  refine s_move (d := (sc (.bool true))) rfl ?_
  iterate 5 refine AWops.guard_no rfl (nl rfl) rfl rfl ?_
  refine s_pick_yes (d := (sc (.bool true))) rfl rfl rfl ?_
  refine s_move (d := (sc (.bool true))) rfl ?_
  iterate 5 refine AWops.guard_no rfl (nl rfl) rfl rfl ?_
  refine s_pick_yes (d := (sc (.bool true))) rfl rfl rfl ?_
  refine s_move (d := (sc (.bool true))) rfl ?_
  iterate 3 refine AWops.guard_no rfl (nl rfl) rfl rfl ?_
  refine s_pick_yes (d := (sc (.bool true))) rfl rfl rfl ?_
  refine s_move (d := (sc (.bool true))) rfl ?_
  iterate 7 refine AWops.guard_no rfl (nl rfl) rfl rfl ?_
  refine s_pick_yes (d := (sc (.bool true))) rfl rfl rfl ?_
  refine s_move (d := (sc (.bool true))) rfl ?_
  iterate 3 refine AWops.guard_no rfl (nl rfl) rfl rfl ?_
  refine s_pick_yes (d := (sc (.bool true))) rfl rfl rfl (AWops.nil ?_)
  refine AW.cond_yes rfl rfl (AW.seq (AW.region ?_))
  refine s_assign (d := (sc (.bool false))) rfl (AWops.nil (AW.ret ?_))
  obtain rfl := Option.some.inj h
  exact ⟨_, rfl, (Weak.gen (kk := 0) [] [] rfl rfl (by decide) (by decide) rfl rfl rfl (le_upd (le_top _) (.t (.one .sc))) an)⟩
 ·refine AWops.guard_yes rfl (nl rfl) rfl c7 ?_
  refine s_move (d := (sc (.int .i64 r1.2))) rfl ?_
  refine AWops.guard_yes rfl (nl rfl) rfl c7 ?_
  refine s_binI (v := (.bool (r1.2 != 2))) rfl rfl rfl ?_
  refine s_pick_no (d := (sc (.bool (r1.2 != 2)))) rfl c7 rfl ?_
  refine s_move (d := (sc (.bool (r1.2 != 2)))) rfl ?_
  rcases itH h with ⟨c8, h⟩ | ⟨c8, h⟩
  ·iterate 5 refine AWops.guard_no rfl (nl rfl) rfl c8 ?_
   refine s_pick_yes (d := (sc (.bool true))) rfl c8 rfl ?_
   refine s_move (d := (sc (.bool true))) rfl ?_
   iterate 5 refine AWops.guard_no rfl (nl rfl) rfl rfl ?_
   refine s_pick_yes (d := (sc (.bool true))) rfl rfl rfl ?_
   refine s_move (d := (sc (.bool true))) rfl ?_
   iterate 5 refine AWops.guard_no rfl (nl rfl) rfl rfl ?_
   refine s_pick_yes (d := (sc (.bool true))) rfl rfl rfl ?_
   refine s_move (d := (sc (.bool true))) rfl ?_
   iterate 3 refine AWops.guard_no rfl (nl rfl) rfl rfl ?_
   refine s_pick_yes (d := (sc (.bool true))) rfl rfl rfl ?_
   refine s_move (d := (sc (.bool true))) rfl ?_
   iterate 7 refine AWops.guard_no rfl (nl rfl) rfl rfl ?_
   refine s_pick_yes (d := (sc (.bool true))) rfl rfl rfl ?_
   refine s_move (d := (sc (.bool true))) rfl ?_
   iterate 3 refine AWops.guard_no rfl (nl rfl) rfl rfl ?_
   refine s_pick_yes (d := (sc (.bool true))) rfl rfl rfl (AWops.nil ?_)
   refine AW.cond_yes rfl rfl (AW.seq (AW.region ?_))
   refine s_assign (d := (sc (.bool false))) rfl (AWops.nil (AW.ret ?_))
   obtain rfl := Option.some.inj h
   exact ⟨_, rfl, (Weak.gen (kk := 0) [] [] rfl rfl (by decide) (by decide) rfl rfl rfl (le_upd (le_top _) (.t (.one .sc))) an)⟩
  ·refine AWops.guard_yes rfl (nl rfl) rfl c8 ?_
   refine s_move (d := (sc (.pointer none))) rfl ?_
   refine AWops.guard_yes rfl (nl rfl) rfl c8 ?_
   refine s_fieldRef F.fo_43_1 (by decide) rfl ?_
   refine AWops.guard_yes rfl (nl rfl) rfl c8 ?_
   refine s_load1 (c' := (C.p true (.v (.int .i64 a0.N)))) F.ag_3 rfl rfl ?_
   refine AWops.guard_yes rfl (nl rfl) rfl c8 ?_
   obtain ⟨r9, er9, h⟩ := bnd h
   have kr9 := vdisk_Disk_Fuse_nil0.const er9
   subst kr9
   refine s_call2 (ρ := []) (br := false) (H2 := [(some (AObj.cells true (c_dossierplain_Step a0))), (some (AObj.cells true [(C.p true (.v (.map none))), (C.p true (.v (.int .i64 0))), (C.p true (.v (.int .i64 0))), (C.p true (.v (.pointer none))), (C.p true (.v (.bool false)))])), (some (AObj.cells true [(C.p true (.v (.pointer none))), (C.ref 1 0)]))]) (d := (sc (.int .i64 2))) F.ca_21 rfl rfl (ac (.one .sc) (ac (.one .sc) an)) an (by decide) rfl (vdisk_Disk_Fuse_nil0.meets _ a0.N 2 er9) (.inl rfl) rfl rfl ?_
   refine AWops.guard_yes rfl (nl rfl) rfl c8 ?_
   refine s_binI (v := (.bool false)) rfl rfl rfl ?_
   refine s_pick_no (d := (sc (.bool false))) rfl c8 rfl ?_
   refine s_move (d := (sc (.bool false))) rfl ?_
   refine AWops.guard_yes rfl (nl rfl) rfl rfl ?_
   refine s_move (d := (sc (.pointer none))) rfl ?_
   refine AWops.guard_yes rfl (nl rfl) rfl rfl ?_
   refine s_fieldRef F.fo_43_1 (by decide) rfl ?_
   refine AWops.guard_yes rfl (nl rfl) rfl rfl ?_
   refine s_load1 (c' := (C.p true (.v (.int .i64 a0.N)))) F.ag_3 rfl rfl ?_
   refine AWops.guard_yes rfl (nl rfl) rfl rfl ?_
   obtain ⟨r10, er10, h⟩ := bnd h
   have kr10 := vdisk_Disk_Room_nil0.const er10
   subst kr10
   refine s_call2 (ρ := []) (br := false) (H2 := [(some (AObj.cells true (c_dossierplain_Step a0))), (some (AObj.cells true [(C.p true (.v (.map none))), (C.p true (.v (.int .i64 0))), (C.p true (.v (.int .i64 0))), (C.p true (.v (.pointer none))), (C.p true (.v (.bool false)))])), (some (AObj.cells true [(C.p true (.v (.pointer none))), (C.ref 1 0)]))]) (d := (sc (.int .i64 2))) F.ca_22 rfl rfl (ac (.one .sc) (ac (.one .sc) an)) an (by decide) rfl (vdisk_Disk_Room_nil0.meets _ a0.N 2 er10) (.inl rfl) rfl rfl ?_
   refine AWops.guard_yes rfl (nl rfl) rfl rfl ?_
   refine s_binI (v := (.bool false)) rfl rfl rfl ?_
   refine s_pick_no (d := (sc (.bool false))) rfl rfl rfl ?_
   refine s_move (d := (sc (.bool false))) rfl ?_
   refine AWops.guard_yes rfl (nl rfl) rfl rfl ?_
   refine s_move (d := (sc (.pointer none))) rfl ?_
   refine AWops.guard_yes rfl (nl rfl) rfl rfl ?_
   refine s_fieldRef F.fo_43_5 (by decide) rfl ?_
   refine AWops.guard_yes rfl (nl rfl) rfl rfl ?_
   refine s_load1 (c' := (C.p false (.sl a0.Keeps.length (a0.Keeps.flatMap e_i64)))) F.ag_24 rfl rfl ?_
   refine AWops.guard_yes rfl (nl rfl) rfl rfl ?_
   obtain ⟨r11, er11, h⟩ := bnd h
   have kr11 := vdisk_Disk_Crash_nil0.const er11
   subst kr11
   refine s_call2 (ρ := []) (br := false) (H2 := [(some (AObj.cells true (c_dossierplain_Step a0))), (some (AObj.cells true [(C.p true (.v (.map none))), (C.p true (.v (.int .i64 0))), (C.p true (.v (.int .i64 0))), (C.p true (.v (.pointer none))), (C.p true (.v (.bool false)))])), (some (AObj.cells true [(C.p true (.v (.pointer none))), (C.ref 1 0)]))]) (d := (sc (.int .i64 2))) F.ca_11 rfl rfl (ac (.one .sc) (ac (.one .imm) an)) an (by decide) rfl (vdisk_Disk_Crash_nil0.meets _ a0.Keeps 2 er11) (.inl rfl) rfl rfl ?_
   refine AWops.guard_yes rfl (nl rfl) rfl rfl ?_
   refine s_binI (v := (.bool false)) rfl rfl rfl ?_
   refine s_pick_no (d := (sc (.bool false))) rfl rfl rfl ?_
   refine s_move (d := (sc (.bool false))) rfl ?_
   refine AWops.guard_yes rfl (nl rfl) rfl rfl ?_
   refine s_move (d := (sc (.pointer none))) rfl ?_
   refine AWops.guard_yes rfl (nl rfl) rfl rfl ?_
   obtain ⟨r12, er12, h⟩ := bnd h
   have kr12 := vdisk_Disk_Dead_nil0.const er12
   subst kr12
   refine s_call2 (ρ := []) (br := false) (H2 := [(some (AObj.cells true (c_dossierplain_Step a0))), (some (AObj.cells true [(C.p true (.v (.map none))), (C.p true (.v (.int .i64 0))), (C.p true (.v (.int .i64 0))), (C.p true (.v (.pointer none))), (C.p true (.v (.bool false)))])), (some (AObj.cells true [(C.p true (.v (.pointer none))), (C.ref 1 0)]))]) (d := (sc (.bool true))) F.ca_23 rfl rfl (ac (.one .sc) an) an (by decide) rfl (vdisk_Disk_Dead_nil0.meets _  true er12) (.inl rfl) rfl rfl ?_
   refine AWops.guard_yes rfl (nl rfl) rfl rfl ?_
   refine s_not rfl ?_
   refine s_pick_no (d := (sc (.bool false))) rfl rfl rfl ?_
   refine s_move (d := (sc (.bool false))) rfl ?_
   refine AWops.guard_yes rfl (nl rfl) rfl rfl ?_
   refine s_move (d := (sc (.pointer none))) rfl ?_
   refine AWops.guard_yes rfl (nl rfl) rfl rfl ?_
   obtain ⟨r13, er13, h⟩ := bnd h
   refine s_call2 (ρ := []) (br := false) (H2 := [(some (AObj.cells true (c_dossierplain_Step a0))), (some (AObj.cells true [(C.p true (.v (.map none))), (C.p true (.v (.int .i64 0))), (C.p true (.v (.int .i64 0))), (C.p true (.v (.pointer none))), (C.p true (.v (.bool false)))])), (some (AObj.cells true [(C.p true (.v (.pointer none))), (C.ref 1 0)])), (some (AObj.cells true (rowC e_str r13)))]) (d := (D.one (C.own 3 0 r13.length 1))) F.ca_24 rfl rfl (ac (.one .sc) an) an (by decide) rfl (vdisk_Disk_Names_nil0.meets _  r13 er13) (.inl rfl) (by first | rfl | (simp only [mergeH2, orF, Bool.false_or, Bool.or_false, Bool.true_or, Bool.or_true, mergeAt, mergeObj, renO, ren_row, List.drop_succ_cons, List.drop_zero, List.map_cons, List.map_nil, Option.map_some, Option.map_none, List.length_cons, List.length_nil, Nat.zero_add, List.append_assoc, List.cons_append, List.nil_append]; done) | (simp only [mergeH2, orF, Bool.false_or, Bool.or_false, Bool.true_or, Bool.or_true, mergeAt, mergeObj, renO, ren_row, List.drop_succ_cons, List.drop_zero, List.map_cons, List.map_nil, Option.map_some, Option.map_none, List.length_cons, List.length_nil, Nat.zero_add, List.append_assoc, List.cons_append, List.nil_append]; rfl)) rfl ?_
   refine AWops.guard_yes rfl (nl rfl) rfl rfl ?_
   refine s_len (n := r13.length) F.u_55 rfl (.inr ⟨(fun _ _ h => by cases h), ⟨_, rfl⟩⟩) ?_
   refine AWops.guard_yes rfl (nl rfl) rfl rfl ?_
   refine s_move (d := (sc (.pointer none))) rfl ?_
   refine AWops.guard_yes rfl (nl rfl) rfl rfl ?_
   obtain ⟨r14, er14, h⟩ := bnd h
   have kr14 := vdisk_Disk_Used_nil0.const er14
   subst kr14
   refine s_call2 (ρ := []) (br := false) (H2 := [(some (AObj.cells true (c_dossierplain_Step a0))), (some (AObj.cells true [(C.p true (.v (.map none))), (C.p true (.v (.int .i64 0))), (C.p true (.v (.int .i64 0))), (C.p true (.v (.pointer none))), (C.p true (.v (.bool false)))])), (some (AObj.cells true [(C.p true (.v (.pointer none))), (C.ref 1 0)])), (some (AObj.cells true (rowC e_str r13)))]) (d := (sc (.int .i64 0))) F.ca_17 rfl rfl (ac (.one .sc) an) an (by decide) rfl (vdisk_Disk_Used_nil0.meets _  0 er14) (.inl rfl) rfl rfl ?_
   refine AWops.guard_yes rfl (nl rfl) rfl rfl ?_
   refine s_binI (v := (.int .i64 (IntKind.i64.wrap ((r13.length : Int) + 0)))) rfl rfl rfl ?_
   refine AWops.guard_yes rfl (nl rfl) rfl rfl ?_
   refine s_binI (v := (.bool ((IntKind.i64.wrap ((r13.length : Int) + 0)) != 0))) rfl rfl rfl ?_
   refine s_pick_no (d := (sc (.bool ((IntKind.i64.wrap ((r13.length : Int) + 0)) != 0)))) rfl rfl rfl ?_
   refine s_move (d := (sc (.bool ((IntKind.i64.wrap ((r13.length : Int) + 0)) != 0)))) rfl ?_
   rcases itH h with ⟨c15, h⟩ | ⟨c15, h⟩
   ·iterate 3 refine AWops.guard_no rfl (nl rfl) rfl c15 ?_
    refine s_pick_yes (d := (sc (.bool true))) rfl c15 rfl (AWops.nil ?_)
    refine AW.cond_yes rfl rfl (AW.seq (AW.region ?_))
    refine s_assign (d := (sc (.bool false))) rfl (AWops.nil (AW.ret ?_))
    obtain rfl := Option.some.inj h
    exact ⟨_, rfl, (Weak.gen (kk := 0) [] [] rfl rfl (by decide) (by decide) rfl rfl rfl (le_upd (le_top _) (.t (.one .sc))) an)⟩
   ·refine AWops.guard_yes rfl (nl rfl) rfl c15 ?_
    refine s_move (d := (sc (.pointer none))) rfl ?_
    refine AWops.guard_yes rfl (nl rfl) rfl c15 ?_
    obtain ⟨r16, er16, h⟩ := bnd h
    refine s_call2 (ρ := []) (br := false) (H2 := [(some (AObj.cells true (c_dossierplain_Step a0))), (some (AObj.cells true [(C.p true (.v (.map none))), (C.p true (.v (.int .i64 0))), (C.p true (.v (.int .i64 0))), (C.p true (.v (.pointer none))), (C.p true (.v (.bool false)))])), (some (AObj.cells true [(C.p true (.v (.pointer none))), (C.ref 1 0)])), (some (AObj.cells true (rowC e_str r13)))]) (d := (sc (.pointer none))) F.ca_25 rfl rfl (ac (.one .sc) an) an (by decide) rfl (vdisk_Disk_Copy_nil0.meets _  r16 er16) (.inl rfl) rfl rfl ?_
    refine AWops.guard_yes rfl (nl rfl) rfl c15 ?_
    refine s_ptrNil (b := true) F.u_25 rfl (.inr ⟨⟨_, rfl⟩, rfl⟩) (.inr rfl) ?_
    refine s_pick_no (d := (sc (.bool false))) rfl c15 rfl (AWops.nil ?_)
    refine AW.cond_no rfl rfl (AW.skip (AW.region ?_))
    refine s_binI (v := (.int .i64 1)) rfl rfl (by rfl) ?_
    refine s_move (d := (sc (.int .i64 1))) rfl (AWops.nil ?_)
    refine U.step (AW.seq (AW.region ?_))
    refine s_binI (v := (.bool true)) rfl rfl rfl (AWops.nil (AW.seq ?_))
    refine AW.cond_yes rfl rfl (AW.skip (AW.seq (AW.block (AW.seq (AW.region ?_)))))
    refine s_indexOwn (d := (D.one (C.ref 2 1))) F.u_51 F.sz_25 rfl rfl (by decide) (by decide) rfl ?_
    refine s_load1 (c' := (C.ref 1 0)) F.ag_25 rfl rfl ?_
    refine s_assign (d := (D.one (C.ref 1 0))) rfl (AWops.nil (AW.seq (AW.region ?_)))
    refine s_move (d := (D.one (C.ref 1 0))) rfl ?_
    refine s_fieldRef F.fo_43_2 (by decide) rfl ?_
    refine s_load1 (c' := (C.p true (.v (.string a0.Name)))) F.ag_9 rfl rfl ?_
    obtain ⟨r17, er17, h⟩ := bnd h
    refine s_call2 (ρ := [1]) (br := false) (H2 := [(some (AObj.cells true (c_dossierplain_Step a0))), (some (AObj.cells true [(C.p true (.v (.map none))), (C.p true (.v (.int .i64 r17.2.2.room))), (C.p true (.v (.int .i64 r17.2.2.used))), (C.p true (.v (.pointer none))), (C.p true (.v (.bool r17.2.2.dead)))])), (some (AObj.cells true [(C.p true (.v (.pointer none))), (C.ref 1 0)])), (some (AObj.cells true (rowC e_str r13)))]) (d := (D.tup [(D.one (C.p false (.sl r17.1.length (r17.1.flatMap e_u8)))), (sc (.int .i64 r17.2.1))])) F.ca_12 rfl rfl (ac (.one (.ref rfl)) (ac (.one .sc) an)) (ac (.cells (ac .sc (ac .sc (ac .sc (ac .sc (ac .sc an)))))) an) (by decide) rfl (vdisk_Disk_Read.meets _ (⟨([] : List (ByteArray × vdisk_file)), 0, 0, (), false⟩ : vdisk_Disk) a0.Name r17 er17) (.inl rfl) rfl rfl ?_
    refine s_move (d := (D.tup [(D.one (C.p false (.sl r17.1.length (r17.1.flatMap e_u8)))), (sc (.int .i64 r17.2.1))])) rfl ?_
    refine s_extract (d := (D.one (C.p false (.sl r17.1.length (r17.1.flatMap e_u8))))) rfl rfl ?_
    refine s_extract (d := (sc (.int .i64 r17.2.1))) rfl rfl ?_
    refine s_assign (d := (D.one (C.p false (.sl r17.1.length (r17.1.flatMap e_u8))))) rfl ?_
    refine s_assign (d := (sc (.int .i64 r17.2.1))) rfl (AWops.nil (AW.seq (AW.region ?_)))
    refine s_move (d := (D.one (C.ref 1 0))) rfl ?_
    refine s_fieldRef F.fo_43_2 (by decide) rfl ?_
    refine s_load1 (c' := (C.p true (.v (.string a0.Name)))) F.ag_9 rfl rfl ?_
    refine s_fieldRef F.fo_43_4 (by decide) rfl ?_
    refine s_load1 (c' := (C.p false (.sl a0.B.length (a0.B.flatMap e_u8)))) F.ag_22 rfl rfl ?_
    obtain ⟨r18, er18, h⟩ := bnd h
    refine s_call2 (ρ := [1]) (br := false) (H2 := [(some (AObj.cells true (c_dossierplain_Step a0))), (some (AObj.cells true [(C.p true (.v (.map none))), (C.p true (.v (.int .i64 r18.2.room))), (C.p true (.v (.int .i64 r18.2.used))), (C.p true (.v (.pointer none))), (C.p true (.v (.bool r18.2.dead)))])), (some (AObj.cells true [(C.p true (.v (.pointer none))), (C.ref 1 0)])), (some (AObj.cells true (rowC e_str r13)))]) (d := (sc (.int .i64 r18.1))) F.ca_9 rfl rfl (ac (.one (.ref rfl)) (ac (.one .sc) (ac (.one .imm) an))) (ac (.cells (ac .sc (ac .sc (ac .sc (ac .sc (ac .sc an)))))) an) (by decide) rfl (vdisk_Disk_Append.meets _ (⟨([] : List (ByteArray × vdisk_file)), r17.2.2.room, r17.2.2.used, (), r17.2.2.dead⟩ : vdisk_Disk) a0.Name a0.B r18 er18) (.inl rfl) rfl rfl ?_
    refine s_binI (v := (.bool (r18.1 == 2))) rfl rfl rfl ?_
    refine s_move (d := (sc (.bool (r18.1 == 2)))) rfl ?_
    rcases itH h with ⟨c19, h⟩ | ⟨c19, h⟩
    ·refine AWops.guard_yes rfl (nl rfl) rfl c19 ?_
     refine s_move (d := (D.one (C.ref 1 0))) rfl ?_
     refine AWops.guard_yes rfl (nl rfl) rfl c19 ?_
     refine s_fieldRef F.fo_43_2 (by decide) rfl ?_
     refine AWops.guard_yes rfl (nl rfl) rfl c19 ?_
     refine s_load1 (c' := (C.p true (.v (.string a0.Name)))) F.ag_9 rfl rfl ?_
     refine AWops.guard_yes rfl (nl rfl) rfl c19 ?_
     obtain ⟨r20, er20, h⟩ := bnd h
     refine s_call2 (ρ := [1]) (br := false) (H2 := [(some (AObj.cells true (c_dossierplain_Step a0))), (some (AObj.cells true [(C.p true (.v (.map none))), (C.p true (.v (.int .i64 r20.2.room))), (C.p true (.v (.int .i64 r20.2.used))), (C.p true (.v (.pointer none))), (C.p true (.v (.bool r20.2.dead)))])), (some (AObj.cells true [(C.p true (.v (.pointer none))), (C.ref 1 0)])), (some (AObj.cells true (rowC e_str r13)))]) (d := (sc (.int .i64 r20.1))) F.ca_10 rfl rfl (ac (.one (.ref rfl)) (ac (.one .sc) an)) (ac (.cells (ac .sc (ac .sc (ac .sc (ac .sc (ac .sc an)))))) an) (by decide) rfl (vdisk_Disk_Sync.meets _ (⟨([] : List (ByteArray × vdisk_file)), r18.2.room, r18.2.used, (), r18.2.dead⟩ : vdisk_Disk) a0.Name r20 er20) (.inl rfl) rfl rfl ?_
     refine AWops.guard_yes rfl (nl rfl) rfl c19 ?_
     refine s_binI (v := (.bool (r20.1 == 2))) rfl rfl rfl ?_
     refine s_pick_yes (d := (sc (.bool (r20.1 == 2)))) rfl c19 rfl ?_
     refine s_move (d := (sc (.bool (r20.1 == 2)))) rfl ?_
     rcases itH h with ⟨c21, h⟩ | ⟨c21, h⟩
     ·refine AWops.guard_yes rfl (nl rfl) rfl c21 ?_
      refine s_move (d := (D.one (C.ref 1 0))) rfl ?_
      refine AWops.guard_yes rfl (nl rfl) rfl c21 ?_
      refine s_fieldRef F.fo_43_2 (by decide) rfl ?_
      refine AWops.guard_yes rfl (nl rfl) rfl c21 ?_
      refine s_load1 (c' := (C.p true (.v (.string a0.Name)))) F.ag_9 rfl rfl ?_
      refine AWops.guard_yes rfl (nl rfl) rfl c21 ?_
      refine s_fieldRef F.fo_43_3 (by decide) rfl ?_
      refine AWops.guard_yes rfl (nl rfl) rfl c21 ?_
      refine s_load1 (c' := (C.p true (.v (.string a0.To)))) F.ag_9 rfl rfl ?_
      refine AWops.guard_yes rfl (nl rfl) rfl c21 ?_
      obtain ⟨r22, er22, h⟩ := bnd h
      refine s_call2 (ρ := [1]) (br := false) (H2 := [(some (AObj.cells true (c_dossierplain_Step a0))), (some (AObj.cells true [(C.p true (.v (.map none))), (C.p true (.v (.int .i64 r22.2.room))), (C.p true (.v (.int .i64 r22.2.used))), (C.p true (.v (.pointer none))), (C.p true (.v (.bool r22.2.dead)))])), (some (AObj.cells true [(C.p true (.v (.pointer none))), (C.ref 1 0)])), (some (AObj.cells true (rowC e_str r13)))]) (d := (sc (.int .i64 r22.1))) F.ca_18 rfl rfl (ac (.one (.ref rfl)) (ac (.one .sc) (ac (.one .sc) an))) (ac (.cells (ac .sc (ac .sc (ac .sc (ac .sc (ac .sc an)))))) an) (by decide) rfl (vdisk_Disk_Rename.meets _ (⟨([] : List (ByteArray × vdisk_file)), r20.2.room, r20.2.used, (), r20.2.dead⟩ : vdisk_Disk) a0.Name a0.To r22 er22) (.inl rfl) rfl rfl ?_
      refine AWops.guard_yes rfl (nl rfl) rfl c21 ?_
      refine s_binI (v := (.bool (r22.1 == 2))) rfl rfl rfl ?_
      refine s_pick_yes (d := (sc (.bool (r22.1 == 2)))) rfl c21 rfl ?_
      refine s_move (d := (sc (.bool (r22.1 == 2)))) rfl ?_
      rcases itH h with ⟨c23, h⟩ | ⟨c23, h⟩
      ·refine AWops.guard_yes rfl (nl rfl) rfl c23 ?_
       refine s_move (d := (D.one (C.ref 1 0))) rfl ?_
       refine AWops.guard_yes rfl (nl rfl) rfl c23 ?_
       refine s_fieldRef F.fo_43_2 (by decide) rfl ?_
       refine AWops.guard_yes rfl (nl rfl) rfl c23 ?_
       refine s_load1 (c' := (C.p true (.v (.string a0.Name)))) F.ag_9 rfl rfl ?_
       refine AWops.guard_yes rfl (nl rfl) rfl c23 ?_
       refine s_fieldRef F.fo_43_1 (by decide) rfl ?_
       refine AWops.guard_yes rfl (nl rfl) rfl c23 ?_
       refine s_load1 (c' := (C.p true (.v (.int .i64 a0.N)))) F.ag_3 rfl rfl ?_
       refine AWops.guard_yes rfl (nl rfl) rfl c23 ?_
       obtain ⟨r24, er24, h⟩ := bnd h
       refine s_call2 (ρ := [1]) (br := false) (H2 := [(some (AObj.cells true (c_dossierplain_Step a0))), (some (AObj.cells true [(C.p true (.v (.map none))), (C.p true (.v (.int .i64 r24.2.room))), (C.p true (.v (.int .i64 r24.2.used))), (C.p true (.v (.pointer none))), (C.p true (.v (.bool r24.2.dead)))])), (some (AObj.cells true [(C.p true (.v (.pointer none))), (C.ref 1 0)])), (some (AObj.cells true (rowC e_str r13)))]) (d := (sc (.int .i64 r24.1))) F.ca_19 rfl rfl (ac (.one (.ref rfl)) (ac (.one .sc) (ac (.one .sc) an))) (ac (.cells (ac .sc (ac .sc (ac .sc (ac .sc (ac .sc an)))))) an) (by decide) rfl (vdisk_Disk_Truncate.meets _ (⟨([] : List (ByteArray × vdisk_file)), r22.2.room, r22.2.used, (), r22.2.dead⟩ : vdisk_Disk) a0.Name a0.N r24 er24) (.inl rfl) rfl rfl ?_
       refine AWops.guard_yes rfl (nl rfl) rfl c23 ?_
       refine s_binI (v := (.bool (r24.1 == 2))) rfl rfl rfl ?_
       refine s_pick_yes (d := (sc (.bool (r24.1 == 2)))) rfl c23 rfl ?_
       refine s_move (d := (sc (.bool (r24.1 == 2)))) rfl ?_
       rcases itH h with ⟨c25, h⟩ | ⟨c25, h⟩
       ·refine AWops.guard_yes rfl (nl rfl) rfl c25 ?_
        refine s_move (d := (D.one (C.ref 1 0))) rfl ?_
        refine AWops.guard_yes rfl (nl rfl) rfl c25 ?_
        refine s_fieldRef F.fo_43_2 (by decide) rfl ?_
        refine AWops.guard_yes rfl (nl rfl) rfl c25 ?_
        refine s_load1 (c' := (C.p true (.v (.string a0.Name)))) F.ag_9 rfl rfl ?_
        refine AWops.guard_yes rfl (nl rfl) rfl c25 ?_
        obtain ⟨r26, er26, h⟩ := bnd h
        refine s_call2 (ρ := [1]) (br := false) (H2 := [(some (AObj.cells true (c_dossierplain_Step a0))), (some (AObj.cells true [(C.p true (.v (.map none))), (C.p true (.v (.int .i64 r26.2.room))), (C.p true (.v (.int .i64 r26.2.used))), (C.p true (.v (.pointer none))), (C.p true (.v (.bool r26.2.dead)))])), (some (AObj.cells true [(C.p true (.v (.pointer none))), (C.ref 1 0)])), (some (AObj.cells true (rowC e_str r13)))]) (d := (sc (.int .i64 r26.1))) F.ca_20 rfl rfl (ac (.one (.ref rfl)) (ac (.one .sc) an)) (ac (.cells (ac .sc (ac .sc (ac .sc (ac .sc (ac .sc an)))))) an) (by decide) rfl (vdisk_Disk_Remove.meets _ (⟨([] : List (ByteArray × vdisk_file)), r24.2.room, r24.2.used, (), r24.2.dead⟩ : vdisk_Disk) a0.Name r26 er26) (.inl rfl) rfl rfl ?_
        refine AWops.guard_yes rfl (nl rfl) rfl c25 ?_
        refine s_binI (v := (.bool (r26.1 == 2))) rfl rfl rfl ?_
        refine s_pick_yes (d := (sc (.bool (r26.1 == 2)))) rfl c25 rfl ?_
        refine s_assign (d := (sc (.bool (r26.1 == 2)))) rfl (AWops.nil (AW.seq (AW.region ?_)))
        refine s_move (d := (sc (.bool (r26.1 == 2)))) rfl ?_
        refine s_not rfl ?_
        refine s_move (d := (sc (.bool (!(r26.1 == 2))))) rfl ?_
        rcases itH h with ⟨c27, h⟩ | ⟨c27, h⟩
        ·refine AWops.guard_yes rfl (nl rfl) rfl (by rw [c27] <;> rfl) ?_
         refine s_move (d := (D.one (C.p false (.sl r17.1.length (r17.1.flatMap e_u8))))) rfl ?_
         refine AWops.guard_yes rfl (nl rfl) rfl (by rw [c27] <;> rfl) ?_
         refine s_len (n := r17.1.length) F.u_22 rfl (.inr ⟨(fun _ _ h => by cases h), ⟨_, rfl⟩⟩) ?_
         refine AWops.guard_yes rfl (nl rfl) rfl (by rw [c27] <;> rfl) ?_
         refine s_binI (v := (.bool (decide ((r17.1.length : Int) > 0)))) rfl rfl rfl ?_
         refine s_pick_no (d := (sc (.bool (decide ((r17.1.length : Int) > 0))))) rfl (by rw [c27] <;> rfl) rfl ?_
         refine s_move (d := (sc (.bool (decide ((r17.1.length : Int) > 0))))) rfl ?_
         rcases itH h with ⟨c28, h⟩ | ⟨c28, h⟩
         ·refine AWops.guard_no rfl (nl rfl) rfl c28 ?_
          refine AWops.guard_no rfl (nl rfl) rfl c28 ?_
          refine s_pick_yes (d := (sc (.bool true))) rfl c28 rfl ?_
          refine s_move (d := (sc (.bool true))) rfl ?_
          iterate 5 refine AWops.guard_no rfl (nl rfl) rfl rfl ?_
          refine s_pick_yes (d := (sc (.bool true))) rfl rfl rfl ?_
          refine s_move (d := (sc (.bool true))) rfl ?_
          iterate 5 refine AWops.guard_no rfl (nl rfl) rfl rfl ?_
          refine s_pick_yes (d := (sc (.bool true))) rfl rfl rfl ?_
          refine s_move (d := (sc (.bool true))) rfl ?_
          iterate 5 refine AWops.guard_no rfl (nl rfl) rfl rfl ?_
          refine s_pick_yes (d := (sc (.bool true))) rfl rfl rfl ?_
          refine s_move (d := (sc (.bool true))) rfl ?_
          iterate 3 refine AWops.guard_no rfl (nl rfl) rfl rfl ?_
          refine s_pick_yes (d := (sc (.bool true))) rfl rfl rfl ?_
          refine s_move (d := (sc (.bool true))) rfl ?_
          iterate 7 refine AWops.guard_no rfl (nl rfl) rfl rfl ?_
          refine s_pick_yes (d := (sc (.bool true))) rfl rfl rfl ?_
          refine s_move (d := (sc (.bool true))) rfl ?_
          iterate 3 refine AWops.guard_no rfl (nl rfl) rfl rfl ?_
          refine s_pick_yes (d := (sc (.bool true))) rfl rfl rfl (AWops.nil ?_)
          refine AW.cond_yes rfl rfl (AW.seq (AW.region ?_))
          refine s_assign (d := (sc (.bool false))) rfl (AWops.nil (AW.ret ?_))
          obtain rfl := Option.some.inj h
          exact ⟨_, rfl, (Weak.gen (kk := 0) [] [] rfl rfl (by decide) (by decide) rfl rfl rfl (le_upd (le_top _) (.t (.one .sc))) an)⟩
         ·refine AWops.guard_yes rfl (nl rfl) rfl c28 ?_
          refine s_move (d := (sc (.int .i64 r17.2.1))) rfl ?_
          refine AWops.guard_yes rfl (nl rfl) rfl c28 ?_
          refine s_binI (v := (.bool (r17.2.1 != 2))) rfl rfl rfl ?_
          refine s_pick_no (d := (sc (.bool (r17.2.1 != 2)))) rfl c28 rfl ?_
          refine s_move (d := (sc (.bool (r17.2.1 != 2)))) rfl ?_
          rcases itH h with ⟨c29, h⟩ | ⟨c29, h⟩
          ·iterate 5 refine AWops.guard_no rfl (nl rfl) rfl c29 ?_
           refine s_pick_yes (d := (sc (.bool true))) rfl c29 rfl ?_
           refine s_move (d := (sc (.bool true))) rfl ?_
           iterate 5 refine AWops.guard_no rfl (nl rfl) rfl rfl ?_
           refine s_pick_yes (d := (sc (.bool true))) rfl rfl rfl ?_
           refine s_move (d := (sc (.bool true))) rfl ?_
           iterate 5 refine AWops.guard_no rfl (nl rfl) rfl rfl ?_
           refine s_pick_yes (d := (sc (.bool true))) rfl rfl rfl ?_
           refine s_move (d := (sc (.bool true))) rfl ?_
           iterate 3 refine AWops.guard_no rfl (nl rfl) rfl rfl ?_
           refine s_pick_yes (d := (sc (.bool true))) rfl rfl rfl ?_
           refine s_move (d := (sc (.bool true))) rfl ?_
           iterate 7 refine AWops.guard_no rfl (nl rfl) rfl rfl ?_
           refine s_pick_yes (d := (sc (.bool true))) rfl rfl rfl ?_
           refine s_move (d := (sc (.bool true))) rfl ?_
           iterate 3 refine AWops.guard_no rfl (nl rfl) rfl rfl ?_
           refine s_pick_yes (d := (sc (.bool true))) rfl rfl rfl (AWops.nil ?_)
           refine AW.cond_yes rfl rfl (AW.seq (AW.region ?_))
           refine s_assign (d := (sc (.bool false))) rfl (AWops.nil (AW.ret ?_))
           obtain rfl := Option.some.inj h
           exact ⟨_, rfl, (Weak.gen (kk := 0) [] [] rfl rfl (by decide) (by decide) rfl rfl rfl (le_upd (le_top _) (.t (.one .sc))) an)⟩
          ·refine AWops.guard_yes rfl (nl rfl) rfl c29 ?_
           refine s_move (d := (D.one (C.ref 1 0))) rfl ?_
           refine AWops.guard_yes rfl (nl rfl) rfl c29 ?_
           refine s_fieldRef F.fo_43_1 (by decide) rfl ?_
           refine AWops.guard_yes rfl (nl rfl) rfl c29 ?_
           refine s_load1 (c' := (C.p true (.v (.int .i64 a0.N)))) F.ag_3 rfl rfl ?_
           refine AWops.guard_yes rfl (nl rfl) rfl c29 ?_
           obtain ⟨r30, er30, h⟩ := bnd h
           refine s_call2 (ρ := [1]) (br := false) (H2 := [(some (AObj.cells true (c_dossierplain_Step a0))), (some (AObj.cells true [(C.p true (.v (.map none))), (C.p true (.v (.int .i64 r30.2.room))), (C.p true (.v (.int .i64 r30.2.used))), (C.p true (.v (.pointer none))), (C.p true (.v (.bool r30.2.dead)))])), (some (AObj.cells true [(C.p true (.v (.pointer none))), (C.ref 1 0)])), (some (AObj.cells true (rowC e_str r13)))]) (d := (sc (.int .i64 r30.1))) F.ca_21 rfl rfl (ac (.one (.ref rfl)) (ac (.one .sc) an)) (ac (.cells (ac .sc (ac .sc (ac .sc (ac .sc (ac .sc an)))))) an) (by decide) rfl (vdisk_Disk_Fuse.meets _ (⟨([] : List (ByteArray × vdisk_file)), r26.2.room, r26.2.used, (), r26.2.dead⟩ : vdisk_Disk) a0.N r30 er30) (.inl rfl) rfl rfl ?_
           refine AWops.guard_yes rfl (nl rfl) rfl c29 ?_
           refine s_binI (v := (.bool (r30.1 != 2))) rfl rfl rfl ?_
           refine s_pick_no (d := (sc (.bool (r30.1 != 2)))) rfl c29 rfl ?_
           refine s_move (d := (sc (.bool (r30.1 != 2)))) rfl ?_
           rcases itH h with ⟨c31, h⟩ | ⟨c31, h⟩
           ·iterate 5 refine AWops.guard_no rfl (nl rfl) rfl c31 ?_
            refine s_pick_yes (d := (sc (.bool true))) rfl c31 rfl ?_
            refine s_move (d := (sc (.bool true))) rfl ?_
            iterate 5 refine AWops.guard_no rfl (nl rfl) rfl rfl ?_
            refine s_pick_yes (d := (sc (.bool true))) rfl rfl rfl ?_
            refine s_move (d := (sc (.bool true))) rfl ?_
            iterate 3 refine AWops.guard_no rfl (nl rfl) rfl rfl ?_
            refine s_pick_yes (d := (sc (.bool true))) rfl rfl rfl ?_
            refine s_move (d := (sc (.bool true))) rfl ?_
            iterate 7 refine AWops.guard_no rfl (nl rfl) rfl rfl ?_
            refine s_pick_yes (d := (sc (.bool true))) rfl rfl rfl ?_
            refine s_move (d := (sc (.bool true))) rfl ?_
            iterate 3 refine AWops.guard_no rfl (nl rfl) rfl rfl ?_
            refine s_pick_yes (d := (sc (.bool true))) rfl rfl rfl (AWops.nil ?_)
            refine AW.cond_yes rfl rfl (AW.seq (AW.region ?_))
            refine s_assign (d := (sc (.bool false))) rfl (AWops.nil (AW.ret ?_))
            obtain rfl := Option.some.inj h
            exact ⟨_, rfl, (Weak.gen (kk := 0) [] [] rfl rfl (by decide) (by decide) rfl rfl rfl (le_upd (le_top _) (.t (.one .sc))) an)⟩
           ·refine AWops.guard_yes rfl (nl rfl) rfl c31 ?_
            refine s_move (d := (D.one (C.ref 1 0))) rfl ?_
            refine AWops.guard_yes rfl (nl rfl) rfl c31 ?_
            refine s_fieldRef F.fo_43_1 (by decide) rfl ?_
            refine AWops.guard_yes rfl (nl rfl) rfl c31 ?_
            refine s_load1 (c' := (C.p true (.v (.int .i64 a0.N)))) F.ag_3 rfl rfl ?_
            refine AWops.guard_yes rfl (nl rfl) rfl c31 ?_
            obtain ⟨r32, er32, h⟩ := bnd h
            refine s_call2 (ρ := [1]) (br := false) (H2 := [(some (AObj.cells true (c_dossierplain_Step a0))), (some (AObj.cells true [(C.p true (.v (.map none))), (C.p true (.v (.int .i64 r32.2.room))), (C.p true (.v (.int .i64 r32.2.used))), (C.p true (.v (.pointer none))), (C.p true (.v (.bool r32.2.dead)))])), (some (AObj.cells true [(C.p true (.v (.pointer none))), (C.ref 1 0)])), (some (AObj.cells true (rowC e_str r13)))]) (d := (sc (.int .i64 r32.1))) F.ca_22 rfl rfl (ac (.one (.ref rfl)) (ac (.one .sc) an)) (ac (.cells (ac .sc (ac .sc (ac .sc (ac .sc (ac .sc an)))))) an) (by decide) rfl (vdisk_Disk_Room.meets _ (⟨([] : List (ByteArray × vdisk_file)), r30.2.room, r30.2.used, (), r30.2.dead⟩ : vdisk_Disk) a0.N r32 er32) (.inl rfl) rfl rfl ?_
            refine AWops.guard_yes rfl (nl rfl) rfl c31 ?_
            refine s_binI (v := (.bool (r32.1 != 2))) rfl rfl rfl ?_
            refine s_pick_no (d := (sc (.bool (r32.1 != 2)))) rfl c31 rfl ?_
            refine s_move (d := (sc (.bool (r32.1 != 2)))) rfl ?_
            rcases itH h with ⟨c33, h⟩ | ⟨c33, h⟩
            ·iterate 5 refine AWops.guard_no rfl (nl rfl) rfl c33 ?_
             refine s_pick_yes (d := (sc (.bool true))) rfl c33 rfl ?_
             refine s_move (d := (sc (.bool true))) rfl ?_
             iterate 3 refine AWops.guard_no rfl (nl rfl) rfl rfl ?_
             refine s_pick_yes (d := (sc (.bool true))) rfl rfl rfl ?_
             refine s_move (d := (sc (.bool true))) rfl ?_
             iterate 7 refine AWops.guard_no rfl (nl rfl) rfl rfl ?_
             refine s_pick_yes (d := (sc (.bool true))) rfl rfl rfl ?_
             refine s_move (d := (sc (.bool true))) rfl ?_
             iterate 3 refine AWops.guard_no rfl (nl rfl) rfl rfl ?_
             refine s_pick_yes (d := (sc (.bool true))) rfl rfl rfl (AWops.nil ?_)
             refine AW.cond_yes rfl rfl (AW.seq (AW.region ?_))
             refine s_assign (d := (sc (.bool false))) rfl (AWops.nil (AW.ret ?_))
             obtain rfl := Option.some.inj h
             exact ⟨_, rfl, (Weak.gen (kk := 0) [] [] rfl rfl (by decide) (by decide) rfl rfl rfl (le_upd (le_top _) (.t (.one .sc))) an)⟩
            ·refine AWops.guard_yes rfl (nl rfl) rfl c33 ?_
             refine s_move (d := (D.one (C.ref 1 0))) rfl ?_
             refine AWops.guard_yes rfl (nl rfl) rfl c33 ?_
             refine s_fieldRef F.fo_43_5 (by decide) rfl ?_
             refine AWops.guard_yes rfl (nl rfl) rfl c33 ?_
             refine s_load1 (c' := (C.p false (.sl a0.Keeps.length (a0.Keeps.flatMap e_i64)))) F.ag_24 rfl rfl ?_
             refine AWops.guard_yes rfl (nl rfl) rfl c33 ?_
             obtain ⟨r34, er34, h⟩ := bnd h
             refine s_call2 (ρ := [1]) (br := false) (H2 := [(some (AObj.cells true (c_dossierplain_Step a0))), (some (AObj.cells true [(C.p true (.v (.map none))), (C.p true (.v (.int .i64 r34.2.room))), (C.p true (.v (.int .i64 r34.2.used))), (C.p true (.v (.pointer none))), (C.p true (.v (.bool r34.2.dead)))])), (some (AObj.cells true [(C.p true (.v (.pointer none))), (C.ref 1 0)])), (some (AObj.cells true (rowC e_str r13)))]) (d := (sc (.int .i64 r34.1))) F.ca_11 rfl rfl (ac (.one (.ref rfl)) (ac (.one .imm) an)) (ac (.cells (ac .sc (ac .sc (ac .sc (ac .sc (ac .sc an)))))) an) (by decide) rfl (vdisk_Disk_Crash.meets _ (⟨([] : List (ByteArray × vdisk_file)), r32.2.room, r32.2.used, (), r32.2.dead⟩ : vdisk_Disk) a0.Keeps r34 er34) (.inl rfl) rfl rfl ?_
             refine AWops.guard_yes rfl (nl rfl) rfl c33 ?_
             refine s_binI (v := (.bool (r34.1 != 2))) rfl rfl rfl ?_
             refine s_pick_no (d := (sc (.bool (r34.1 != 2)))) rfl c33 rfl ?_
             refine s_move (d := (sc (.bool (r34.1 != 2)))) rfl ?_
             rcases itH h with ⟨c35, h⟩ | ⟨c35, h⟩
             ·iterate 3 refine AWops.guard_no rfl (nl rfl) rfl c35 ?_
              refine s_pick_yes (d := (sc (.bool true))) rfl c35 rfl ?_
              refine s_move (d := (sc (.bool true))) rfl ?_
              iterate 7 refine AWops.guard_no rfl (nl rfl) rfl rfl ?_
              refine s_pick_yes (d := (sc (.bool true))) rfl rfl rfl ?_
              refine s_move (d := (sc (.bool true))) rfl ?_
              iterate 3 refine AWops.guard_no rfl (nl rfl) rfl rfl ?_
              refine s_pick_yes (d := (sc (.bool true))) rfl rfl rfl (AWops.nil ?_)
              refine AW.cond_yes rfl rfl (AW.seq (AW.region ?_))
              refine s_assign (d := (sc (.bool false))) rfl (AWops.nil (AW.ret ?_))
              obtain rfl := Option.some.inj h
              exact ⟨_, rfl, (Weak.gen (kk := 0) [] [] rfl rfl (by decide) (by decide) rfl rfl rfl (le_upd (le_top _) (.t (.one .sc))) an)⟩
             ·refine AWops.guard_yes rfl (nl rfl) rfl c35 ?_
              refine s_move (d := (D.one (C.ref 1 0))) rfl ?_
              refine AWops.guard_yes rfl (nl rfl) rfl c35 ?_
              obtain ⟨r36, er36, h⟩ := bnd h
              refine s_call2 (ρ := [1]) (br := false) (H2 := [(some (AObj.cells true (c_dossierplain_Step a0))), (some (AObj.cells true [(C.p true (.v (.map none))), (C.p true (.v (.int .i64 r36.2.room))), (C.p true (.v (.int .i64 r36.2.used))), (C.p true (.v (.pointer none))), (C.p true (.v (.bool r36.2.dead)))])), (some (AObj.cells true [(C.p true (.v (.pointer none))), (C.ref 1 0)])), (some (AObj.cells true (rowC e_str r13)))]) (d := (sc (.bool r36.1))) F.ca_23 rfl rfl (ac (.one (.ref rfl)) an) (ac (.cells (ac .sc (ac .sc (ac .sc (ac .sc (ac .sc an)))))) an) (by decide) rfl (vdisk_Disk_Dead.meets _ (⟨([] : List (ByteArray × vdisk_file)), r34.2.room, r34.2.used, (), r34.2.dead⟩ : vdisk_Disk) r36 er36) (.inl rfl) rfl rfl ?_
              refine AWops.guard_yes rfl (nl rfl) rfl c35 ?_
              refine s_not rfl ?_
              refine s_pick_no (d := (sc (.bool (!r36.1)))) rfl c35 rfl ?_
              refine s_move (d := (sc (.bool (!r36.1)))) rfl ?_
              rcases itH h with ⟨c37, h⟩ | ⟨c37, h⟩
              ·refine AWops.guard_yes rfl (nl rfl) rfl (by rw [c37] <;> rfl) ?_
               refine s_move (d := (D.one (C.ref 1 0))) rfl ?_
               refine AWops.guard_yes rfl (nl rfl) rfl (by rw [c37] <;> rfl) ?_
               obtain ⟨r38, er38, h⟩ := bnd h
               refine s_call2 (ρ := [1]) (br := false) (H2 := [(some (AObj.cells true (c_dossierplain_Step a0))), (some (AObj.cells true [(C.p true (.v (.map none))), (C.p true (.v (.int .i64 r38.2.room))), (C.p true (.v (.int .i64 r38.2.used))), (C.p true (.v (.pointer none))), (C.p true (.v (.bool r38.2.dead)))])), (some (AObj.cells true [(C.p true (.v (.pointer none))), (C.ref 1 0)])), (some (AObj.cells true (rowC e_str r13))), (some (AObj.cells true (rowC e_str r38.1)))]) (d := (D.one (C.own 4 0 r38.1.length 1))) F.ca_24 rfl rfl (ac (.one (.ref rfl)) an) (ac (.cells (ac .sc (ac .sc (ac .sc (ac .sc (ac .sc an)))))) an) (by decide) rfl (vdisk_Disk_Names.meets _ (⟨([] : List (ByteArray × vdisk_file)), r36.2.room, r36.2.used, (), r36.2.dead⟩ : vdisk_Disk) r38 er38) (.inl rfl) (by first | rfl | (simp only [mergeH2, orF, Bool.false_or, Bool.or_false, Bool.true_or, Bool.or_true, mergeAt, mergeObj, renO, ren_row, List.drop_succ_cons, List.drop_zero, List.map_cons, List.map_nil, Option.map_some, Option.map_none, List.length_cons, List.length_nil, Nat.zero_add, List.append_assoc, List.cons_append, List.nil_append]; done) | (simp only [mergeH2, orF, Bool.false_or, Bool.or_false, Bool.true_or, Bool.or_true, mergeAt, mergeObj, renO, ren_row, List.drop_succ_cons, List.drop_zero, List.map_cons, List.map_nil, Option.map_some, Option.map_none, List.length_cons, List.length_nil, Nat.zero_add, List.append_assoc, List.cons_append, List.nil_append]; rfl)) rfl ?_
               refine AWops.guard_yes rfl (nl rfl) rfl (by rw [c37] <;> rfl) ?_
               refine s_len (n := r38.1.length) F.u_55 rfl (.inr ⟨(fun _ _ h => by cases h), ⟨_, rfl⟩⟩) ?_
               refine AWops.guard_yes rfl (nl rfl) rfl (by rw [c37] <;> rfl) ?_
               refine s_move (d := (D.one (C.ref 1 0))) rfl ?_
               refine AWops.guard_yes rfl (nl rfl) rfl (by rw [c37] <;> rfl) ?_
               obtain ⟨r39, er39, h⟩ := bnd h
               refine s_call2 (ρ := [1]) (br := false) (H2 := [(some (AObj.cells true (c_dossierplain_Step a0))), (some (AObj.cells true [(C.p true (.v (.map none))), (C.p true (.v (.int .i64 r39.2.room))), (C.p true (.v (.int .i64 r39.2.used))), (C.p true (.v (.pointer none))), (C.p true (.v (.bool r39.2.dead)))])), (some (AObj.cells true [(C.p true (.v (.pointer none))), (C.ref 1 0)])), (some (AObj.cells true (rowC e_str r13))), (some (AObj.cells true (rowC e_str r38.1)))]) (d := (sc (.int .i64 r39.1))) F.ca_17 rfl rfl (ac (.one (.ref rfl)) an) (ac (.cells (ac .sc (ac .sc (ac .sc (ac .sc (ac .sc an)))))) an) (by decide) rfl (vdisk_Disk_Used.meets _ (⟨([] : List (ByteArray × vdisk_file)), r38.2.room, r38.2.used, (), r38.2.dead⟩ : vdisk_Disk) r39 er39) (.inl rfl) rfl rfl ?_
               refine AWops.guard_yes rfl (nl rfl) rfl (by rw [c37] <;> rfl) ?_
               refine s_binI (v := (.int .i64 (IntKind.i64.wrap ((r38.1.length : Int) + r39.1)))) rfl rfl rfl ?_
               refine AWops.guard_yes rfl (nl rfl) rfl (by rw [c37] <;> rfl) ?_
               refine s_binI (v := (.bool ((IntKind.i64.wrap ((r38.1.length : Int) + r39.1)) != 0))) rfl rfl rfl ?_
               refine s_pick_no (d := (sc (.bool ((IntKind.i64.wrap ((r38.1.length : Int) + r39.1)) != 0)))) rfl (by rw [c37] <;> rfl) rfl ?_
               refine s_move (d := (sc (.bool ((IntKind.i64.wrap ((r38.1.length : Int) + r39.1)) != 0)))) rfl ?_
               rcases itH h with ⟨c40, h⟩ | ⟨c40, h⟩
               ·iterate 3 refine AWops.guard_no rfl (nl rfl) rfl c40 ?_
                refine s_pick_yes (d := (sc (.bool true))) rfl c40 rfl (AWops.nil ?_)
                refine AW.cond_yes rfl rfl (AW.seq (AW.region ?_))
                refine s_assign (d := (sc (.bool false))) rfl (AWops.nil (AW.ret ?_))
                obtain rfl := Option.some.inj h
                exact ⟨_, rfl, (Weak.gen (kk := 0) [] [] rfl rfl (by decide) (by decide) rfl rfl rfl (le_upd (le_top _) (.t (.one .sc))) an)⟩
               ·refine AWops.guard_yes rfl (nl rfl) rfl c40 ?_
                refine s_move (d := (D.one (C.ref 1 0))) rfl ?_
                refine AWops.guard_yes rfl (nl rfl) rfl c40 ?_
                obtain ⟨r41, er41, h⟩ := bnd h
                refine s_call2 (ρ := [1]) (br := false) (H2 := [(some (AObj.cells true (c_dossierplain_Step a0))), (some (AObj.cells true [(C.p true (.v (.map none))), (C.p true (.v (.int .i64 r41.2.room))), (C.p true (.v (.int .i64 r41.2.used))), (C.p true (.v (.pointer none))), (C.p true (.v (.bool r41.2.dead)))])), (some (AObj.cells true [(C.p true (.v (.pointer none))), (C.ref 1 0)])), (some (AObj.cells true (rowC e_str r13))), (some (AObj.cells true (rowC e_str r38.1)))]) (d := (sc (.pointer none))) F.ca_25 rfl rfl (ac (.one (.ref rfl)) an) (ac (.cells (ac .sc (ac .sc (ac .sc (ac .sc (ac .sc an)))))) an) (by decide) rfl (vdisk_Disk_Copy.meets _ (⟨([] : List (ByteArray × vdisk_file)), r39.2.room, r39.2.used, (), r39.2.dead⟩ : vdisk_Disk) r41 er41) (.inl rfl) rfl rfl ?_
                refine AWops.guard_yes rfl (nl rfl) rfl c40 ?_
                refine s_ptrNil (b := true) F.u_25 rfl (.inr ⟨⟨_, rfl⟩, rfl⟩) (.inr rfl) ?_
                refine s_pick_no (d := (sc (.bool false))) rfl c40 rfl (AWops.nil ?_)
                refine AW.cond_no rfl rfl (AW.skip (AW.region ?_))
                refine s_binI (v := (.int .i64 2)) rfl rfl (by rfl) ?_
                refine s_move (d := (sc (.int .i64 2))) rfl (AWops.nil ?_)
                refine U.step (AW.seq (AW.region ?_))
                refine s_binI (v := (.bool false)) rfl rfl rfl (AWops.nil (AW.seq ?_))
                refine AW.cond_no rfl rfl (AW.exit (AW.seq (AW.region ?_)))
                obtain ⟨r42, er42, h⟩ := bnd h
                refine s_call2 (ρ := []) (br := false) (H2 := [(some (AObj.cells true (c_dossierplain_Step a0))), (some (AObj.cells true [(C.p true (.v (.map none))), (C.p true (.v (.int .i64 r41.2.room))), (C.p true (.v (.int .i64 r41.2.used))), (C.p true (.v (.pointer none))), (C.p true (.v (.bool r41.2.dead)))])), (some (AObj.cells true [(C.p true (.v (.pointer none))), (C.ref 1 0)])), (some (AObj.cells true (rowC e_str r13))), (some (AObj.cells true (rowC e_str r38.1)))]) (d := (sc (.bool r42))) F.ca_14 rfl rfl an an (by decide) rfl (dossierlaw03_awake.meets _  r42 er42) (.inl rfl) rfl rfl ?_
                refine s_assign (d := (sc (.bool r42))) rfl (AWops.nil (AW.ret ?_))
                obtain rfl := Option.some.inj h
                exact ⟨_, rfl, (Weak.gen (kk := 0) [] [] rfl rfl (by decide) (by decide) rfl rfl rfl (le_upd (le_top _) (.t (.one .sc))) an)⟩
              ·iterate 7 refine AWops.guard_no rfl (nl rfl) rfl (by rw [c37] <;> rfl) ?_
               refine s_pick_yes (d := (sc (.bool true))) rfl (by rw [c37] <;> rfl) rfl ?_
               refine s_move (d := (sc (.bool true))) rfl ?_
               iterate 3 refine AWops.guard_no rfl (nl rfl) rfl rfl ?_
               refine s_pick_yes (d := (sc (.bool true))) rfl rfl rfl (AWops.nil ?_)
               refine AW.cond_yes rfl rfl (AW.seq (AW.region ?_))
               refine s_assign (d := (sc (.bool false))) rfl (AWops.nil (AW.ret ?_))
               obtain rfl := Option.some.inj h
               exact ⟨_, rfl, (Weak.gen (kk := 0) [] [] rfl rfl (by decide) (by decide) rfl rfl rfl (le_upd (le_top _) (.t (.one .sc))) an)⟩
        ·iterate 3 refine AWops.guard_no rfl (nl rfl) rfl (by rw [c27] <;> rfl) ?_
         refine s_pick_yes (d := (sc (.bool true))) rfl (by rw [c27] <;> rfl) rfl ?_
         refine s_move (d := (sc (.bool true))) rfl ?_
         refine AWops.guard_no rfl (nl rfl) rfl rfl ?_
         refine AWops.guard_no rfl (nl rfl) rfl rfl ?_
         refine s_pick_yes (d := (sc (.bool true))) rfl rfl rfl ?_
         refine s_move (d := (sc (.bool true))) rfl ?_
         iterate 5 refine AWops.guard_no rfl (nl rfl) rfl rfl ?_
         refine s_pick_yes (d := (sc (.bool true))) rfl rfl rfl ?_
         refine s_move (d := (sc (.bool true))) rfl ?_
         iterate 5 refine AWops.guard_no rfl (nl rfl) rfl rfl ?_
         refine s_pick_yes (d := (sc (.bool true))) rfl rfl rfl ?_
         refine s_move (d := (sc (.bool true))) rfl ?_
         iterate 5 refine AWops.guard_no rfl (nl rfl) rfl rfl ?_
         refine s_pick_yes (d := (sc (.bool true))) rfl rfl rfl ?_
         refine s_move (d := (sc (.bool true))) rfl ?_
         iterate 3 refine AWops.guard_no rfl (nl rfl) rfl rfl ?_
         refine s_pick_yes (d := (sc (.bool true))) rfl rfl rfl ?_
         refine s_move (d := (sc (.bool true))) rfl ?_
         iterate 7 refine AWops.guard_no rfl (nl rfl) rfl rfl ?_
         refine s_pick_yes (d := (sc (.bool true))) rfl rfl rfl ?_
         refine s_move (d := (sc (.bool true))) rfl ?_
         iterate 3 refine AWops.guard_no rfl (nl rfl) rfl rfl ?_
         refine s_pick_yes (d := (sc (.bool true))) rfl rfl rfl (AWops.nil ?_)
         refine AW.cond_yes rfl rfl (AW.seq (AW.region ?_))
         refine s_assign (d := (sc (.bool false))) rfl (AWops.nil (AW.ret ?_))
         obtain rfl := Option.some.inj h
         exact ⟨_, rfl, (Weak.gen (kk := 0) [] [] rfl rfl (by decide) (by decide) rfl rfl rfl (le_upd (le_top _) (.t (.one .sc))) an)⟩
       ·iterate 5 refine AWops.guard_no rfl (nl rfl) rfl c25 ?_
        refine s_pick_no (d := (sc (.bool false))) rfl c25 rfl ?_
        refine s_assign (d := (sc (.bool false))) rfl (AWops.nil (AW.seq (AW.region ?_)))
        refine s_move (d := (sc (.bool false))) rfl ?_
        refine s_not rfl ?_
        refine s_move (d := (sc (.bool true))) rfl ?_
        iterate 3 refine AWops.guard_no rfl (nl rfl) rfl rfl ?_
        refine s_pick_yes (d := (sc (.bool true))) rfl rfl rfl ?_
        refine s_move (d := (sc (.bool true))) rfl ?_
        refine AWops.guard_no rfl (nl rfl) rfl rfl ?_
        refine AWops.guard_no rfl (nl rfl) rfl rfl ?_
        refine s_pick_yes (d := (sc (.bool true))) rfl rfl rfl ?_
        refine s_move (d := (sc (.bool true))) rfl ?_
        iterate 5 refine AWops.guard_no rfl (nl rfl) rfl rfl ?_
        refine s_pick_yes (d := (sc (.bool true))) rfl rfl rfl ?_
        refine s_move (d := (sc (.bool true))) rfl ?_
        iterate 5 refine AWops.guard_no rfl (nl rfl) rfl rfl ?_
        refine s_pick_yes (d := (sc (.bool true))) rfl rfl rfl ?_
        refine s_move (d := (sc (.bool true))) rfl ?_
        iterate 5 refine AWops.guard_no rfl (nl rfl) rfl rfl ?_
        refine s_pick_yes (d := (sc (.bool true))) rfl rfl rfl ?_
        refine s_move (d := (sc (.bool true))) rfl ?_
        iterate 3 refine AWops.guard_no rfl (nl rfl) rfl rfl ?_
        refine s_pick_yes (d := (sc (.bool true))) rfl rfl rfl ?_
        refine s_move (d := (sc (.bool true))) rfl ?_
        iterate 7 refine AWops.guard_no rfl (nl rfl) rfl rfl ?_
        refine s_pick_yes (d := (sc (.bool true))) rfl rfl rfl ?_
        refine s_move (d := (sc (.bool true))) rfl ?_
        iterate 3 refine AWops.guard_no rfl (nl rfl) rfl rfl ?_
        refine s_pick_yes (d := (sc (.bool true))) rfl rfl rfl (AWops.nil ?_)
        refine AW.cond_yes rfl rfl (AW.seq (AW.region ?_))
        refine s_assign (d := (sc (.bool false))) rfl (AWops.nil (AW.ret ?_))
        obtain rfl := Option.some.inj h
        exact ⟨_, rfl, (Weak.gen (kk := 0) [] [] rfl rfl (by decide) (by decide) rfl rfl rfl (le_upd (le_top _) (.t (.one .sc))) an)⟩
      ·iterate 7 refine AWops.guard_no rfl (nl rfl) rfl c23 ?_
       refine s_pick_no (d := (sc (.bool false))) rfl c23 rfl ?_
       refine s_move (d := (sc (.bool false))) rfl ?_
       iterate 5 refine AWops.guard_no rfl (nl rfl) rfl rfl ?_
       refine s_pick_no (d := (sc (.bool false))) rfl rfl rfl ?_
       refine s_assign (d := (sc (.bool false))) rfl (AWops.nil (AW.seq (AW.region ?_)))
       refine s_move (d := (sc (.bool false))) rfl ?_
       refine s_not rfl ?_
       refine s_move (d := (sc (.bool true))) rfl ?_
       iterate 3 refine AWops.guard_no rfl (nl rfl) rfl rfl ?_
       refine s_pick_yes (d := (sc (.bool true))) rfl rfl rfl ?_
       refine s_move (d := (sc (.bool true))) rfl ?_
       refine AWops.guard_no rfl (nl rfl) rfl rfl ?_
       refine AWops.guard_no rfl (nl rfl) rfl rfl ?_
       refine s_pick_yes (d := (sc (.bool true))) rfl rfl rfl ?_
       refine s_move (d := (sc (.bool true))) rfl ?_
       iterate 5 refine AWops.guard_no rfl (nl rfl) rfl rfl ?_
       refine s_pick_yes (d := (sc (.bool true))) rfl rfl rfl ?_
       refine s_move (d := (sc (.bool true))) rfl ?_
       iterate 5 refine AWops.guard_no rfl (nl rfl) rfl rfl ?_
       refine s_pick_yes (d := (sc (.bool true))) rfl rfl rfl ?_
       refine s_move (d := (sc (.bool true))) rfl ?_
       iterate 5 refine AWops.guard_no rfl (nl rfl) rfl rfl ?_
       refine s_pick_yes (d := (sc (.bool true))) rfl rfl rfl ?_
       refine s_move (d := (sc (.bool true))) rfl ?_
       iterate 3 refine AWops.guard_no rfl (nl rfl) rfl rfl ?_
       refine s_pick_yes (d := (sc (.bool true))) rfl rfl rfl ?_
       refine s_move (d := (sc (.bool true))) rfl ?_
       iterate 7 refine AWops.guard_no rfl (nl rfl) rfl rfl ?_
       refine s_pick_yes (d := (sc (.bool true))) rfl rfl rfl ?_
       refine s_move (d := (sc (.bool true))) rfl ?_
       iterate 3 refine AWops.guard_no rfl (nl rfl) rfl rfl ?_
       refine s_pick_yes (d := (sc (.bool true))) rfl rfl rfl (AWops.nil ?_)
       refine AW.cond_yes rfl rfl (AW.seq (AW.region ?_))
       refine s_assign (d := (sc (.bool false))) rfl (AWops.nil (AW.ret ?_))
       obtain rfl := Option.some.inj h
       exact ⟨_, rfl, (Weak.gen (kk := 0) [] [] rfl rfl (by decide) (by decide) rfl rfl rfl (le_upd (le_top _) (.t (.one .sc))) an)⟩
     ·iterate 7 refine AWops.guard_no rfl (nl rfl) rfl c21 ?_
      refine s_pick_no (d := (sc (.bool false))) rfl c21 rfl ?_
      refine s_move (d := (sc (.bool false))) rfl ?_
      iterate 7 refine AWops.guard_no rfl (nl rfl) rfl rfl ?_
      refine s_pick_no (d := (sc (.bool false))) rfl rfl rfl ?_
      refine s_move (d := (sc (.bool false))) rfl ?_
      iterate 5 refine AWops.guard_no rfl (nl rfl) rfl rfl ?_
      refine s_pick_no (d := (sc (.bool false))) rfl rfl rfl ?_
      refine s_assign (d := (sc (.bool false))) rfl (AWops.nil (AW.seq (AW.region ?_)))
      refine s_move (d := (sc (.bool false))) rfl ?_
      refine s_not rfl ?_
      refine s_move (d := (sc (.bool true))) rfl ?_
      iterate 3 refine AWops.guard_no rfl (nl rfl) rfl rfl ?_
      refine s_pick_yes (d := (sc (.bool true))) rfl rfl rfl ?_
      refine s_move (d := (sc (.bool true))) rfl ?_
      refine AWops.guard_no rfl (nl rfl) rfl rfl ?_
      refine AWops.guard_no rfl (nl rfl) rfl rfl ?_
      refine s_pick_yes (d := (sc (.bool true))) rfl rfl rfl ?_
      refine s_move (d := (sc (.bool true))) rfl ?_
      iterate 5 refine AWops.guard_no rfl (nl rfl) rfl rfl ?_
      refine s_pick_yes (d := (sc (.bool true))) rfl rfl rfl ?_
      refine s_move (d := (sc (.bool true))) rfl ?_
      iterate 5 refine AWops.guard_no rfl (nl rfl) rfl rfl ?_
      refine s_pick_yes (d := (sc (.bool true))) rfl rfl rfl ?_
      refine s_move (d := (sc (.bool true))) rfl ?_
      iterate 5 refine AWops.guard_no rfl (nl rfl) rfl rfl ?_
      refine s_pick_yes (d := (sc (.bool true))) rfl rfl rfl ?_
      refine s_move (d := (sc (.bool true))) rfl ?_
      iterate 3 refine AWops.guard_no rfl (nl rfl) rfl rfl ?_
      refine s_pick_yes (d := (sc (.bool true))) rfl rfl rfl ?_
      refine s_move (d := (sc (.bool true))) rfl ?_
      iterate 7 refine AWops.guard_no rfl (nl rfl) rfl rfl ?_
      refine s_pick_yes (d := (sc (.bool true))) rfl rfl rfl ?_
      refine s_move (d := (sc (.bool true))) rfl ?_
      iterate 3 refine AWops.guard_no rfl (nl rfl) rfl rfl ?_
      refine s_pick_yes (d := (sc (.bool true))) rfl rfl rfl (AWops.nil ?_)
      refine AW.cond_yes rfl rfl (AW.seq (AW.region ?_))
      refine s_assign (d := (sc (.bool false))) rfl (AWops.nil (AW.ret ?_))
      obtain rfl := Option.some.inj h
      exact ⟨_, rfl, (Weak.gen (kk := 0) [] [] rfl rfl (by decide) (by decide) rfl rfl rfl (le_upd (le_top _) (.t (.one .sc))) an)⟩
    ·iterate 5 refine AWops.guard_no rfl (nl rfl) rfl c19 ?_
     refine s_pick_no (d := (sc (.bool false))) rfl c19 rfl ?_
     refine s_move (d := (sc (.bool false))) rfl ?_
     iterate 7 refine AWops.guard_no rfl (nl rfl) rfl rfl ?_
     refine s_pick_no (d := (sc (.bool false))) rfl rfl rfl ?_
     refine s_move (d := (sc (.bool false))) rfl ?_
     iterate 7 refine AWops.guard_no rfl (nl rfl) rfl rfl ?_
     refine s_pick_no (d := (sc (.bool false))) rfl rfl rfl ?_
     refine s_move (d := (sc (.bool false))) rfl ?_
     iterate 5 refine AWops.guard_no rfl (nl rfl) rfl rfl ?_
     refine s_pick_no (d := (sc (.bool false))) rfl rfl rfl ?_
     refine s_assign (d := (sc (.bool false))) rfl (AWops.nil (AW.seq (AW.region ?_)))
     refine s_move (d := (sc (.bool false))) rfl ?_
     refine s_not rfl ?_
     refine s_move (d := (sc (.bool true))) rfl ?_
     iterate 3 refine AWops.guard_no rfl (nl rfl) rfl rfl ?_
     refine s_pick_yes (d := (sc (.bool true))) rfl rfl rfl ?_
     refine s_move (d := (sc (.bool true))) rfl ?_
     refine AWops.guard_no rfl (nl rfl) rfl rfl ?_
     refine AWops.guard_no rfl (nl rfl) rfl rfl ?_
     refine s_pick_yes (d := (sc (.bool true))) rfl rfl rfl ?_
     refine s_move (d := (sc (.bool true))) rfl ?_
     iterate 5 refine AWops.guard_no rfl (nl rfl) rfl rfl ?_
     refine s_pick_yes (d := (sc (.bool true))) rfl rfl rfl ?_
     refine s_move (d := (sc (.bool true))) rfl ?_
     iterate 5 refine AWops.guard_no rfl (nl rfl) rfl rfl ?_
     refine s_pick_yes (d := (sc (.bool true))) rfl rfl rfl ?_
     refine s_move (d := (sc (.bool true))) rfl ?_
     iterate 5 refine AWops.guard_no rfl (nl rfl) rfl rfl ?_
     refine s_pick_yes (d := (sc (.bool true))) rfl rfl rfl ?_
     refine s_move (d := (sc (.bool true))) rfl ?_
     iterate 3 refine AWops.guard_no rfl (nl rfl) rfl rfl ?_
     refine s_pick_yes (d := (sc (.bool true))) rfl rfl rfl ?_
     refine s_move (d := (sc (.bool true))) rfl ?_
     iterate 7 refine AWops.guard_no rfl (nl rfl) rfl rfl ?_
     refine s_pick_yes (d := (sc (.bool true))) rfl rfl rfl ?_
     refine s_move (d := (sc (.bool true))) rfl ?_
     iterate 3 refine AWops.guard_no rfl (nl rfl) rfl rfl ?_
     refine s_pick_yes (d := (sc (.bool true))) rfl rfl rfl (AWops.nil ?_)
     refine AW.cond_yes rfl rfl (AW.seq (AW.region ?_))
     refine s_assign (d := (sc (.bool false))) rfl (AWops.nil (AW.ret ?_))
     obtain rfl := Option.some.inj h
     exact ⟨_, rfl, (Weak.gen (kk := 0) [] [] rfl rfl (by decide) (by decide) rfl rfl rfl (le_upd (le_top _) (.t (.one .sc))) an)⟩
end Go.Abs.GenW
