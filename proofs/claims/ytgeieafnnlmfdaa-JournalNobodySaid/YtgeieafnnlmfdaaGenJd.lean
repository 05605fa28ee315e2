import Derived.Test.YtgeieafnnlmfdaaGenJc
set_option linter.unusedVariables false
set_option linter.unusedSimpArgs false
set_option maxRecDepth 100000
set_option maxHeartbeats 4000000
namespace Go.Abs.GenJ
open Go.Abs Go.Proofs
mutual
def journal_Journal_Append_7.j0 : Nat → Int → Int → Bool → (List (ByteArray × vdisk_file)) → Int → (List Int) → (Int × journal_Journal × vdisk_Disk) → Option (Int × journal_Journal × vdisk_Disk)
 | 0, _, _, _, _, _, _, _ => none
 | k + 1, x7, x8, x9, x10, x11, a1, r2 => if (x11 != 0) = true then (some (x11, (⟨(), r2.2.1.snap, r2.2.1.l, true⟩ : journal_Journal), (⟨x10, x7, x8, (), x9⟩ : vdisk_Disk))) else ((slices_Clone_byte_byte.f k a1).bind fun r13 => if (decide (r2.2.1.l.length + ([r13] : List (List Int)).length ≤ 5864062014805)) = true then (some (0, (⟨(), r2.2.1.snap, r2.2.1.l ++ ([r13] : List (List Int)), r2.2.1.stopped⟩ : journal_Journal), (⟨x10, x7, x8, (), x9⟩ : vdisk_Disk))) else none)
def journal_Journal_Append_7.j1 : Nat → Int → Int → Bool → (List (ByteArray × vdisk_file)) → Int → (List Int) → (Int × journal_Journal × vdisk_Disk) → Option (Int × journal_Journal × vdisk_Disk)
 | 0, _, _, _, _, _, _, _ => none
 | k + 1, x20, x21, x22, x23, x24, a1, r15 => if (x24 != 0) = true then (some (x24, (⟨(), r15.2.1.snap, r15.2.1.l, true⟩ : journal_Journal), (⟨x23, x20, x21, (), x22⟩ : vdisk_Disk))) else ((slices_Clone_byte_byte.f k a1).bind fun r26 => if (decide (r15.2.1.l.length + ([r26] : List (List Int)).length ≤ 5864062014805)) = true then (some (0, (⟨(), r15.2.1.snap, r15.2.1.l ++ ([r26] : List (List Int)), r15.2.1.stopped⟩ : journal_Journal), (⟨x23, x20, x21, (), x22⟩ : vdisk_Disk))) else none)
end
def journal_Journal_Append_7.f (k : Nat) (p0 : journal_Journal) (a1 : List Int) (p1 : vdisk_Disk) : Option (Int × journal_Journal × vdisk_Disk) := if (decide ((a1.length : Int) > 0)) = true then ((journal_Journal_may_24.f k (⟨(), p0.snap, p0.l, p0.stopped⟩ : journal_Journal) (decide ((a1.length : Int) ≤ 4194304)) p1).bind fun r2 => if (r2.1 != 0) = true then (some (r2.1, (⟨(), r2.2.1.snap, r2.2.1.l, r2.2.1.stopped⟩ : journal_Journal), r2.2.2)) else ((journal_frame.f k a1).bind fun r4 => (vdisk_Disk_Append_25.f k r2.2.2 (⟨#[106, 111, 117, 114, 110, 97, 108]⟩ : ByteArray) r4).bind fun r5 => if (r5.1 == 71) = true then (some (r5.1, (⟨(), r2.2.1.snap, r2.2.1.l, r2.2.1.stopped⟩ : journal_Journal), r5.2)) else (if (r5.1 == 0) = true then ((vdisk_Disk_Sync_27.f k r5.2 (⟨#[106, 111, 117, 114, 110, 97, 108]⟩ : ByteArray)).bind fun r8 => journal_Journal_Append_7.j0 k r8.2.room r8.2.used r8.2.dead r8.2.files r8.1 a1 r2) else (journal_Journal_Append_7.j0 k r5.2.room r5.2.used r5.2.dead r5.2.files r5.1 a1 r2)))) else ((journal_Journal_may_24.f k (⟨(), p0.snap, p0.l, p0.stopped⟩ : journal_Journal) false p1).bind fun r15 => if (r15.1 != 0) = true then (some (r15.1, (⟨(), r15.2.1.snap, r15.2.1.l, r15.2.1.stopped⟩ : journal_Journal), r15.2.2)) else ((journal_frame.f k a1).bind fun r17 => (vdisk_Disk_Append_25.f k r15.2.2 (⟨#[106, 111, 117, 114, 110, 97, 108]⟩ : ByteArray) r17).bind fun r18 => if (r18.1 == 71) = true then (some (r18.1, (⟨(), r15.2.1.snap, r15.2.1.l, r15.2.1.stopped⟩ : journal_Journal), r18.2)) else (if (r18.1 == 0) = true then ((vdisk_Disk_Sync_27.f k r18.2 (⟨#[106, 111, 117, 114, 110, 97, 108]⟩ : ByteArray)).bind fun r21 => journal_Journal_Append_7.j1 k r21.2.room r21.2.used r21.2.dead r21.2.files r21.1 a1 r15) else (journal_Journal_Append_7.j1 k r18.2.room r18.2.used r18.2.dead r18.2.files r18.1 a1 r15))))
theorem journal_Journal_Append_7.meets (k : Nat) (p0 : journal_Journal) (a1 : List Int) (p1 : vdisk_Disk) (r : Int × journal_Journal × vdisk_Disk) (h : journal_Journal_Append_7.f k p0 a1 p1 = some r) : Meets Try.prog 7 [(D.one (C.ref 0 0)), (D.one (C.p false (.sl a1.length (a1.flatMap e_u8))))] [(some (AObj.cells false [(C.ref 1 0), (C.p false (.sl p0.snap.length (p0.snap.flatMap e_u8))), (C.own 2 0 p0.l.length 1), (C.p true (.v (.bool p0.stopped)))])), (some (AObj.cells false [(C.mp 3), (C.p true (.v (.int .i64 p1.room))), (C.p true (.v (.int .i64 p1.used))), (C.p true (.v (.pointer none))), (C.p true (.v (.bool p1.dead)))])), (some (AObj.cells false (rowC (e_sl e_u8) p0.l))), (some (AObj.map false (mapE true e_vdisk_file p1.files)))] (sc (.int .i64 r.1)) [(some (AObj.cells false [(C.ref 1 0), (C.p false (.sl r.2.1.snap.length (r.2.1.snap.flatMap e_u8))), (C.own 4 0 r.2.1.l.length 1), (C.p true (.v (.bool r.2.1.stopped)))])), (some (AObj.cells false [(C.mp 5), (C.p true (.v (.int .i64 r.2.2.room))), (C.p true (.v (.int .i64 r.2.2.used))), (C.p true (.v (.pointer none))), (C.p true (.v (.bool r.2.2.dead)))])), none, none, (some (AObj.cells false (rowC (e_sl e_u8) r.2.1.l))), (some (AObj.map false (mapE true e_vdisk_file r.2.2.files)))] := by
 unfold journal_Journal_Append_7.f at h
 refine Meets.of_body (n := 54) Try.func7 rfl rfl (nl rfl) fun x hx => ?_
 replace hx : x.k = 4 := hx
 show AW _ x _ _ ⟨54, fr0 [(D.one (C.ref 0 0)), (D.one (C.p false (.sl a1.length (a1.flatMap e_u8))))], [(some (AObj.cells false [(C.ref 1 0), (C.p false (.sl p0.snap.length (p0.snap.flatMap e_u8))), (C.own 2 0 p0.l.length 1), (C.p true (.v (.bool p0.stopped)))])), (some (AObj.cells false [(C.mp 3), (C.p true (.v (.int .i64 p1.room))), (C.p true (.v (.int .i64 p1.used))), (C.p true (.v (.pointer none))), (C.p true (.v (.bool p1.dead)))])), (some (AObj.cells false (rowC (e_sl e_u8) p0.l))), (some (AObj.map false (mapE true e_vdisk_file p1.files)))]⟩
 refine AW.weak (st' := ⟨54, (upd 54 (upd 54 topF 0 (D.one (C.ref 0 0))) 1 (D.one (C.p false (.sl a1.length (a1.flatMap e_u8))))), [(some (AObj.cells false [(C.ref 1 0), (C.p false (.sl p0.snap.length (p0.snap.flatMap e_u8))), (C.own 4 0 p0.l.length 1), (C.p true (.v (.bool p0.stopped)))])), (some (AObj.cells false [(C.mp 5), (C.p true (.v (.int .i64 p1.room))), (C.p true (.v (.int .i64 p1.used))), (C.p true (.v (.pointer none))), (C.p true (.v (.bool p1.dead)))])), none, none, (some (AObj.cells false (rowC (e_sl e_u8) p0.l))), (some (AObj.map false (mapE true e_vdisk_file p1.files)))]⟩) (Weak.genL (kk := 4) [0, 1, 2, 3, 2, 3] [] hx rfl (by decide) rfl rfl rfl rfl (le_upd (le_upd (le_top _) (.t (.one (.ref rfl)))) (.t (.one .same))) (ac (.cells (fun h => h) (ac (.ref rfl) (ac .same (ac (.own rfl) (ac .sc an))))) (ac (.cells (fun h => h) (ac (.mp rfl) (ac .sc (ac .sc (ac .sc (ac .sc an)))))) (ac (.none _) (ac (.none _) (ac (.cells (fun h => h) (all2_row _)) (ac .map an))))))) (AW.seq (AW.region ?_))
 refine s_assign (d := (sc (.int .i64 0))) rfl (AWops.nil (AW.seq (AW.seq (AW.region ?_))))
 refine s_move (d := (D.one (C.ref 0 0))) rfl ?_
 refine s_move (d := (D.one (C.p false (.sl a1.length (a1.flatMap e_u8))))) rfl ?_
 refine s_len (n := a1.length) F.u_22 rfl (.inr ⟨(fun _ _ h => by cases h), ⟨_, rfl⟩⟩) ?_
 refine s_binI (v := (.bool (decide ((a1.length : Int) > 0)))) rfl rfl rfl ?_
 refine s_move (d := (sc (.bool (decide ((a1.length : Int) > 0))))) rfl ?_
 rcases itH h with ⟨c1, h⟩ | ⟨c1, h⟩
 ·refine AWops.guard_yes rfl (nl rfl) rfl c1 ?_
  refine s_move (d := (D.one (C.p false (.sl a1.length (a1.flatMap e_u8))))) rfl ?_
  refine AWops.guard_yes rfl (nl rfl) rfl c1 ?_
  refine s_len (n := a1.length) F.u_22 rfl (.inr ⟨(fun _ _ h => by cases h), ⟨_, rfl⟩⟩) ?_
  refine AWops.guard_yes rfl (nl rfl) rfl c1 ?_
  refine s_binI (v := (.bool (decide ((a1.length : Int) ≤ 4194304)))) rfl rfl rfl ?_
  refine s_pick_yes (d := (sc (.bool (decide ((a1.length : Int) ≤ 4194304))))) rfl c1 rfl ?_
  obtain ⟨r2, er2, h⟩ := bnd h
  refine s_call2 (ρ := [0, 1, 4, 5]) (br := false) (H2 := [(some (AObj.cells false [(C.ref 1 0), (C.p false (.sl r2.2.1.snap.length (r2.2.1.snap.flatMap e_u8))), (C.own 6 0 r2.2.1.l.length 1), (C.p true (.v (.bool r2.2.1.stopped)))])), (some (AObj.cells false [(C.mp 7), (C.p true (.v (.int .i64 r2.2.2.room))), (C.p true (.v (.int .i64 r2.2.2.used))), (C.p true (.v (.pointer none))), (C.p true (.v (.bool r2.2.2.dead)))])), none, none, none, none, (some (AObj.cells false (rowC (e_sl e_u8) r2.2.1.l))), (some (AObj.map false (mapE true e_vdisk_file r2.2.2.files)))]) (d := (sc (.int .i64 r2.1))) F.ca_24 rfl rfl (ac (.one (.ref rfl)) (ac (.one .sc) an)) (ac (.cells (ac (.ref rfl) (ac .imm (ac (.own rfl) (ac .sc an))))) (ac (.cells (ac (.mp rfl) (ac .sc (ac .sc (ac .sc (ac .sc an)))))) (ac (.cells (lend_row _)) (ac .map an)))) (by decide) rfl (journal_Journal_may_24.meets _ (⟨(), p0.snap, p0.l, p0.stopped⟩ : journal_Journal) (decide ((a1.length : Int) ≤ 4194304)) p1 r2 er2) (.inl rfl) (by first | rfl | (simp only [mergeH2, orF, Bool.false_or, Bool.or_false, Bool.true_or, Bool.or_true, mergeAt, mergeObj, renO, ren_row, List.drop_succ_cons, List.drop_zero, List.map_cons, List.map_nil, Option.map_some, Option.map_none, List.length_cons, List.length_nil, Nat.zero_add, List.append_assoc, List.cons_append, List.nil_append]; done) | (simp only [mergeH2, orF, Bool.false_or, Bool.or_false, Bool.true_or, Bool.or_true, mergeAt, mergeObj, renO, ren_row, List.drop_succ_cons, List.drop_zero, List.map_cons, List.map_nil, Option.map_some, Option.map_none, List.length_cons, List.length_nil, Nat.zero_add, List.append_assoc, List.cons_append, List.nil_append]; rfl)) rfl ?_
  refine s_assign (d := (sc (.int .i64 r2.1))) rfl (AWops.nil (AW.seq (AW.region ?_)))
  refine s_move (d := (sc (.int .i64 r2.1))) rfl ?_
  refine s_binI (v := (.bool (r2.1 != 0))) rfl rfl rfl (AWops.nil ?_)
  rcases itH h with ⟨c3, h⟩ | ⟨c3, h⟩
  ·refine AW.cond_yes rfl c3 (AW.seq (AW.region ?_))
   refine s_move (d := (sc (.int .i64 r2.1))) rfl ?_
   refine s_assign (d := (sc (.int .i64 r2.1))) rfl (AWops.nil (AW.ret ?_))
   obtain rfl := Option.some.inj h
   exact ⟨_, rfl, (Weak.gen (kk := 4) [0, 1, 2, 3, 6, 7] [] rfl rfl (by decide) (by decide) rfl rfl rfl (le_upd (le_top _) (.t (.one .sc))) (ac (.cells (fun h => h) (ac (.ref rfl) (ac .same (ac (.own rfl) (ac .sc an))))) (ac (.cells (fun h => h) (ac (.mp rfl) (ac .sc (ac .sc (ac .sc (ac .sc an)))))) (ac (.none _) (ac (.none _) (ac (.cells (fun h => h) (all2_row _)) (ac .map an)))))))⟩
  ·refine AW.cond_no rfl c3 (AW.skip (AW.seq ?_))
   refine AW.weak (st' := ⟨54, (upd 54 (upd 54 topF 0 (D.one (C.ref 0 0))) 1 (D.one (C.p false (.sl a1.length (a1.flatMap e_u8))))), [(some (AObj.cells false [(C.ref 1 0), (C.p false (.sl r2.2.1.snap.length (r2.2.1.snap.flatMap e_u8))), (C.own 4 0 r2.2.1.l.length 1), (C.p true (.v (.bool r2.2.1.stopped)))])), (some (AObj.cells false [(C.mp 5), (C.p true (.v (.int .i64 r2.2.2.room))), (C.p true (.v (.int .i64 r2.2.2.used))), (C.p true (.v (.pointer none))), (C.p true (.v (.bool r2.2.2.dead)))])), none, none, (some (AObj.cells false (rowC (e_sl e_u8) r2.2.1.l))), (some (AObj.map false (mapE true e_vdisk_file r2.2.2.files)))]⟩) (Weak.gen (kk := 4) [0, 1, 2, 3, 6, 7] [] hx rfl (by decide) (by decide) rfl rfl rfl (le_upd (le_upd (le_top _) (.t (.one (.ref rfl)))) (.t (.one .same))) (ac (.cells (fun h => h) (ac (.ref rfl) (ac .same (ac (.own rfl) (ac .sc an))))) (ac (.cells (fun h => h) (ac (.mp rfl) (ac .sc (ac .sc (ac .sc (ac .sc an)))))) (ac (.none _) (ac (.none _) (ac (.cells (fun h => h) (all2_row _)) (ac .map an))))))) ?_
   obtain ⟨r4, er4, h⟩ := bnd h
   obtain ⟨r5, er5, h⟩ := bnd h
   refine AW.draw (n := 54) (L := 8) [(0, ⟨some 20, (D.one (C.ref 0 0)), [(0, (D.one (C.ref 0 0)))], [], [], none⟩), (1, ⟨some 21, (D.one (C.ref 0 0)), [(20, (D.one (C.ref 0 0)))], [], [], none⟩), (2, ⟨some 22, (D.one (C.ref 0 0)), [(21, (D.one (C.ref 0 0)))], [], [], none⟩), (3, ⟨some 23, (D.one (C.ref 1 0)), [(22, (D.one (C.ref 0 0)))], [(0, (some (AObj.cells false [(C.ref 1 0), (C.p false (.sl r2.2.1.snap.length (r2.2.1.snap.flatMap e_u8))), (C.own 4 0 r2.2.1.l.length 1), (C.p true (.v (.bool r2.2.1.stopped)))])))], [], none⟩), (4, ⟨some 24, (D.one (C.p false (.sl a1.length (a1.flatMap e_u8)))), [(1, (D.one (C.p false (.sl a1.length (a1.flatMap e_u8)))))], [], [], none⟩), (5, ⟨some 25, (D.one (C.p false (.sl r4.length (r4.flatMap e_u8)))), [(24, (D.one (C.p false (.sl a1.length (a1.flatMap e_u8)))))], [], [], some 6⟩), (6, ⟨some 26, (sc (.int .i64 r5.1)), [(23, (D.one (C.ref 1 0))), (25, (D.one (C.p false (.sl r4.length (r4.flatMap e_u8)))))], [(1, (some (AObj.cells false [(C.mp 5), (C.p true (.v (.int .i64 r2.2.2.room))), (C.p true (.v (.int .i64 r2.2.2.used))), (C.p true (.v (.pointer none))), (C.p true (.v (.bool r2.2.2.dead)))]))), (5, (some (AObj.map false (mapE true e_vdisk_file r2.2.2.files))))], [(1, (some (AObj.cells false [(C.mp 7), (C.p true (.v (.int .i64 r5.2.room))), (C.p true (.v (.int .i64 r5.2.used))), (C.p true (.v (.pointer none))), (C.p true (.v (.bool r5.2.dead)))]))), (5, none), (7, (some (AObj.map false (mapE true e_vdisk_file r5.2.files))))], some 7⟩), (7, ⟨some 6, (sc (.int .i64 r5.1)), [(26, (sc (.int .i64 r5.1)))], [], [], none⟩)] [[], [0], [0, 1], [0, 1, 2], [], [4], [0, 1, 2, 3, 4, 5], [0, 1, 2, 3, 4, 5, 6]] (nl rfl) [0, 1, 2, 3, 0, 1, 4, 5] rfl (TK := [(5, 6), (6, 7)]) rfl (AllK.cons' ⟨(tk_upd (tk_upd tk_top rfl) rfl), (tC rfl (tC rfl (tC rfl (tC rfl (tC (tkO_row _) (tC rfl AllT.nil')))))), (fC (.inr rfl) (fC (.inr rfl) (fC (.inr rfl) (fC (.inr rfl) (fC (.inr rfl) (fC (.inl rfl) (fC (.inl rfl) (fC (.inl rfl) AllF.nil'))))))))⟩ (AllK.cons' ⟨(tk_upd (tk_upd tk_top rfl) rfl), (tC rfl (tC rfl (tC rfl (tC rfl (tC (tkO_row _) (tC rfl AllT.nil')))))), (fC (.inr rfl) (fC (.inr rfl) (fC (.inr rfl) (fC (.inr rfl) (fC (.inr rfl) (fC (.inr rfl) (fC (.inl rfl) (fC (.inl rfl) AllF.nil'))))))))⟩ AllK.nil')) (fC ⟨(sC rfl AllS.nil'), AllH.nil'⟩ (fC ⟨(sC rfl AllS.nil'), AllH.nil'⟩ (fC ⟨(sC rfl AllS.nil'), AllH.nil'⟩ (fC ⟨(sC rfl AllS.nil'), (hC rfl AllH.nil')⟩ (fC ⟨(sC rfl AllS.nil'), AllH.nil'⟩ (fC ⟨(sC rfl AllS.nil'), AllH.nil'⟩ (fC ⟨(sC rfl (sC rfl AllS.nil')), (hC rfl (hC rfl AllH.nil'))⟩ (fC ⟨(sC rfl AllS.nil'), AllH.nil'⟩ AllF.nil')))))))) ?_ ?_
   ·refine (pC ?_ (pC ?_ (pC ?_ (pC ?_ (pC ?_ (pC ?_ (pC ?_ (pC ?_ AllStep.nil'))))))))
    ·intro K rest fr hv htk k
     show AWops _ x _ _ K ⟨54, (upd 54 fr 0 (D.one (C.ref 0 0))), _⟩
     refine s_move (d := (D.one (C.ref 0 0))) rfl k
    ·intro K rest fr hv htk k
     show AWops _ x _ _ K ⟨54, (upd 54 fr 20 (D.one (C.ref 0 0))), [(hv 0), (hv 1), (hv 2), (hv 3), (hv 4), (hv 5), (hv 6), (hv 7)]⟩
     refine s_nilCheck (d := (D.one (C.ref 0 0))) rfl (.inl ⟨_, _, rfl⟩) k
    ·intro K rest fr hv htk k
     show AWops _ x _ _ K ⟨54, (upd 54 fr 21 (D.one (C.ref 0 0))), [(hv 0), (hv 1), (hv 2), (hv 3), (hv 4), (hv 5), (hv 6), (hv 7)]⟩
     refine s_fieldRef F.fo_27_0 (by decide) rfl k
    ·intro K rest fr hv htk k
     show AWops _ x _ _ K ⟨54, (upd 54 fr 22 (D.one (C.ref 0 0))), [(some (AObj.cells false [(C.ref 1 0), (C.p false (.sl r2.2.1.snap.length (r2.2.1.snap.flatMap e_u8))), (C.own 4 0 r2.2.1.l.length 1), (C.p true (.v (.bool r2.2.1.stopped)))])), (hv 1), (hv 2), (hv 3), (hv 4), (hv 5), (hv 6), (hv 7)]⟩
     refine s_load1 (c' := (C.ref 1 0)) F.ag_24 rfl rfl k
    ·intro K rest fr hv htk k
     show AWops _ x _ _ K ⟨54, (upd 54 fr 1 (D.one (C.p false (.sl a1.length (a1.flatMap e_u8))))), _⟩
     refine s_move (d := (D.one (C.p false (.sl a1.length (a1.flatMap e_u8))))) rfl k
    ·intro K rest fr hv htk k
     show AWops _ x _ _ K ⟨54, (upd 54 fr 24 (D.one (C.p false (.sl a1.length (a1.flatMap e_u8))))), [(hv 0), (hv 1), (hv 2), (hv 3), (hv 4), (hv 5), (hv 6), (hv 7)]⟩
     refine s_call2 (ρ := []) (br := false) (H2 := [(hv 0), (hv 1), (hv 2), (hv 3), (hv 4), (hv 5), (hv 6), (hv 7), (some (AObj.cells true (rowC e_u8 r4)))]) (d := (D.one (C.own 8 0 r4.length 1))) F.ca_26 rfl rfl (ac (.one .imm) an) an (by decide) rfl (journal_frame.meets _ a1 r4 er4) (.inl rfl) (by first | rfl | (simp only [mergeH2, orF, Bool.false_or, Bool.or_false, Bool.true_or, Bool.or_true, mergeAt, mergeObj, renO, ren_row, List.drop_succ_cons, List.drop_zero, List.map_cons, List.map_nil, Option.map_some, Option.map_none, List.length_cons, List.length_nil, Nat.zero_add, List.append_assoc, List.cons_append, List.nil_append]; done) | (simp only [mergeH2, orF, Bool.false_or, Bool.or_false, Bool.true_or, Bool.or_true, mergeAt, mergeObj, renO, ren_row, List.drop_succ_cons, List.drop_zero, List.map_cons, List.map_nil, Option.map_some, Option.map_none, List.length_cons, List.length_nil, Nat.zero_add, List.append_assoc, List.cons_append, List.nil_append]; rfl)) rfl ?_
     refine AWops.weak (st' := ⟨54, (upd 54 (upd 54 fr 24 (D.one (C.p false (.sl a1.length (a1.flatMap e_u8))))) 25 (D.one (C.p false (.sl r4.length (r4.flatMap e_u8))))), [(hv 0), (hv 1), (hv 2), (hv 3), (hv 4), (hv 5), (hv 6), (hv 7)]⟩) (Weak.gen (kk := 4) [0, 1, 2, 3, 4, 5, 6, 7] [8] hx rfl (by decide) (by decide) rfl rfl rfl (le_upd2 (le_ok (p := 6) (L := 8) rfl (htk 6 rfl).1) (.t (.one (CLe.frz e_u8_len rfl rfl rfl)))) (ac (ole_ok (p := 6) (L := 8) rfl ((htk 6 rfl).2 0)) (ac (ole_ok (p := 6) (L := 8) rfl ((htk 6 rfl).2 1)) (ac (ole_ok (p := 6) (L := 8) rfl ((htk 6 rfl).2 2)) (ac (ole_ok (p := 6) (L := 8) rfl ((htk 6 rfl).2 3)) (ac (ole_ok (p := 6) (L := 8) rfl ((htk 6 rfl).2 4)) (ac (ole_ok (p := 6) (L := 8) rfl ((htk 6 rfl).2 5)) (ac (ole_ok (p := 6) (L := 8) rfl ((htk 6 rfl).2 6)) (ac (ole_ok (p := 6) (L := 8) rfl ((htk 6 rfl).2 7)) an))))))))) k
    ·intro K rest fr hv htk k
     show AWops _ x _ _ K ⟨54, (upd 54 (upd 54 fr 25 (D.one (C.p false (.sl r4.length (r4.flatMap e_u8))))) 23 (D.one (C.ref 1 0))), [(hv 0), (some (AObj.cells false [(C.mp 5), (C.p true (.v (.int .i64 r2.2.2.room))), (C.p true (.v (.int .i64 r2.2.2.used))), (C.p true (.v (.pointer none))), (C.p true (.v (.bool r2.2.2.dead)))])), (hv 2), (hv 3), (hv 4), (some (AObj.map false (mapE true e_vdisk_file r2.2.2.files))), (hv 6), (hv 7)]⟩
     refine s_call2 (ρ := [1, 5]) (br := false) (H2 := [(hv 0), (some (AObj.cells false [(C.mp 8), (C.p true (.v (.int .i64 r5.2.room))), (C.p true (.v (.int .i64 r5.2.used))), (C.p true (.v (.pointer none))), (C.p true (.v (.bool r5.2.dead)))])), (hv 2), (hv 3), (hv 4), none, (hv 6), (hv 7), (some (AObj.map false (mapE true e_vdisk_file r5.2.files)))]) (d := (sc (.int .i64 r5.1))) F.ca_25 rfl rfl (ac (.one (.ref rfl)) (ac (.one .sc) (ac (.one .imm) an))) (ac (.cells (ac (.mp rfl) (ac .sc (ac .sc (ac .sc (ac .sc an)))))) (ac .map an)) (by decide) rfl (vdisk_Disk_Append_25.meets _ r2.2.2 (⟨#[106, 111, 117, 114, 110, 97, 108]⟩ : ByteArray) r4 r5 er5) (.inl rfl) rfl rfl ?_
     refine AWops.weak (st' := ⟨54, (upd 54 (upd 54 (upd 54 fr 25 (D.one (C.p false (.sl r4.length (r4.flatMap e_u8))))) 23 (D.one (C.ref 1 0))) 26 (sc (.int .i64 r5.1))), [(hv 0), (some (AObj.cells false [(C.mp 7), (C.p true (.v (.int .i64 r5.2.room))), (C.p true (.v (.int .i64 r5.2.used))), (C.p true (.v (.pointer none))), (C.p true (.v (.bool r5.2.dead)))])), (hv 2), (hv 3), (hv 4), none, (hv 6), (some (AObj.map false (mapE true e_vdisk_file r5.2.files)))]⟩) (Weak.gen (kk := 4) [0, 1, 2, 3, 4, 5, 6, 8] [] hx rfl (by decide) (by decide) rfl rfl rfl (le_upd2 (le_ok (p := 7) (L := 8) rfl (htk 7 rfl).1) (.t (.one .sc))) (ac (ole_ok (p := 7) (L := 8) rfl ((htk 7 rfl).2 0)) (ac (.cells (fun h => h) (ac (.mp rfl) (ac .sc (ac .sc (ac .sc (ac .sc an)))))) (ac (ole_ok (p := 7) (L := 8) rfl ((htk 7 rfl).2 2)) (ac (ole_ok (p := 7) (L := 8) rfl ((htk 7 rfl).2 3)) (ac (ole_ok (p := 7) (L := 8) rfl ((htk 7 rfl).2 4)) (ac (.none _) (ac (ole_ok (p := 7) (L := 8) rfl ((htk 7 rfl).2 6)) (ac .map an))))))))) k
    ·intro K rest fr hv htk k
     show AWops _ x _ _ K ⟨54, (upd 54 fr 26 (sc (.int .i64 r5.1))), _⟩
     refine s_assign (d := (sc (.int .i64 r5.1))) rfl k
   ·refine AWops.weak (st' := ⟨54, (upd 54 (upd 54 (upd 54 topF 0 (D.one (C.ref 0 0))) 1 (D.one (C.p false (.sl a1.length (a1.flatMap e_u8))))) 6 (sc (.int .i64 r5.1))), [(some (AObj.cells false [(C.ref 1 0), (C.p false (.sl r2.2.1.snap.length (r2.2.1.snap.flatMap e_u8))), (C.own 4 0 r2.2.1.l.length 1), (C.p true (.v (.bool r2.2.1.stopped)))])), (some (AObj.cells false [(C.mp 5), (C.p true (.v (.int .i64 r5.2.room))), (C.p true (.v (.int .i64 r5.2.used))), (C.p true (.v (.pointer none))), (C.p true (.v (.bool r5.2.dead)))])), none, none, (some (AObj.cells false (rowC (e_sl e_u8) r2.2.1.l))), (some (AObj.map false (mapE true e_vdisk_file r5.2.files)))]⟩) (Weak.gen (kk := 4) [0, 1, 2, 3, 4, 7] [] hx rfl (by decide) (by decide) rfl rfl rfl (le_upd (le_upd (le_upd (le_top _) (.t (.one (.ref rfl)))) (.t (.one .same))) (.t (.one .sc))) (ac (.cells (fun h => h) (ac (.ref rfl) (ac .same (ac (.own rfl) (ac .sc an))))) (ac (.cells (fun h => h) (ac (.mp rfl) (ac .sc (ac .sc (ac .sc (ac .sc an)))))) (ac (.none _) (ac (.none _) (ac (.cells (fun h => h) (all2_row _)) (ac .map an))))))) (AWops.nil (AW.seq (AW.seq (AW.region ?_))))
    refine s_move (d := (sc (.int .i64 r5.1))) rfl ?_
    refine s_binI (v := (.bool (r5.1 == 71))) rfl rfl rfl (AWops.nil ?_)
    rcases itH h with ⟨c6, h⟩ | ⟨c6, h⟩
    ·refine AW.cond_yes rfl c6 (AW.seq (AW.region ?_))
     refine s_move (d := (sc (.int .i64 r5.1))) rfl ?_
     refine s_assign (d := (sc (.int .i64 r5.1))) rfl (AWops.nil (AW.ret ?_))
     obtain rfl := Option.some.inj h
     exact ⟨_, rfl, (Weak.gen (kk := 4) [0, 1, 2, 3, 4, 5] [] rfl rfl (by decide) (by decide) rfl rfl rfl (le_upd (le_top _) (.t (.one .sc))) (ac (.cells (fun h => h) (ac (.ref rfl) (ac .same (ac (.own rfl) (ac .sc an))))) (ac (.cells (fun h => h) (ac (.mp rfl) (ac .sc (ac .sc (ac .sc (ac .sc an)))))) (ac (.none _) (ac (.none _) (ac (.cells (fun h => h) (all2_row _)) (ac .map an)))))))⟩
    ·refine AW.cond_no rfl c6 (AW.skip ?_)
     refine AW.seqJ (fun st => ∃ (x7 : Int) (x8 : Int) (x9 : Bool) (x10 : List (ByteArray × vdisk_file)) (x11 : Int), journal_Journal_Append_7.j0 k x7 x8 x9 x10 x11 a1 r2 = some r ∧ st = ⟨54, (upd 54 (upd 54 (upd 54 topF 0 (D.one (C.ref 0 0))) 1 (D.one (C.p false (.sl a1.length (a1.flatMap e_u8))))) 6 (sc (.int .i64 x11))), [(some (AObj.cells false [(C.ref 1 0), (C.p false (.sl r2.2.1.snap.length (r2.2.1.snap.flatMap e_u8))), (C.own 4 0 r2.2.1.l.length 1), (C.p true (.v (.bool r2.2.1.stopped)))])), (some (AObj.cells false [(C.mp 5), (C.p true (.v (.int .i64 x7))), (C.p true (.v (.int .i64 x8))), (C.p true (.v (.pointer none))), (C.p true (.v (.bool x9)))])), none, none, (some (AObj.cells false (rowC (e_sl e_u8) r2.2.1.l))), (some (AObj.map false (mapE true e_vdisk_file x10)))]⟩) ?_ ?_
     ·refine AW.seq (AW.region ?_)
      refine s_move (d := (sc (.int .i64 r5.1))) rfl ?_
      refine s_binI (v := (.bool (r5.1 == 0))) rfl rfl rfl (AWops.nil ?_)
      rcases itH h with ⟨c7, h⟩ | ⟨c7, h⟩
      ·refine AW.cond_yes rfl c7 (AW.region ?_)
       refine s_move (d := (D.one (C.ref 0 0))) rfl ?_
       refine s_nilCheck (d := (D.one (C.ref 0 0))) rfl (.inl ⟨_, _, rfl⟩) ?_
       refine s_fieldRef F.fo_27_0 (by decide) rfl ?_
       refine s_load1 (c' := (C.ref 1 0)) F.ag_24 rfl rfl ?_
       obtain ⟨r8, er8, h⟩ := bnd h
       refine s_call2 (ρ := [1, 5]) (br := false) (H2 := [(some (AObj.cells false [(C.ref 1 0), (C.p false (.sl r2.2.1.snap.length (r2.2.1.snap.flatMap e_u8))), (C.own 4 0 r2.2.1.l.length 1), (C.p true (.v (.bool r2.2.1.stopped)))])), (some (AObj.cells false [(C.mp 6), (C.p true (.v (.int .i64 r8.2.room))), (C.p true (.v (.int .i64 r8.2.used))), (C.p true (.v (.pointer none))), (C.p true (.v (.bool r8.2.dead)))])), none, none, (some (AObj.cells false (rowC (e_sl e_u8) r2.2.1.l))), none, (some (AObj.map false (mapE true e_vdisk_file r8.2.files)))]) (d := (sc (.int .i64 r8.1))) F.ca_27 rfl rfl (ac (.one (.ref rfl)) (ac (.one .sc) an)) (ac (.cells (ac (.mp rfl) (ac .sc (ac .sc (ac .sc (ac .sc an)))))) (ac .map an)) (by decide) rfl (vdisk_Disk_Sync_27.meets _ r5.2 (⟨#[106, 111, 117, 114, 110, 97, 108]⟩ : ByteArray) r8 er8) (.inl rfl) rfl rfl ?_
       refine s_assign (d := (sc (.int .i64 r8.1))) rfl (AWops.nil ?_)
       exact ⟨⟨54, (upd 54 (upd 54 (upd 54 topF 0 (D.one (C.ref 0 0))) 1 (D.one (C.p false (.sl a1.length (a1.flatMap e_u8))))) 6 (sc (.int .i64 r8.1))), [(some (AObj.cells false [(C.ref 1 0), (C.p false (.sl r2.2.1.snap.length (r2.2.1.snap.flatMap e_u8))), (C.own 4 0 r2.2.1.l.length 1), (C.p true (.v (.bool r2.2.1.stopped)))])), (some (AObj.cells false [(C.mp 5), (C.p true (.v (.int .i64 r8.2.room))), (C.p true (.v (.int .i64 r8.2.used))), (C.p true (.v (.pointer none))), (C.p true (.v (.bool r8.2.dead)))])), none, none, (some (AObj.cells false (rowC (e_sl e_u8) r2.2.1.l))), (some (AObj.map false (mapE true e_vdisk_file r8.2.files)))]⟩, (Weak.gen (kk := 4) [0, 1, 2, 3, 4, 6] [] hx rfl (by decide) (by decide) rfl rfl rfl (le_upd (le_upd (le_upd (le_top _) (.t (.one (.ref rfl)))) (.t (.one .same))) (.t (.one .sc))) (ac (.cells (fun h => h) (ac (.ref rfl) (ac .same (ac (.own rfl) (ac .sc an))))) (ac (.cells (fun h => h) (ac (.mp rfl) (ac .sc (ac .sc (ac .sc (ac .sc an)))))) (ac (.none _) (ac (.none _) (ac (.cells (fun h => h) (all2_row _)) (ac .map an))))))), r8.2.room, r8.2.used, r8.2.dead, r8.2.files, r8.1, h, rfl⟩
      ·refine AW.cond_no rfl c7 (AW.skip ?_)
       exact ⟨⟨54, (upd 54 (upd 54 (upd 54 topF 0 (D.one (C.ref 0 0))) 1 (D.one (C.p false (.sl a1.length (a1.flatMap e_u8))))) 6 (sc (.int .i64 r5.1))), [(some (AObj.cells false [(C.ref 1 0), (C.p false (.sl r2.2.1.snap.length (r2.2.1.snap.flatMap e_u8))), (C.own 4 0 r2.2.1.l.length 1), (C.p true (.v (.bool r2.2.1.stopped)))])), (some (AObj.cells false [(C.mp 5), (C.p true (.v (.int .i64 r5.2.room))), (C.p true (.v (.int .i64 r5.2.used))), (C.p true (.v (.pointer none))), (C.p true (.v (.bool r5.2.dead)))])), none, none, (some (AObj.cells false (rowC (e_sl e_u8) r2.2.1.l))), (some (AObj.map false (mapE true e_vdisk_file r5.2.files)))]⟩, (Weak.gen (kk := 4) [0, 1, 2, 3, 4, 5] [] hx rfl (by decide) (by decide) rfl rfl rfl (le_upd (le_upd (le_upd (le_top _) (.t (.one (.ref rfl)))) (.t (.one .same))) (.t (.one .sc))) (ac (.cells (fun h => h) (ac (.ref rfl) (ac .same (ac (.own rfl) (ac .sc an))))) (ac (.cells (fun h => h) (ac (.mp rfl) (ac .sc (ac .sc (ac .sc (ac .sc an)))))) (ac (.none _) (ac (.none _) (ac (.cells (fun h => h) (all2_row _)) (ac .map an))))))), r5.2.room, r5.2.used, r5.2.dead, r5.2.files, r5.1, h, rfl⟩
     ·rintro st ⟨x7, x8, x9, x10, x11, h, rfl⟩
      cases k with
      | zero => exact absurd h (by simp [journal_Journal_Append_7.j0])
      | succ qj0 =>
       replace h := (journal_Journal_Append_7.j0.eq_2 _ _ _ _ _ _ _ _).symm.trans h
       refine AW.seq (AW.seq (AW.region ?_))
       refine s_move (d := (sc (.int .i64 x11))) rfl ?_
       refine s_binI (v := (.bool (x11 != 0))) rfl rfl rfl (AWops.nil ?_)
       rcases itH h with ⟨c12, h⟩ | ⟨c12, h⟩
       ·refine AW.cond_yes rfl c12 (AW.seq (AW.region ?_))
        refine s_move (d := (D.one (C.ref 0 0))) rfl ?_
        refine s_nilCheck (d := (D.one (C.ref 0 0))) rfl (.inl ⟨_, _, rfl⟩) ?_
        refine s_fieldRef F.fo_27_3 (by decide) rfl ?_
        refine s_store (cs' := [(C.ref 1 0), (C.p false (.sl r2.2.1.snap.length (r2.2.1.snap.flatMap e_u8))), (C.own 4 0 r2.2.1.l.length 1), (C.p true (.v (.bool true)))]) rfl rfl rfl (List.cons_ne_nil _ _) rfl F.sz_4 (nl rfl) rfl (AWops.nil (AW.seq (AW.region ?_)))
        refine s_move (d := (sc (.int .i64 x11))) rfl ?_
        refine s_assign (d := (sc (.int .i64 x11))) rfl (AWops.nil (AW.ret ?_))
        obtain rfl := Option.some.inj h
        exact ⟨_, rfl, (Weak.gen (kk := 4) [0, 1, 2, 3, 4, 5] [] rfl rfl (by decide) (by decide) rfl rfl rfl (le_upd (le_top _) (.t (.one .sc))) (ac (.cells (fun h => h) (ac (.ref rfl) (ac .same (ac (.own rfl) (ac .sc an))))) (ac (.cells (fun h => h) (ac (.mp rfl) (ac .sc (ac .sc (ac .sc (ac .sc an)))))) (ac (.none _) (ac (.none _) (ac (.cells (fun h => h) (all2_row _)) (ac .map an)))))))⟩
       ·refine AW.cond_no rfl c12 (AW.skip (AW.seq ?_))
        refine AW.weak (st' := ⟨54, (upd 54 (upd 54 topF 0 (D.one (C.ref 0 0))) 1 (D.one (C.p false (.sl a1.length (a1.flatMap e_u8))))), [(some (AObj.cells false [(C.ref 1 0), (C.p false (.sl r2.2.1.snap.length (r2.2.1.snap.flatMap e_u8))), (C.own 4 0 r2.2.1.l.length 1), (C.p true (.v (.bool r2.2.1.stopped)))])), (some (AObj.cells false [(C.mp 5), (C.p true (.v (.int .i64 x7))), (C.p true (.v (.int .i64 x8))), (C.p true (.v (.pointer none))), (C.p true (.v (.bool x9)))])), none, none, (some (AObj.cells false (rowC (e_sl e_u8) r2.2.1.l))), (some (AObj.map false (mapE true e_vdisk_file x10)))]⟩) (Weak.gen (kk := 4) [0, 1, 2, 3, 4, 5] [] hx rfl (by decide) (by decide) rfl rfl rfl (le_upd (le_upd (le_top _) (.t (.one (.ref rfl)))) (.t (.one .same))) (ac (.cells (fun h => h) (ac (.ref rfl) (ac .same (ac (.own rfl) (ac .sc an))))) (ac (.cells (fun h => h) (ac (.mp rfl) (ac .sc (ac .sc (ac .sc (ac .sc an)))))) (ac (.none _) (ac (.none _) (ac (.cells (fun h => h) (all2_row _)) (ac .map an))))))) ?_
        obtain ⟨r13, er13, h⟩ := bnd h
        obtain ⟨c14, h⟩ := gdH h
        have dc14 := of_decide_eq_true c14
        refine AW.draw (n := 54) (L := 9) [(0, ⟨some 43, (D.one (C.ref 0 0)), [(0, (D.one (C.ref 0 0)))], [], [], none⟩), (1, ⟨some 44, (D.one (C.ref 0 0)), [(0, (D.one (C.ref 0 0)))], [], [], none⟩), (2, ⟨some 45, (D.one (C.ref 0 0)), [(44, (D.one (C.ref 0 0)))], [], [], none⟩), (3, ⟨some 46, (D.one (C.ref 0 2)), [(45, (D.one (C.ref 0 0)))], [], [], none⟩), (4, ⟨some 47, (D.one (C.own 4 0 r2.2.1.l.length 1)), [(46, (D.one (C.ref 0 2)))], [(0, (some (AObj.cells false [(C.ref 1 0), (C.p false (.sl r2.2.1.snap.length (r2.2.1.snap.flatMap e_u8))), (C.own 4 0 r2.2.1.l.length 1), (C.p true (.v (.bool r2.2.1.stopped)))])))], [], none⟩), (5, ⟨some 48, (D.one (C.p false (.sl a1.length (a1.flatMap e_u8)))), [(1, (D.one (C.p false (.sl a1.length (a1.flatMap e_u8)))))], [], [], none⟩), (6, ⟨some 49, (D.one (C.p false (.sl r13.length (r13.flatMap e_u8)))), [(48, (D.one (C.p false (.sl a1.length (a1.flatMap e_u8)))))], [], [], some 6⟩), (7, ⟨some 50, (D.one (C.own 7 0 (([r13] : List (List Int)).length) 1)), [(49, (D.one (C.p false (.sl r13.length (r13.flatMap e_u8)))))], [], [(7, (some (AObj.cells true (rowC (e_sl e_u8) ([r13] : List (List Int))))))], some 7⟩), (8, ⟨some 51, (D.one (C.own 8 0 ((r2.2.1.l ++ ([r13] : List (List Int))).length) 1)), [(47, (D.one (C.own 4 0 r2.2.1.l.length 1))), (50, (D.one (C.own 7 0 (([r13] : List (List Int)).length) 1)))], [(4, (some (AObj.cells false (rowC (e_sl e_u8) r2.2.1.l)))), (7, (some (AObj.cells true (rowC (e_sl e_u8) ([r13] : List (List Int))))))], [(4, none), (8, (some (AObj.cells false (rowC (e_sl e_u8) (r2.2.1.l ++ ([r13] : List (List Int)))))))], some 8⟩), (9, ⟨some 52, (D.one (C.ref 0 0)), [(43, (D.one (C.ref 0 0)))], [], [], none⟩), (10, ⟨some 53, (D.one (C.ref 0 2)), [(52, (D.one (C.ref 0 0)))], [], [], none⟩), (11, ⟨none, (D.one C.top), [(51, (D.one (C.own 8 0 ((r2.2.1.l ++ ([r13] : List (List Int))).length) 1))), (53, (D.one (C.ref 0 2)))], [(0, (some (AObj.cells false [(C.ref 1 0), (C.p false (.sl r2.2.1.snap.length (r2.2.1.snap.flatMap e_u8))), (C.own 4 0 r2.2.1.l.length 1), (C.p true (.v (.bool r2.2.1.stopped)))])))], [(0, (some (AObj.cells false [(C.ref 1 0), (C.p false (.sl r2.2.1.snap.length (r2.2.1.snap.flatMap e_u8))), (C.own 8 0 ((r2.2.1.l ++ ([r13] : List (List Int))).length) 1), (C.p true (.v (.bool r2.2.1.stopped)))])))], none⟩)] [[], [], [1], [1, 2], [1, 2, 3], [], [5], [5, 6], [1, 2, 3, 4, 5, 6, 7], [0, 1, 2, 3, 4, 5, 6, 7, 8], [0, 1, 2, 3, 4, 5, 6, 7, 8, 9], [0, 1, 2, 3, 4, 5, 6, 7, 8, 9, 10]] (nl rfl) [0, 0, 1, 2, 3, 0, 1, 2, 4, 5, 6, 7] rfl (TK := [(6, 6), (7, 7), (8, 8)]) rfl (AllK.cons' ⟨(tk_upd (tk_upd tk_top rfl) rfl), (tC rfl (tC rfl (tC rfl (tC rfl (tC (tkO_row _) (tC rfl AllT.nil')))))), (fC (.inr rfl) (fC (.inr rfl) (fC (.inr rfl) (fC (.inr rfl) (fC (.inr rfl) (fC (.inr rfl) (fC (.inl rfl) (fC (.inl rfl) (fC (.inl rfl) (fC (.inl rfl) (fC (.inl rfl) (fC (.inl rfl) AllF.nil'))))))))))))⟩ (AllK.cons' ⟨(tk_upd (tk_upd tk_top rfl) rfl), (tC rfl (tC rfl (tC rfl (tC rfl (tC (tkO_row _) (tC rfl AllT.nil')))))), (fC (.inr rfl) (fC (.inr rfl) (fC (.inr rfl) (fC (.inr rfl) (fC (.inr rfl) (fC (.inr rfl) (fC (.inr rfl) (fC (.inl rfl) (fC (.inl rfl) (fC (.inl rfl) (fC (.inl rfl) (fC (.inl rfl) AllF.nil'))))))))))))⟩ (AllK.cons' ⟨(tk_upd (tk_upd tk_top rfl) rfl), (tC rfl (tC rfl (tC rfl (tC rfl (tC (tkO_row _) (tC rfl AllT.nil')))))), (fC (.inr rfl) (fC (.inr rfl) (fC (.inr rfl) (fC (.inr rfl) (fC (.inr rfl) (fC (.inr rfl) (fC (.inr rfl) (fC (.inr (by unfold tkFoot; simp only [List.all_cons, List.all_nil, tkO_row, Bool.and_true, Bool.true_and]; rfl)) (fC (.inl rfl) (fC (.inl rfl) (fC (.inl rfl) (fC (.inl rfl) AllF.nil'))))))))))))⟩ AllK.nil'))) (fC ⟨(sC rfl AllS.nil'), AllH.nil'⟩ (fC ⟨(sC rfl AllS.nil'), AllH.nil'⟩ (fC ⟨(sC rfl AllS.nil'), AllH.nil'⟩ (fC ⟨(sC rfl AllS.nil'), AllH.nil'⟩ (fC ⟨(sC rfl AllS.nil'), (hC rfl AllH.nil')⟩ (fC ⟨(sC rfl AllS.nil'), AllH.nil'⟩ (fC ⟨(sC rfl AllS.nil'), AllH.nil'⟩ (fC ⟨(sC rfl AllS.nil'), AllH.nil'⟩ (fC ⟨(sC rfl (sC rfl AllS.nil')), (hC rfl (hC rfl AllH.nil'))⟩ (fC ⟨(sC rfl AllS.nil'), AllH.nil'⟩ (fC ⟨(sC rfl AllS.nil'), AllH.nil'⟩ (fC ⟨(sC rfl (sC rfl AllS.nil')), (hC rfl AllH.nil')⟩ AllF.nil')))))))))))) ?_ ?_
        ·refine (pC ?_ (pC ?_ (pC ?_ (pC ?_ (pC ?_ (pC ?_ (pC ?_ (pC ?_ (pC ?_ (pC ?_ (pC ?_ (pC ?_ AllStep.nil'))))))))))))
         ·intro K rest fr hv htk k
          show AWops _ x _ _ K ⟨54, (upd 54 fr 0 (D.one (C.ref 0 0))), _⟩
          refine s_move (d := (D.one (C.ref 0 0))) rfl k
         ·intro K rest fr hv htk k
          show AWops _ x _ _ K ⟨54, (upd 54 fr 0 (D.one (C.ref 0 0))), _⟩
          refine s_move (d := (D.one (C.ref 0 0))) rfl k
         ·intro K rest fr hv htk k
          show AWops _ x _ _ K ⟨54, (upd 54 fr 44 (D.one (C.ref 0 0))), [(hv 0), (hv 1), (hv 2), (hv 3), (hv 4), (hv 5), (hv 6), (hv 7), (hv 8)]⟩
          refine s_nilCheck (d := (D.one (C.ref 0 0))) rfl (.inl ⟨_, _, rfl⟩) k
         ·intro K rest fr hv htk k
          show AWops _ x _ _ K ⟨54, (upd 54 fr 45 (D.one (C.ref 0 0))), [(hv 0), (hv 1), (hv 2), (hv 3), (hv 4), (hv 5), (hv 6), (hv 7), (hv 8)]⟩
          refine s_fieldRef F.fo_27_2 (by decide) rfl k
         ·intro K rest fr hv htk k
          show AWops _ x _ _ K ⟨54, (upd 54 fr 46 (D.one (C.ref 0 2))), [(some (AObj.cells false [(C.ref 1 0), (C.p false (.sl r2.2.1.snap.length (r2.2.1.snap.flatMap e_u8))), (C.own 4 0 r2.2.1.l.length 1), (C.p true (.v (.bool r2.2.1.stopped)))])), (hv 1), (hv 2), (hv 3), (hv 4), (hv 5), (hv 6), (hv 7), (hv 8)]⟩
          refine s_load1 (c' := (C.own 4 0 r2.2.1.l.length 1)) F.ag_25 rfl rfl k
         ·intro K rest fr hv htk k
          show AWops _ x _ _ K ⟨54, (upd 54 fr 1 (D.one (C.p false (.sl a1.length (a1.flatMap e_u8))))), _⟩
          refine s_move (d := (D.one (C.p false (.sl a1.length (a1.flatMap e_u8))))) rfl k
         ·intro K rest fr hv htk k
          show AWops _ x _ _ K ⟨54, (upd 54 fr 48 (D.one (C.p false (.sl a1.length (a1.flatMap e_u8))))), [(hv 0), (hv 1), (hv 2), (hv 3), (hv 4), (hv 5), (hv 6), (hv 7), (hv 8)]⟩
          refine s_call2 (ρ := []) (br := false) (H2 := [(hv 0), (hv 1), (hv 2), (hv 3), (hv 4), (hv 5), (hv 6), (hv 7), (hv 8), (some (AObj.cells true (rowC e_u8 r13)))]) (d := (D.one (C.own 9 0 r13.length 1))) F.ca_28 rfl rfl (ac (.one .imm) an) an (by decide) rfl (slices_Clone_byte_byte.meets _ a1 r13 er13) (.inl rfl) (by first | rfl | (simp only [mergeH2, orF, Bool.false_or, Bool.or_false, Bool.true_or, Bool.or_true, mergeAt, mergeObj, renO, ren_row, List.drop_succ_cons, List.drop_zero, List.map_cons, List.map_nil, Option.map_some, Option.map_none, List.length_cons, List.length_nil, Nat.zero_add, List.append_assoc, List.cons_append, List.nil_append]; done) | (simp only [mergeH2, orF, Bool.false_or, Bool.or_false, Bool.true_or, Bool.or_true, mergeAt, mergeObj, renO, ren_row, List.drop_succ_cons, List.drop_zero, List.map_cons, List.map_nil, Option.map_some, Option.map_none, List.length_cons, List.length_nil, Nat.zero_add, List.append_assoc, List.cons_append, List.nil_append]; rfl)) rfl ?_
          refine AWops.weak (st' := ⟨54, (upd 54 (upd 54 fr 48 (D.one (C.p false (.sl a1.length (a1.flatMap e_u8))))) 49 (D.one (C.p false (.sl r13.length (r13.flatMap e_u8))))), [(hv 0), (hv 1), (hv 2), (hv 3), (hv 4), (hv 5), (hv 6), (hv 7), (hv 8)]⟩) (Weak.gen (kk := 4) [0, 1, 2, 3, 4, 5, 6, 7, 8] [9] hx rfl (by decide) (by decide) rfl rfl rfl (le_upd2 (le_ok (p := 6) (L := 9) rfl (htk 6 rfl).1) (.t (.one (CLe.frz e_u8_len rfl rfl rfl)))) (ac (ole_ok (p := 6) (L := 9) rfl ((htk 6 rfl).2 0)) (ac (ole_ok (p := 6) (L := 9) rfl ((htk 6 rfl).2 1)) (ac (ole_ok (p := 6) (L := 9) rfl ((htk 6 rfl).2 2)) (ac (ole_ok (p := 6) (L := 9) rfl ((htk 6 rfl).2 3)) (ac (ole_ok (p := 6) (L := 9) rfl ((htk 6 rfl).2 4)) (ac (ole_ok (p := 6) (L := 9) rfl ((htk 6 rfl).2 5)) (ac (ole_ok (p := 6) (L := 9) rfl ((htk 6 rfl).2 6)) (ac (ole_ok (p := 6) (L := 9) rfl ((htk 6 rfl).2 7)) (ac (ole_ok (p := 6) (L := 9) rfl ((htk 6 rfl).2 8)) an)))))))))) k
         ·intro K rest fr hv htk k
          show AWops _ x _ _ K ⟨54, (upd 54 fr 49 (D.one (C.p false (.sl r13.length (r13.flatMap e_u8))))), [(hv 0), (hv 1), (hv 2), (hv 3), (hv 4), (hv 5), (hv 6), (hv 7), (hv 8)]⟩
          refine s_buildSlice (n := 1) (ps := [(0, (D.one (C.p false (.sl r13.length (r13.flatMap e_u8)))))]) (cs := rowC (e_sl e_u8) ([r13] : List (List Int))) F.u_25 F.sz_22 F.z_22 rfl rfl (by decide) (by decide) rfl rfl ?_
          refine AWops.weak (st' := ⟨54, (upd 54 (upd 54 fr 49 (D.one (C.p false (.sl r13.length (r13.flatMap e_u8))))) 50 (D.one (C.own 7 0 (([r13] : List (List Int)).length) 1))), [(hv 0), (hv 1), (hv 2), (hv 3), (hv 4), (hv 5), (hv 6), (some (AObj.cells true (rowC (e_sl e_u8) ([r13] : List (List Int))))), (hv 8)]⟩) (Weak.gen (kk := 4) [0, 1, 2, 3, 4, 5, 6, 9, 8] [] hx rfl (by decide) (by decide) rfl rfl rfl (le_upd2 (le_ok (p := 7) (L := 9) rfl (htk 7 rfl).1) (.t (.one (.own rfl)))) (ac (ole_ok (p := 7) (L := 9) rfl ((htk 7 rfl).2 0)) (ac (ole_ok (p := 7) (L := 9) rfl ((htk 7 rfl).2 1)) (ac (ole_ok (p := 7) (L := 9) rfl ((htk 7 rfl).2 2)) (ac (ole_ok (p := 7) (L := 9) rfl ((htk 7 rfl).2 3)) (ac (ole_ok (p := 7) (L := 9) rfl ((htk 7 rfl).2 4)) (ac (ole_ok (p := 7) (L := 9) rfl ((htk 7 rfl).2 5)) (ac (ole_ok (p := 7) (L := 9) rfl ((htk 7 rfl).2 6)) (ac (.cells (fun _ => rfl) (all2_row _)) (ac (ole_ok (p := 7) (L := 9) rfl ((htk 7 rfl).2 8)) an)))))))))) k
         ·intro K rest fr hv htk k
          show AWops _ x _ _ K ⟨54, (upd 54 (upd 54 fr 50 (D.one (C.own 7 0 (([r13] : List (List Int)).length) 1))) 47 (D.one (C.own 4 0 r2.2.1.l.length 1))), [(hv 0), (hv 1), (hv 2), (hv 3), (some (AObj.cells false (rowC (e_sl e_u8) r2.2.1.l))), (hv 5), (hv 6), (some (AObj.cells true (rowC (e_sl e_u8) ([r13] : List (List Int))))), (hv 8)]⟩
          refine t_append (xs := r2.2.1.l) (ys := ([r13] : List (List Int))) (zs := r2.2.1.l ++ ([r13] : List (List Int))) (H' := [(hv 0), (hv 1), (hv 2), (hv 3), none, (hv 5), (hv 6), (some (AObj.cells true (rowC (e_sl e_u8) ([r13] : List (List Int))))), (hv 8), (some (AObj.cells false (rowC (e_sl e_u8) (r2.2.1.l ++ ([r13] : List (List Int))))))]) F.u_25 F.in_22 rfl (e_sl_len _) (.own rfl rfl) (.own rfl rfl) F.u_25 (by omega) (by omega) rfl rfl ?_
          refine AWops.weak (st' := ⟨54, (upd 54 (upd 54 (upd 54 fr 50 (D.one (C.own 7 0 (([r13] : List (List Int)).length) 1))) 47 (D.one (C.own 4 0 r2.2.1.l.length 1))) 51 (D.one (C.own 8 0 ((r2.2.1.l ++ ([r13] : List (List Int))).length) 1))), [(hv 0), (hv 1), (hv 2), (hv 3), none, (hv 5), (hv 6), (some (AObj.cells true (rowC (e_sl e_u8) ([r13] : List (List Int))))), (some (AObj.cells false (rowC (e_sl e_u8) (r2.2.1.l ++ ([r13] : List (List Int))))))]⟩) (Weak.gen (kk := 4) [0, 1, 2, 3, 4, 5, 6, 7, 9] [] hx rfl (by decide) (by decide) rfl rfl rfl (le_upd2 (le_ok (p := 8) (L := 9) rfl (htk 8 rfl).1) (.t (.one (.own rfl)))) (ac (ole_ok (p := 8) (L := 9) rfl ((htk 8 rfl).2 0)) (ac (ole_ok (p := 8) (L := 9) rfl ((htk 8 rfl).2 1)) (ac (ole_ok (p := 8) (L := 9) rfl ((htk 8 rfl).2 2)) (ac (ole_ok (p := 8) (L := 9) rfl ((htk 8 rfl).2 3)) (ac (.none _) (ac (ole_ok (p := 8) (L := 9) rfl ((htk 8 rfl).2 5)) (ac (ole_ok (p := 8) (L := 9) rfl ((htk 8 rfl).2 6)) (ac (.cells (fun _ => rfl) (all2_row _)) (ac (.cells (fun h => h) (all2_row _)) an)))))))))) k
         ·intro K rest fr hv htk k
          show AWops _ x _ _ K ⟨54, (upd 54 fr 43 (D.one (C.ref 0 0))), [(hv 0), (hv 1), (hv 2), (hv 3), (hv 4), (hv 5), (hv 6), (hv 7), (hv 8)]⟩
          refine s_nilCheck (d := (D.one (C.ref 0 0))) rfl (.inl ⟨_, _, rfl⟩) k
         ·intro K rest fr hv htk k
          show AWops _ x _ _ K ⟨54, (upd 54 fr 52 (D.one (C.ref 0 0))), [(hv 0), (hv 1), (hv 2), (hv 3), (hv 4), (hv 5), (hv 6), (hv 7), (hv 8)]⟩
          refine s_fieldRef F.fo_27_2 (by decide) rfl k
         ·intro K rest fr hv htk k
          show AWops _ x _ _ K ⟨54, (upd 54 (upd 54 fr 53 (D.one (C.ref 0 2))) 51 (D.one (C.own 8 0 ((r2.2.1.l ++ ([r13] : List (List Int))).length) 1))), [(some (AObj.cells false [(C.ref 1 0), (C.p false (.sl r2.2.1.snap.length (r2.2.1.snap.flatMap e_u8))), (C.own 4 0 r2.2.1.l.length 1), (C.p true (.v (.bool r2.2.1.stopped)))])), (hv 1), (hv 2), (hv 3), (hv 4), (hv 5), (hv 6), (hv 7), (hv 8)]⟩
          refine s_store (cs' := [(C.ref 1 0), (C.p false (.sl r2.2.1.snap.length (r2.2.1.snap.flatMap e_u8))), (C.own 8 0 ((r2.2.1.l ++ ([r13] : List (List Int))).length) 1), (C.p true (.v (.bool r2.2.1.stopped)))]) rfl rfl rfl (List.cons_ne_nil _ _) rfl F.sz_25 (nl rfl) rfl k
        ·refine AWops.weak (st' := ⟨54, topF, [(some (AObj.cells false [(C.ref 1 0), (C.p false (.sl r2.2.1.snap.length (r2.2.1.snap.flatMap e_u8))), (C.own 4 0 ((r2.2.1.l ++ ([r13] : List (List Int))).length) 1), (C.p true (.v (.bool r2.2.1.stopped)))])), (some (AObj.cells false [(C.mp 5), (C.p true (.v (.int .i64 x7))), (C.p true (.v (.int .i64 x8))), (C.p true (.v (.pointer none))), (C.p true (.v (.bool x9)))])), none, none, (some (AObj.cells false (rowC (e_sl e_u8) (r2.2.1.l ++ ([r13] : List (List Int)))))), (some (AObj.map false (mapE true e_vdisk_file x10)))]⟩) (Weak.gen (kk := 4) [0, 1, 2, 3, 8, 5] [] hx rfl (by decide) (by decide) rfl rfl rfl (le_top _) (ac (.cells (fun h => h) (ac (.ref rfl) (ac .same (ac (.own rfl) (ac .sc an))))) (ac (.cells (fun h => h) (ac (.mp rfl) (ac .sc (ac .sc (ac .sc (ac .sc an)))))) (ac (.none _) (ac (.none _) (ac (.cells (fun h => h) (all2_row _)) (ac .map an))))))) (AWops.nil (AW.seq (AW.region ?_)))
         refine s_assign (d := (sc (.int .i64 0))) rfl (AWops.nil (AW.ret ?_))
         obtain rfl := Option.some.inj h
         exact ⟨_, rfl, (Weak.gen (kk := 4) [0, 1, 2, 3, 4, 5] [] rfl rfl (by decide) (by decide) rfl rfl rfl (le_upd (le_top _) (.t (.one .sc))) (ac (.cells (fun h => h) (ac (.ref rfl) (ac .same (ac (.own rfl) (ac .sc an))))) (ac (.cells (fun h => h) (ac (.mp rfl) (ac .sc (ac .sc (ac .sc (ac .sc an)))))) (ac (.none _) (ac (.none _) (ac (.cells (fun h => h) (all2_row _)) (ac .map an)))))))⟩
 ·iterate 3 refine AWops.guard_no rfl (nl rfl) rfl c1 ?_
  refine s_pick_no (d := (sc (.bool false))) rfl c1 rfl ?_
  obtain ⟨r15, er15, h⟩ := bnd h
  refine s_call2 (ρ := [0, 1, 4, 5]) (br := false) (H2 := [(some (AObj.cells false [(C.ref 1 0), (C.p false (.sl r15.2.1.snap.length (r15.2.1.snap.flatMap e_u8))), (C.own 6 0 r15.2.1.l.length 1), (C.p true (.v (.bool r15.2.1.stopped)))])), (some (AObj.cells false [(C.mp 7), (C.p true (.v (.int .i64 r15.2.2.room))), (C.p true (.v (.int .i64 r15.2.2.used))), (C.p true (.v (.pointer none))), (C.p true (.v (.bool r15.2.2.dead)))])), none, none, none, none, (some (AObj.cells false (rowC (e_sl e_u8) r15.2.1.l))), (some (AObj.map false (mapE true e_vdisk_file r15.2.2.files)))]) (d := (sc (.int .i64 r15.1))) F.ca_24 rfl rfl (ac (.one (.ref rfl)) (ac (.one .sc) an)) (ac (.cells (ac (.ref rfl) (ac .imm (ac (.own rfl) (ac .sc an))))) (ac (.cells (ac (.mp rfl) (ac .sc (ac .sc (ac .sc (ac .sc an)))))) (ac (.cells (lend_row _)) (ac .map an)))) (by decide) rfl (journal_Journal_may_24.meets _ (⟨(), p0.snap, p0.l, p0.stopped⟩ : journal_Journal) false p1 r15 er15) (.inl rfl) (by first | rfl | (simp only [mergeH2, orF, Bool.false_or, Bool.or_false, Bool.true_or, Bool.or_true, mergeAt, mergeObj, renO, ren_row, List.drop_succ_cons, List.drop_zero, List.map_cons, List.map_nil, Option.map_some, Option.map_none, List.length_cons, List.length_nil, Nat.zero_add, List.append_assoc, List.cons_append, List.nil_append]; done) | (simp only [mergeH2, orF, Bool.false_or, Bool.or_false, Bool.true_or, Bool.or_true, mergeAt, mergeObj, renO, ren_row, List.drop_succ_cons, List.drop_zero, List.map_cons, List.map_nil, Option.map_some, Option.map_none, List.length_cons, List.length_nil, Nat.zero_add, List.append_assoc, List.cons_append, List.nil_append]; rfl)) rfl ?_
  refine s_assign (d := (sc (.int .i64 r15.1))) rfl (AWops.nil (AW.seq (AW.region ?_)))
  refine s_move (d := (sc (.int .i64 r15.1))) rfl ?_
  refine s_binI (v := (.bool (r15.1 != 0))) rfl rfl rfl (AWops.nil ?_)
  rcases itH h with ⟨c16, h⟩ | ⟨c16, h⟩
  ·refine AW.cond_yes rfl c16 (AW.seq (AW.region ?_))
   refine s_move (d := (sc (.int .i64 r15.1))) rfl ?_
   refine s_assign (d := (sc (.int .i64 r15.1))) rfl (AWops.nil (AW.ret ?_))
   obtain rfl := Option.some.inj h
   exact ⟨_, rfl, (Weak.gen (kk := 4) [0, 1, 2, 3, 6, 7] [] rfl rfl (by decide) (by decide) rfl rfl rfl (le_upd (le_top _) (.t (.one .sc))) (ac (.cells (fun h => h) (ac (.ref rfl) (ac .same (ac (.own rfl) (ac .sc an))))) (ac (.cells (fun h => h) (ac (.mp rfl) (ac .sc (ac .sc (ac .sc (ac .sc an)))))) (ac (.none _) (ac (.none _) (ac (.cells (fun h => h) (all2_row _)) (ac .map an)))))))⟩
  ·refine AW.cond_no rfl c16 (AW.skip (AW.seq ?_))
   refine AW.weak (st' := ⟨54, (upd 54 (upd 54 topF 0 (D.one (C.ref 0 0))) 1 (D.one (C.p false (.sl a1.length (a1.flatMap e_u8))))), [(some (AObj.cells false [(C.ref 1 0), (C.p false (.sl r15.2.1.snap.length (r15.2.1.snap.flatMap e_u8))), (C.own 4 0 r15.2.1.l.length 1), (C.p true (.v (.bool r15.2.1.stopped)))])), (some (AObj.cells false [(C.mp 5), (C.p true (.v (.int .i64 r15.2.2.room))), (C.p true (.v (.int .i64 r15.2.2.used))), (C.p true (.v (.pointer none))), (C.p true (.v (.bool r15.2.2.dead)))])), none, none, (some (AObj.cells false (rowC (e_sl e_u8) r15.2.1.l))), (some (AObj.map false (mapE true e_vdisk_file r15.2.2.files)))]⟩) (Weak.gen (kk := 4) [0, 1, 2, 3, 6, 7] [] hx rfl (by decide) (by decide) rfl rfl rfl (le_upd (le_upd (le_top _) (.t (.one (.ref rfl)))) (.t (.one .same))) (ac (.cells (fun h => h) (ac (.ref rfl) (ac .same (ac (.own rfl) (ac .sc an))))) (ac (.cells (fun h => h) (ac (.mp rfl) (ac .sc (ac .sc (ac .sc (ac .sc an)))))) (ac (.none _) (ac (.none _) (ac (.cells (fun h => h) (all2_row _)) (ac .map an))))))) ?_
   obtain ⟨r17, er17, h⟩ := bnd h
   obtain ⟨r18, er18, h⟩ := bnd h
   refine AW.draw (n := 54) (L := 8) [(0, ⟨some 20, (D.one (C.ref 0 0)), [(0, (D.one (C.ref 0 0)))], [], [], none⟩), (1, ⟨some 21, (D.one (C.ref 0 0)), [(20, (D.one (C.ref 0 0)))], [], [], none⟩), (2, ⟨some 22, (D.one (C.ref 0 0)), [(21, (D.one (C.ref 0 0)))], [], [], none⟩), (3, ⟨some 23, (D.one (C.ref 1 0)), [(22, (D.one (C.ref 0 0)))], [(0, (some (AObj.cells false [(C.ref 1 0), (C.p false (.sl r15.2.1.snap.length (r15.2.1.snap.flatMap e_u8))), (C.own 4 0 r15.2.1.l.length 1), (C.p true (.v (.bool r15.2.1.stopped)))])))], [], none⟩), (4, ⟨some 24, (D.one (C.p false (.sl a1.length (a1.flatMap e_u8)))), [(1, (D.one (C.p false (.sl a1.length (a1.flatMap e_u8)))))], [], [], none⟩), (5, ⟨some 25, (D.one (C.p false (.sl r17.length (r17.flatMap e_u8)))), [(24, (D.one (C.p false (.sl a1.length (a1.flatMap e_u8)))))], [], [], some 6⟩), (6, ⟨some 26, (sc (.int .i64 r18.1)), [(23, (D.one (C.ref 1 0))), (25, (D.one (C.p false (.sl r17.length (r17.flatMap e_u8)))))], [(1, (some (AObj.cells false [(C.mp 5), (C.p true (.v (.int .i64 r15.2.2.room))), (C.p true (.v (.int .i64 r15.2.2.used))), (C.p true (.v (.pointer none))), (C.p true (.v (.bool r15.2.2.dead)))]))), (5, (some (AObj.map false (mapE true e_vdisk_file r15.2.2.files))))], [(1, (some (AObj.cells false [(C.mp 7), (C.p true (.v (.int .i64 r18.2.room))), (C.p true (.v (.int .i64 r18.2.used))), (C.p true (.v (.pointer none))), (C.p true (.v (.bool r18.2.dead)))]))), (5, none), (7, (some (AObj.map false (mapE true e_vdisk_file r18.2.files))))], some 7⟩), (7, ⟨some 6, (sc (.int .i64 r18.1)), [(26, (sc (.int .i64 r18.1)))], [], [], none⟩)] [[], [0], [0, 1], [0, 1, 2], [], [4], [0, 1, 2, 3, 4, 5], [0, 1, 2, 3, 4, 5, 6]] (nl rfl) [0, 1, 2, 3, 0, 1, 4, 5] rfl (TK := [(5, 6), (6, 7)]) rfl (AllK.cons' ⟨(tk_upd (tk_upd tk_top rfl) rfl), (tC rfl (tC rfl (tC rfl (tC rfl (tC (tkO_row _) (tC rfl AllT.nil')))))), (fC (.inr rfl) (fC (.inr rfl) (fC (.inr rfl) (fC (.inr rfl) (fC (.inr rfl) (fC (.inl rfl) (fC (.inl rfl) (fC (.inl rfl) AllF.nil'))))))))⟩ (AllK.cons' ⟨(tk_upd (tk_upd tk_top rfl) rfl), (tC rfl (tC rfl (tC rfl (tC rfl (tC (tkO_row _) (tC rfl AllT.nil')))))), (fC (.inr rfl) (fC (.inr rfl) (fC (.inr rfl) (fC (.inr rfl) (fC (.inr rfl) (fC (.inr rfl) (fC (.inl rfl) (fC (.inl rfl) AllF.nil'))))))))⟩ AllK.nil')) (fC ⟨(sC rfl AllS.nil'), AllH.nil'⟩ (fC ⟨(sC rfl AllS.nil'), AllH.nil'⟩ (fC ⟨(sC rfl AllS.nil'), AllH.nil'⟩ (fC ⟨(sC rfl AllS.nil'), (hC rfl AllH.nil')⟩ (fC ⟨(sC rfl AllS.nil'), AllH.nil'⟩ (fC ⟨(sC rfl AllS.nil'), AllH.nil'⟩ (fC ⟨(sC rfl (sC rfl AllS.nil')), (hC rfl (hC rfl AllH.nil'))⟩ (fC ⟨(sC rfl AllS.nil'), AllH.nil'⟩ AllF.nil')))))))) ?_ ?_
   ·refine (pC ?_ (pC ?_ (pC ?_ (pC ?_ (pC ?_ (pC ?_ (pC ?_ (pC ?_ AllStep.nil'))))))))
    ·intro K rest fr hv htk k
     show AWops _ x _ _ K ⟨54, (upd 54 fr 0 (D.one (C.ref 0 0))), _⟩
     refine s_move (d := (D.one (C.ref 0 0))) rfl k
    ·intro K rest fr hv htk k
     show AWops _ x _ _ K ⟨54, (upd 54 fr 20 (D.one (C.ref 0 0))), [(hv 0), (hv 1), (hv 2), (hv 3), (hv 4), (hv 5), (hv 6), (hv 7)]⟩
     refine s_nilCheck (d := (D.one (C.ref 0 0))) rfl (.inl ⟨_, _, rfl⟩) k
    ·intro K rest fr hv htk k
     show AWops _ x _ _ K ⟨54, (upd 54 fr 21 (D.one (C.ref 0 0))), [(hv 0), (hv 1), (hv 2), (hv 3), (hv 4), (hv 5), (hv 6), (hv 7)]⟩
     refine s_fieldRef F.fo_27_0 (by decide) rfl k
    ·intro K rest fr hv htk k
     show AWops _ x _ _ K ⟨54, (upd 54 fr 22 (D.one (C.ref 0 0))), [(some (AObj.cells false [(C.ref 1 0), (C.p false (.sl r15.2.1.snap.length (r15.2.1.snap.flatMap e_u8))), (C.own 4 0 r15.2.1.l.length 1), (C.p true (.v (.bool r15.2.1.stopped)))])), (hv 1), (hv 2), (hv 3), (hv 4), (hv 5), (hv 6), (hv 7)]⟩
     refine s_load1 (c' := (C.ref 1 0)) F.ag_24 rfl rfl k
    ·intro K rest fr hv htk k
     show AWops _ x _ _ K ⟨54, (upd 54 fr 1 (D.one (C.p false (.sl a1.length (a1.flatMap e_u8))))), _⟩
     refine s_move (d := (D.one (C.p false (.sl a1.length (a1.flatMap e_u8))))) rfl k
    ·intro K rest fr hv htk k
     show AWops _ x _ _ K ⟨54, (upd 54 fr 24 (D.one (C.p false (.sl a1.length (a1.flatMap e_u8))))), [(hv 0), (hv 1), (hv 2), (hv 3), (hv 4), (hv 5), (hv 6), (hv 7)]⟩
     refine s_call2 (ρ := []) (br := false) (H2 := [(hv 0), (hv 1), (hv 2), (hv 3), (hv 4), (hv 5), (hv 6), (hv 7), (some (AObj.cells true (rowC e_u8 r17)))]) (d := (D.one (C.own 8 0 r17.length 1))) F.ca_26 rfl rfl (ac (.one .imm) an) an (by decide) rfl (journal_frame.meets _ a1 r17 er17) (.inl rfl) (by first | rfl | (simp only [mergeH2, orF, Bool.false_or, Bool.or_false, Bool.true_or, Bool.or_true, mergeAt, mergeObj, renO, ren_row, List.drop_succ_cons, List.drop_zero, List.map_cons, List.map_nil, Option.map_some, Option.map_none, List.length_cons, List.length_nil, Nat.zero_add, List.append_assoc, List.cons_append, List.nil_append]; done) | (simp only [mergeH2, orF, Bool.false_or, Bool.or_false, Bool.true_or, Bool.or_true, mergeAt, mergeObj, renO, ren_row, List.drop_succ_cons, List.drop_zero, List.map_cons, List.map_nil, Option.map_some, Option.map_none, List.length_cons, List.length_nil, Nat.zero_add, List.append_assoc, List.cons_append, List.nil_append]; rfl)) rfl ?_
     refine AWops.weak (st' := ⟨54, (upd 54 (upd 54 fr 24 (D.one (C.p false (.sl a1.length (a1.flatMap e_u8))))) 25 (D.one (C.p false (.sl r17.length (r17.flatMap e_u8))))), [(hv 0), (hv 1), (hv 2), (hv 3), (hv 4), (hv 5), (hv 6), (hv 7)]⟩) (Weak.gen (kk := 4) [0, 1, 2, 3, 4, 5, 6, 7] [8] hx rfl (by decide) (by decide) rfl rfl rfl (le_upd2 (le_ok (p := 6) (L := 8) rfl (htk 6 rfl).1) (.t (.one (CLe.frz e_u8_len rfl rfl rfl)))) (ac (ole_ok (p := 6) (L := 8) rfl ((htk 6 rfl).2 0)) (ac (ole_ok (p := 6) (L := 8) rfl ((htk 6 rfl).2 1)) (ac (ole_ok (p := 6) (L := 8) rfl ((htk 6 rfl).2 2)) (ac (ole_ok (p := 6) (L := 8) rfl ((htk 6 rfl).2 3)) (ac (ole_ok (p := 6) (L := 8) rfl ((htk 6 rfl).2 4)) (ac (ole_ok (p := 6) (L := 8) rfl ((htk 6 rfl).2 5)) (ac (ole_ok (p := 6) (L := 8) rfl ((htk 6 rfl).2 6)) (ac (ole_ok (p := 6) (L := 8) rfl ((htk 6 rfl).2 7)) an))))))))) k
    ·intro K rest fr hv htk k
     show AWops _ x _ _ K ⟨54, (upd 54 (upd 54 fr 25 (D.one (C.p false (.sl r17.length (r17.flatMap e_u8))))) 23 (D.one (C.ref 1 0))), [(hv 0), (some (AObj.cells false [(C.mp 5), (C.p true (.v (.int .i64 r15.2.2.room))), (C.p true (.v (.int .i64 r15.2.2.used))), (C.p true (.v (.pointer none))), (C.p true (.v (.bool r15.2.2.dead)))])), (hv 2), (hv 3), (hv 4), (some (AObj.map false (mapE true e_vdisk_file r15.2.2.files))), (hv 6), (hv 7)]⟩
     refine s_call2 (ρ := [1, 5]) (br := false) (H2 := [(hv 0), (some (AObj.cells false [(C.mp 8), (C.p true (.v (.int .i64 r18.2.room))), (C.p true (.v (.int .i64 r18.2.used))), (C.p true (.v (.pointer none))), (C.p true (.v (.bool r18.2.dead)))])), (hv 2), (hv 3), (hv 4), none, (hv 6), (hv 7), (some (AObj.map false (mapE true e_vdisk_file r18.2.files)))]) (d := (sc (.int .i64 r18.1))) F.ca_25 rfl rfl (ac (.one (.ref rfl)) (ac (.one .sc) (ac (.one .imm) an))) (ac (.cells (ac (.mp rfl) (ac .sc (ac .sc (ac .sc (ac .sc an)))))) (ac .map an)) (by decide) rfl (vdisk_Disk_Append_25.meets _ r15.2.2 (⟨#[106, 111, 117, 114, 110, 97, 108]⟩ : ByteArray) r17 r18 er18) (.inl rfl) rfl rfl ?_
     refine AWops.weak (st' := ⟨54, (upd 54 (upd 54 (upd 54 fr 25 (D.one (C.p false (.sl r17.length (r17.flatMap e_u8))))) 23 (D.one (C.ref 1 0))) 26 (sc (.int .i64 r18.1))), [(hv 0), (some (AObj.cells false [(C.mp 7), (C.p true (.v (.int .i64 r18.2.room))), (C.p true (.v (.int .i64 r18.2.used))), (C.p true (.v (.pointer none))), (C.p true (.v (.bool r18.2.dead)))])), (hv 2), (hv 3), (hv 4), none, (hv 6), (some (AObj.map false (mapE true e_vdisk_file r18.2.files)))]⟩) (Weak.gen (kk := 4) [0, 1, 2, 3, 4, 5, 6, 8] [] hx rfl (by decide) (by decide) rfl rfl rfl (le_upd2 (le_ok (p := 7) (L := 8) rfl (htk 7 rfl).1) (.t (.one .sc))) (ac (ole_ok (p := 7) (L := 8) rfl ((htk 7 rfl).2 0)) (ac (.cells (fun h => h) (ac (.mp rfl) (ac .sc (ac .sc (ac .sc (ac .sc an)))))) (ac (ole_ok (p := 7) (L := 8) rfl ((htk 7 rfl).2 2)) (ac (ole_ok (p := 7) (L := 8) rfl ((htk 7 rfl).2 3)) (ac (ole_ok (p := 7) (L := 8) rfl ((htk 7 rfl).2 4)) (ac (.none _) (ac (ole_ok (p := 7) (L := 8) rfl ((htk 7 rfl).2 6)) (ac .map an))))))))) k
    ·intro K rest fr hv htk k
     show AWops _ x _ _ K ⟨54, (upd 54 fr 26 (sc (.int .i64 r18.1))), _⟩
     refine s_assign (d := (sc (.int .i64 r18.1))) rfl k
   ·refine AWops.weak (st' := ⟨54, (upd 54 (upd 54 (upd 54 topF 0 (D.one (C.ref 0 0))) 1 (D.one (C.p false (.sl a1.length (a1.flatMap e_u8))))) 6 (sc (.int .i64 r18.1))), [(some (AObj.cells false [(C.ref 1 0), (C.p false (.sl r15.2.1.snap.length (r15.2.1.snap.flatMap e_u8))), (C.own 4 0 r15.2.1.l.length 1), (C.p true (.v (.bool r15.2.1.stopped)))])), (some (AObj.cells false [(C.mp 5), (C.p true (.v (.int .i64 r18.2.room))), (C.p true (.v (.int .i64 r18.2.used))), (C.p true (.v (.pointer none))), (C.p true (.v (.bool r18.2.dead)))])), none, none, (some (AObj.cells false (rowC (e_sl e_u8) r15.2.1.l))), (some (AObj.map false (mapE true e_vdisk_file r18.2.files)))]⟩) (Weak.gen (kk := 4) [0, 1, 2, 3, 4, 7] [] hx rfl (by decide) (by decide) rfl rfl rfl (le_upd (le_upd (le_upd (le_top _) (.t (.one (.ref rfl)))) (.t (.one .same))) (.t (.one .sc))) (ac (.cells (fun h => h) (ac (.ref rfl) (ac .same (ac (.own rfl) (ac .sc an))))) (ac (.cells (fun h => h) (ac (.mp rfl) (ac .sc (ac .sc (ac .sc (ac .sc an)))))) (ac (.none _) (ac (.none _) (ac (.cells (fun h => h) (all2_row _)) (ac .map an))))))) (AWops.nil (AW.seq (AW.seq (AW.region ?_))))
    refine s_move (d := (sc (.int .i64 r18.1))) rfl ?_
    refine s_binI (v := (.bool (r18.1 == 71))) rfl rfl rfl (AWops.nil ?_)
    rcases itH h with ⟨c19, h⟩ | ⟨c19, h⟩
    ·refine AW.cond_yes rfl c19 (AW.seq (AW.region ?_))
     refine s_move (d := (sc (.int .i64 r18.1))) rfl ?_
     refine s_assign (d := (sc (.int .i64 r18.1))) rfl (AWops.nil (AW.ret ?_))
     obtain rfl := Option.some.inj h
     exact ⟨_, rfl, (Weak.gen (kk := 4) [0, 1, 2, 3, 4, 5] [] rfl rfl (by decide) (by decide) rfl rfl rfl (le_upd (le_top _) (.t (.one .sc))) (ac (.cells (fun h => h) (ac (.ref rfl) (ac .same (ac (.own rfl) (ac .sc an))))) (ac (.cells (fun h => h) (ac (.mp rfl) (ac .sc (ac .sc (ac .sc (ac .sc an)))))) (ac (.none _) (ac (.none _) (ac (.cells (fun h => h) (all2_row _)) (ac .map an)))))))⟩
    ·refine AW.cond_no rfl c19 (AW.skip ?_)
     refine AW.seqJ (fun st => ∃ (x20 : Int) (x21 : Int) (x22 : Bool) (x23 : List (ByteArray × vdisk_file)) (x24 : Int), journal_Journal_Append_7.j1 k x20 x21 x22 x23 x24 a1 r15 = some r ∧ st = ⟨54, (upd 54 (upd 54 (upd 54 topF 0 (D.one (C.ref 0 0))) 1 (D.one (C.p false (.sl a1.length (a1.flatMap e_u8))))) 6 (sc (.int .i64 x24))), [(some (AObj.cells false [(C.ref 1 0), (C.p false (.sl r15.2.1.snap.length (r15.2.1.snap.flatMap e_u8))), (C.own 4 0 r15.2.1.l.length 1), (C.p true (.v (.bool r15.2.1.stopped)))])), (some (AObj.cells false [(C.mp 5), (C.p true (.v (.int .i64 x20))), (C.p true (.v (.int .i64 x21))), (C.p true (.v (.pointer none))), (C.p true (.v (.bool x22)))])), none, none, (some (AObj.cells false (rowC (e_sl e_u8) r15.2.1.l))), (some (AObj.map false (mapE true e_vdisk_file x23)))]⟩) ?_ ?_
     ·refine AW.seq (AW.region ?_)
      refine s_move (d := (sc (.int .i64 r18.1))) rfl ?_
      refine s_binI (v := (.bool (r18.1 == 0))) rfl rfl rfl (AWops.nil ?_)
      rcases itH h with ⟨c20, h⟩ | ⟨c20, h⟩
      ·refine AW.cond_yes rfl c20 (AW.region ?_)
       refine s_move (d := (D.one (C.ref 0 0))) rfl ?_
       refine s_nilCheck (d := (D.one (C.ref 0 0))) rfl (.inl ⟨_, _, rfl⟩) ?_
       refine s_fieldRef F.fo_27_0 (by decide) rfl ?_
       refine s_load1 (c' := (C.ref 1 0)) F.ag_24 rfl rfl ?_
       obtain ⟨r21, er21, h⟩ := bnd h
       refine s_call2 (ρ := [1, 5]) (br := false) (H2 := [(some (AObj.cells false [(C.ref 1 0), (C.p false (.sl r15.2.1.snap.length (r15.2.1.snap.flatMap e_u8))), (C.own 4 0 r15.2.1.l.length 1), (C.p true (.v (.bool r15.2.1.stopped)))])), (some (AObj.cells false [(C.mp 6), (C.p true (.v (.int .i64 r21.2.room))), (C.p true (.v (.int .i64 r21.2.used))), (C.p true (.v (.pointer none))), (C.p true (.v (.bool r21.2.dead)))])), none, none, (some (AObj.cells false (rowC (e_sl e_u8) r15.2.1.l))), none, (some (AObj.map false (mapE true e_vdisk_file r21.2.files)))]) (d := (sc (.int .i64 r21.1))) F.ca_27 rfl rfl (ac (.one (.ref rfl)) (ac (.one .sc) an)) (ac (.cells (ac (.mp rfl) (ac .sc (ac .sc (ac .sc (ac .sc an)))))) (ac .map an)) (by decide) rfl (vdisk_Disk_Sync_27.meets _ r18.2 (⟨#[106, 111, 117, 114, 110, 97, 108]⟩ : ByteArray) r21 er21) (.inl rfl) rfl rfl ?_
       refine s_assign (d := (sc (.int .i64 r21.1))) rfl (AWops.nil ?_)
       exact ⟨⟨54, (upd 54 (upd 54 (upd 54 topF 0 (D.one (C.ref 0 0))) 1 (D.one (C.p false (.sl a1.length (a1.flatMap e_u8))))) 6 (sc (.int .i64 r21.1))), [(some (AObj.cells false [(C.ref 1 0), (C.p false (.sl r15.2.1.snap.length (r15.2.1.snap.flatMap e_u8))), (C.own 4 0 r15.2.1.l.length 1), (C.p true (.v (.bool r15.2.1.stopped)))])), (some (AObj.cells false [(C.mp 5), (C.p true (.v (.int .i64 r21.2.room))), (C.p true (.v (.int .i64 r21.2.used))), (C.p true (.v (.pointer none))), (C.p true (.v (.bool r21.2.dead)))])), none, none, (some (AObj.cells false (rowC (e_sl e_u8) r15.2.1.l))), (some (AObj.map false (mapE true e_vdisk_file r21.2.files)))]⟩, (Weak.gen (kk := 4) [0, 1, 2, 3, 4, 6] [] hx rfl (by decide) (by decide) rfl rfl rfl (le_upd (le_upd (le_upd (le_top _) (.t (.one (.ref rfl)))) (.t (.one .same))) (.t (.one .sc))) (ac (.cells (fun h => h) (ac (.ref rfl) (ac .same (ac (.own rfl) (ac .sc an))))) (ac (.cells (fun h => h) (ac (.mp rfl) (ac .sc (ac .sc (ac .sc (ac .sc an)))))) (ac (.none _) (ac (.none _) (ac (.cells (fun h => h) (all2_row _)) (ac .map an))))))), r21.2.room, r21.2.used, r21.2.dead, r21.2.files, r21.1, h, rfl⟩
      ·refine AW.cond_no rfl c20 (AW.skip ?_)
       exact ⟨⟨54, (upd 54 (upd 54 (upd 54 topF 0 (D.one (C.ref 0 0))) 1 (D.one (C.p false (.sl a1.length (a1.flatMap e_u8))))) 6 (sc (.int .i64 r18.1))), [(some (AObj.cells false [(C.ref 1 0), (C.p false (.sl r15.2.1.snap.length (r15.2.1.snap.flatMap e_u8))), (C.own 4 0 r15.2.1.l.length 1), (C.p true (.v (.bool r15.2.1.stopped)))])), (some (AObj.cells false [(C.mp 5), (C.p true (.v (.int .i64 r18.2.room))), (C.p true (.v (.int .i64 r18.2.used))), (C.p true (.v (.pointer none))), (C.p true (.v (.bool r18.2.dead)))])), none, none, (some (AObj.cells false (rowC (e_sl e_u8) r15.2.1.l))), (some (AObj.map false (mapE true e_vdisk_file r18.2.files)))]⟩, (Weak.gen (kk := 4) [0, 1, 2, 3, 4, 5] [] hx rfl (by decide) (by decide) rfl rfl rfl (le_upd (le_upd (le_upd (le_top _) (.t (.one (.ref rfl)))) (.t (.one .same))) (.t (.one .sc))) (ac (.cells (fun h => h) (ac (.ref rfl) (ac .same (ac (.own rfl) (ac .sc an))))) (ac (.cells (fun h => h) (ac (.mp rfl) (ac .sc (ac .sc (ac .sc (ac .sc an)))))) (ac (.none _) (ac (.none _) (ac (.cells (fun h => h) (all2_row _)) (ac .map an))))))), r18.2.room, r18.2.used, r18.2.dead, r18.2.files, r18.1, h, rfl⟩
     ·rintro st ⟨x20, x21, x22, x23, x24, h, rfl⟩
      cases k with
      | zero => exact absurd h (by simp [journal_Journal_Append_7.j1])
      | succ qj1 =>
       replace h := (journal_Journal_Append_7.j1.eq_2 _ _ _ _ _ _ _ _).symm.trans h
       refine AW.seq (AW.seq (AW.region ?_))
       refine s_move (d := (sc (.int .i64 x24))) rfl ?_
       refine s_binI (v := (.bool (x24 != 0))) rfl rfl rfl (AWops.nil ?_)
       rcases itH h with ⟨c25, h⟩ | ⟨c25, h⟩
       ·refine AW.cond_yes rfl c25 (AW.seq (AW.region ?_))
        refine s_move (d := (D.one (C.ref 0 0))) rfl ?_
        refine s_nilCheck (d := (D.one (C.ref 0 0))) rfl (.inl ⟨_, _, rfl⟩) ?_
        refine s_fieldRef F.fo_27_3 (by decide) rfl ?_
        refine s_store (cs' := [(C.ref 1 0), (C.p false (.sl r15.2.1.snap.length (r15.2.1.snap.flatMap e_u8))), (C.own 4 0 r15.2.1.l.length 1), (C.p true (.v (.bool true)))]) rfl rfl rfl (List.cons_ne_nil _ _) rfl F.sz_4 (nl rfl) rfl (AWops.nil (AW.seq (AW.region ?_)))
        refine s_move (d := (sc (.int .i64 x24))) rfl ?_
        refine s_assign (d := (sc (.int .i64 x24))) rfl (AWops.nil (AW.ret ?_))
        obtain rfl := Option.some.inj h
        exact ⟨_, rfl, (Weak.gen (kk := 4) [0, 1, 2, 3, 4, 5] [] rfl rfl (by decide) (by decide) rfl rfl rfl (le_upd (le_top _) (.t (.one .sc))) (ac (.cells (fun h => h) (ac (.ref rfl) (ac .same (ac (.own rfl) (ac .sc an))))) (ac (.cells (fun h => h) (ac (.mp rfl) (ac .sc (ac .sc (ac .sc (ac .sc an)))))) (ac (.none _) (ac (.none _) (ac (.cells (fun h => h) (all2_row _)) (ac .map an)))))))⟩
       ·refine AW.cond_no rfl c25 (AW.skip (AW.seq ?_))
        refine AW.weak (st' := ⟨54, (upd 54 (upd 54 topF 0 (D.one (C.ref 0 0))) 1 (D.one (C.p false (.sl a1.length (a1.flatMap e_u8))))), [(some (AObj.cells false [(C.ref 1 0), (C.p false (.sl r15.2.1.snap.length (r15.2.1.snap.flatMap e_u8))), (C.own 4 0 r15.2.1.l.length 1), (C.p true (.v (.bool r15.2.1.stopped)))])), (some (AObj.cells false [(C.mp 5), (C.p true (.v (.int .i64 x20))), (C.p true (.v (.int .i64 x21))), (C.p true (.v (.pointer none))), (C.p true (.v (.bool x22)))])), none, none, (some (AObj.cells false (rowC (e_sl e_u8) r15.2.1.l))), (some (AObj.map false (mapE true e_vdisk_file x23)))]⟩) (Weak.gen (kk := 4) [0, 1, 2, 3, 4, 5] [] hx rfl (by decide) (by decide) rfl rfl rfl (le_upd (le_upd (le_top _) (.t (.one (.ref rfl)))) (.t (.one .same))) (ac (.cells (fun h => h) (ac (.ref rfl) (ac .same (ac (.own rfl) (ac .sc an))))) (ac (.cells (fun h => h) (ac (.mp rfl) (ac .sc (ac .sc (ac .sc (ac .sc an)))))) (ac (.none _) (ac (.none _) (ac (.cells (fun h => h) (all2_row _)) (ac .map an))))))) ?_
        obtain ⟨r26, er26, h⟩ := bnd h
        obtain ⟨c27, h⟩ := gdH h
        have dc27 := of_decide_eq_true c27
        refine AW.draw (n := 54) (L := 9) [(0, ⟨some 43, (D.one (C.ref 0 0)), [(0, (D.one (C.ref 0 0)))], [], [], none⟩), (1, ⟨some 44, (D.one (C.ref 0 0)), [(0, (D.one (C.ref 0 0)))], [], [], none⟩), (2, ⟨some 45, (D.one (C.ref 0 0)), [(44, (D.one (C.ref 0 0)))], [], [], none⟩), (3, ⟨some 46, (D.one (C.ref 0 2)), [(45, (D.one (C.ref 0 0)))], [], [], none⟩), (4, ⟨some 47, (D.one (C.own 4 0 r15.2.1.l.length 1)), [(46, (D.one (C.ref 0 2)))], [(0, (some (AObj.cells false [(C.ref 1 0), (C.p false (.sl r15.2.1.snap.length (r15.2.1.snap.flatMap e_u8))), (C.own 4 0 r15.2.1.l.length 1), (C.p true (.v (.bool r15.2.1.stopped)))])))], [], none⟩), (5, ⟨some 48, (D.one (C.p false (.sl a1.length (a1.flatMap e_u8)))), [(1, (D.one (C.p false (.sl a1.length (a1.flatMap e_u8)))))], [], [], none⟩), (6, ⟨some 49, (D.one (C.p false (.sl r26.length (r26.flatMap e_u8)))), [(48, (D.one (C.p false (.sl a1.length (a1.flatMap e_u8)))))], [], [], some 6⟩), (7, ⟨some 50, (D.one (C.own 7 0 (([r26] : List (List Int)).length) 1)), [(49, (D.one (C.p false (.sl r26.length (r26.flatMap e_u8)))))], [], [(7, (some (AObj.cells true (rowC (e_sl e_u8) ([r26] : List (List Int))))))], some 7⟩), (8, ⟨some 51, (D.one (C.own 8 0 ((r15.2.1.l ++ ([r26] : List (List Int))).length) 1)), [(47, (D.one (C.own 4 0 r15.2.1.l.length 1))), (50, (D.one (C.own 7 0 (([r26] : List (List Int)).length) 1)))], [(4, (some (AObj.cells false (rowC (e_sl e_u8) r15.2.1.l)))), (7, (some (AObj.cells true (rowC (e_sl e_u8) ([r26] : List (List Int))))))], [(4, none), (8, (some (AObj.cells false (rowC (e_sl e_u8) (r15.2.1.l ++ ([r26] : List (List Int)))))))], some 8⟩), (9, ⟨some 52, (D.one (C.ref 0 0)), [(43, (D.one (C.ref 0 0)))], [], [], none⟩), (10, ⟨some 53, (D.one (C.ref 0 2)), [(52, (D.one (C.ref 0 0)))], [], [], none⟩), (11, ⟨none, (D.one C.top), [(51, (D.one (C.own 8 0 ((r15.2.1.l ++ ([r26] : List (List Int))).length) 1))), (53, (D.one (C.ref 0 2)))], [(0, (some (AObj.cells false [(C.ref 1 0), (C.p false (.sl r15.2.1.snap.length (r15.2.1.snap.flatMap e_u8))), (C.own 4 0 r15.2.1.l.length 1), (C.p true (.v (.bool r15.2.1.stopped)))])))], [(0, (some (AObj.cells false [(C.ref 1 0), (C.p false (.sl r15.2.1.snap.length (r15.2.1.snap.flatMap e_u8))), (C.own 8 0 ((r15.2.1.l ++ ([r26] : List (List Int))).length) 1), (C.p true (.v (.bool r15.2.1.stopped)))])))], none⟩)] [[], [], [1], [1, 2], [1, 2, 3], [], [5], [5, 6], [1, 2, 3, 4, 5, 6, 7], [0, 1, 2, 3, 4, 5, 6, 7, 8], [0, 1, 2, 3, 4, 5, 6, 7, 8, 9], [0, 1, 2, 3, 4, 5, 6, 7, 8, 9, 10]] (nl rfl) [0, 0, 1, 2, 3, 0, 1, 2, 4, 5, 6, 7] rfl (TK := [(6, 6), (7, 7), (8, 8)]) rfl (AllK.cons' ⟨(tk_upd (tk_upd tk_top rfl) rfl), (tC rfl (tC rfl (tC rfl (tC rfl (tC (tkO_row _) (tC rfl AllT.nil')))))), (fC (.inr rfl) (fC (.inr rfl) (fC (.inr rfl) (fC (.inr rfl) (fC (.inr rfl) (fC (.inr rfl) (fC (.inl rfl) (fC (.inl rfl) (fC (.inl rfl) (fC (.inl rfl) (fC (.inl rfl) (fC (.inl rfl) AllF.nil'))))))))))))⟩ (AllK.cons' ⟨(tk_upd (tk_upd tk_top rfl) rfl), (tC rfl (tC rfl (tC rfl (tC rfl (tC (tkO_row _) (tC rfl AllT.nil')))))), (fC (.inr rfl) (fC (.inr rfl) (fC (.inr rfl) (fC (.inr rfl) (fC (.inr rfl) (fC (.inr rfl) (fC (.inr rfl) (fC (.inl rfl) (fC (.inl rfl) (fC (.inl rfl) (fC (.inl rfl) (fC (.inl rfl) AllF.nil'))))))))))))⟩ (AllK.cons' ⟨(tk_upd (tk_upd tk_top rfl) rfl), (tC rfl (tC rfl (tC rfl (tC rfl (tC (tkO_row _) (tC rfl AllT.nil')))))), (fC (.inr rfl) (fC (.inr rfl) (fC (.inr rfl) (fC (.inr rfl) (fC (.inr rfl) (fC (.inr rfl) (fC (.inr rfl) (fC (.inr (by unfold tkFoot; simp only [List.all_cons, List.all_nil, tkO_row, Bool.and_true, Bool.true_and]; rfl)) (fC (.inl rfl) (fC (.inl rfl) (fC (.inl rfl) (fC (.inl rfl) AllF.nil'))))))))))))⟩ AllK.nil'))) (fC ⟨(sC rfl AllS.nil'), AllH.nil'⟩ (fC ⟨(sC rfl AllS.nil'), AllH.nil'⟩ (fC ⟨(sC rfl AllS.nil'), AllH.nil'⟩ (fC ⟨(sC rfl AllS.nil'), AllH.nil'⟩ (fC ⟨(sC rfl AllS.nil'), (hC rfl AllH.nil')⟩ (fC ⟨(sC rfl AllS.nil'), AllH.nil'⟩ (fC ⟨(sC rfl AllS.nil'), AllH.nil'⟩ (fC ⟨(sC rfl AllS.nil'), AllH.nil'⟩ (fC ⟨(sC rfl (sC rfl AllS.nil')), (hC rfl (hC rfl AllH.nil'))⟩ (fC ⟨(sC rfl AllS.nil'), AllH.nil'⟩ (fC ⟨(sC rfl AllS.nil'), AllH.nil'⟩ (fC ⟨(sC rfl (sC rfl AllS.nil')), (hC rfl AllH.nil')⟩ AllF.nil')))))))))))) ?_ ?_
        ·refine (pC ?_ (pC ?_ (pC ?_ (pC ?_ (pC ?_ (pC ?_ (pC ?_ (pC ?_ (pC ?_ (pC ?_ (pC ?_ (pC ?_ AllStep.nil'))))))))))))
         ·intro K rest fr hv htk k
          show AWops _ x _ _ K ⟨54, (upd 54 fr 0 (D.one (C.ref 0 0))), _⟩
          refine s_move (d := (D.one (C.ref 0 0))) rfl k
         ·intro K rest fr hv htk k
          show AWops _ x _ _ K ⟨54, (upd 54 fr 0 (D.one (C.ref 0 0))), _⟩
          refine s_move (d := (D.one (C.ref 0 0))) rfl k
         ·intro K rest fr hv htk k
          show AWops _ x _ _ K ⟨54, (upd 54 fr 44 (D.one (C.ref 0 0))), [(hv 0), (hv 1), (hv 2), (hv 3), (hv 4), (hv 5), (hv 6), (hv 7), (hv 8)]⟩
          refine s_nilCheck (d := (D.one (C.ref 0 0))) rfl (.inl ⟨_, _, rfl⟩) k
         ·intro K rest fr hv htk k
          show AWops _ x _ _ K ⟨54, (upd 54 fr 45 (D.one (C.ref 0 0))), [(hv 0), (hv 1), (hv 2), (hv 3), (hv 4), (hv 5), (hv 6), (hv 7), (hv 8)]⟩
          refine s_fieldRef F.fo_27_2 (by decide) rfl k
         ·intro K rest fr hv htk k
          show AWops _ x _ _ K ⟨54, (upd 54 fr 46 (D.one (C.ref 0 2))), [(some (AObj.cells false [(C.ref 1 0), (C.p false (.sl r15.2.1.snap.length (r15.2.1.snap.flatMap e_u8))), (C.own 4 0 r15.2.1.l.length 1), (C.p true (.v (.bool r15.2.1.stopped)))])), (hv 1), (hv 2), (hv 3), (hv 4), (hv 5), (hv 6), (hv 7), (hv 8)]⟩
          refine s_load1 (c' := (C.own 4 0 r15.2.1.l.length 1)) F.ag_25 rfl rfl k
         ·intro K rest fr hv htk k
          show AWops _ x _ _ K ⟨54, (upd 54 fr 1 (D.one (C.p false (.sl a1.length (a1.flatMap e_u8))))), _⟩
          refine s_move (d := (D.one (C.p false (.sl a1.length (a1.flatMap e_u8))))) rfl k
         ·intro K rest fr hv htk k
          show AWops _ x _ _ K ⟨54, (upd 54 fr 48 (D.one (C.p false (.sl a1.length (a1.flatMap e_u8))))), [(hv 0), (hv 1), (hv 2), (hv 3), (hv 4), (hv 5), (hv 6), (hv 7), (hv 8)]⟩
          refine s_call2 (ρ := []) (br := false) (H2 := [(hv 0), (hv 1), (hv 2), (hv 3), (hv 4), (hv 5), (hv 6), (hv 7), (hv 8), (some (AObj.cells true (rowC e_u8 r26)))]) (d := (D.one (C.own 9 0 r26.length 1))) F.ca_28 rfl rfl (ac (.one .imm) an) an (by decide) rfl (slices_Clone_byte_byte.meets _ a1 r26 er26) (.inl rfl) (by first | rfl | (simp only [mergeH2, orF, Bool.false_or, Bool.or_false, Bool.true_or, Bool.or_true, mergeAt, mergeObj, renO, ren_row, List.drop_succ_cons, List.drop_zero, List.map_cons, List.map_nil, Option.map_some, Option.map_none, List.length_cons, List.length_nil, Nat.zero_add, List.append_assoc, List.cons_append, List.nil_append]; done) | (simp only [mergeH2, orF, Bool.false_or, Bool.or_false, Bool.true_or, Bool.or_true, mergeAt, mergeObj, renO, ren_row, List.drop_succ_cons, List.drop_zero, List.map_cons, List.map_nil, Option.map_some, Option.map_none, List.length_cons, List.length_nil, Nat.zero_add, List.append_assoc, List.cons_append, List.nil_append]; rfl)) rfl ?_
          refine AWops.weak (st' := ⟨54, (upd 54 (upd 54 fr 48 (D.one (C.p false (.sl a1.length (a1.flatMap e_u8))))) 49 (D.one (C.p false (.sl r26.length (r26.flatMap e_u8))))), [(hv 0), (hv 1), (hv 2), (hv 3), (hv 4), (hv 5), (hv 6), (hv 7), (hv 8)]⟩) (Weak.gen (kk := 4) [0, 1, 2, 3, 4, 5, 6, 7, 8] [9] hx rfl (by decide) (by decide) rfl rfl rfl (le_upd2 (le_ok (p := 6) (L := 9) rfl (htk 6 rfl).1) (.t (.one (CLe.frz e_u8_len rfl rfl rfl)))) (ac (ole_ok (p := 6) (L := 9) rfl ((htk 6 rfl).2 0)) (ac (ole_ok (p := 6) (L := 9) rfl ((htk 6 rfl).2 1)) (ac (ole_ok (p := 6) (L := 9) rfl ((htk 6 rfl).2 2)) (ac (ole_ok (p := 6) (L := 9) rfl ((htk 6 rfl).2 3)) (ac (ole_ok (p := 6) (L := 9) rfl ((htk 6 rfl).2 4)) (ac (ole_ok (p := 6) (L := 9) rfl ((htk 6 rfl).2 5)) (ac (ole_ok (p := 6) (L := 9) rfl ((htk 6 rfl).2 6)) (ac (ole_ok (p := 6) (L := 9) rfl ((htk 6 rfl).2 7)) (ac (ole_ok (p := 6) (L := 9) rfl ((htk 6 rfl).2 8)) an)))))))))) k
         ·intro K rest fr hv htk k
          show AWops _ x _ _ K ⟨54, (upd 54 fr 49 (D.one (C.p false (.sl r26.length (r26.flatMap e_u8))))), [(hv 0), (hv 1), (hv 2), (hv 3), (hv 4), (hv 5), (hv 6), (hv 7), (hv 8)]⟩
          refine s_buildSlice (n := 1) (ps := [(0, (D.one (C.p false (.sl r26.length (r26.flatMap e_u8)))))]) (cs := rowC (e_sl e_u8) ([r26] : List (List Int))) F.u_25 F.sz_22 F.z_22 rfl rfl (by decide) (by decide) rfl rfl ?_
          refine AWops.weak (st' := ⟨54, (upd 54 (upd 54 fr 49 (D.one (C.p false (.sl r26.length (r26.flatMap e_u8))))) 50 (D.one (C.own 7 0 (([r26] : List (List Int)).length) 1))), [(hv 0), (hv 1), (hv 2), (hv 3), (hv 4), (hv 5), (hv 6), (some (AObj.cells true (rowC (e_sl e_u8) ([r26] : List (List Int))))), (hv 8)]⟩) (Weak.gen (kk := 4) [0, 1, 2, 3, 4, 5, 6, 9, 8] [] hx rfl (by decide) (by decide) rfl rfl rfl (le_upd2 (le_ok (p := 7) (L := 9) rfl (htk 7 rfl).1) (.t (.one (.own rfl)))) (ac (ole_ok (p := 7) (L := 9) rfl ((htk 7 rfl).2 0)) (ac (ole_ok (p := 7) (L := 9) rfl ((htk 7 rfl).2 1)) (ac (ole_ok (p := 7) (L := 9) rfl ((htk 7 rfl).2 2)) (ac (ole_ok (p := 7) (L := 9) rfl ((htk 7 rfl).2 3)) (ac (ole_ok (p := 7) (L := 9) rfl ((htk 7 rfl).2 4)) (ac (ole_ok (p := 7) (L := 9) rfl ((htk 7 rfl).2 5)) (ac (ole_ok (p := 7) (L := 9) rfl ((htk 7 rfl).2 6)) (ac (.cells (fun _ => rfl) (all2_row _)) (ac (ole_ok (p := 7) (L := 9) rfl ((htk 7 rfl).2 8)) an)))))))))) k
         ·intro K rest fr hv htk k
          show AWops _ x _ _ K ⟨54, (upd 54 (upd 54 fr 50 (D.one (C.own 7 0 (([r26] : List (List Int)).length) 1))) 47 (D.one (C.own 4 0 r15.2.1.l.length 1))), [(hv 0), (hv 1), (hv 2), (hv 3), (some (AObj.cells false (rowC (e_sl e_u8) r15.2.1.l))), (hv 5), (hv 6), (some (AObj.cells true (rowC (e_sl e_u8) ([r26] : List (List Int))))), (hv 8)]⟩
          refine t_append (xs := r15.2.1.l) (ys := ([r26] : List (List Int))) (zs := r15.2.1.l ++ ([r26] : List (List Int))) (H' := [(hv 0), (hv 1), (hv 2), (hv 3), none, (hv 5), (hv 6), (some (AObj.cells true (rowC (e_sl e_u8) ([r26] : List (List Int))))), (hv 8), (some (AObj.cells false (rowC (e_sl e_u8) (r15.2.1.l ++ ([r26] : List (List Int))))))]) F.u_25 F.in_22 rfl (e_sl_len _) (.own rfl rfl) (.own rfl rfl) F.u_25 (by omega) (by omega) rfl rfl ?_
          refine AWops.weak (st' := ⟨54, (upd 54 (upd 54 (upd 54 fr 50 (D.one (C.own 7 0 (([r26] : List (List Int)).length) 1))) 47 (D.one (C.own 4 0 r15.2.1.l.length 1))) 51 (D.one (C.own 8 0 ((r15.2.1.l ++ ([r26] : List (List Int))).length) 1))), [(hv 0), (hv 1), (hv 2), (hv 3), none, (hv 5), (hv 6), (some (AObj.cells true (rowC (e_sl e_u8) ([r26] : List (List Int))))), (some (AObj.cells false (rowC (e_sl e_u8) (r15.2.1.l ++ ([r26] : List (List Int))))))]⟩) (Weak.gen (kk := 4) [0, 1, 2, 3, 4, 5, 6, 7, 9] [] hx rfl (by decide) (by decide) rfl rfl rfl (le_upd2 (le_ok (p := 8) (L := 9) rfl (htk 8 rfl).1) (.t (.one (.own rfl)))) (ac (ole_ok (p := 8) (L := 9) rfl ((htk 8 rfl).2 0)) (ac (ole_ok (p := 8) (L := 9) rfl ((htk 8 rfl).2 1)) (ac (ole_ok (p := 8) (L := 9) rfl ((htk 8 rfl).2 2)) (ac (ole_ok (p := 8) (L := 9) rfl ((htk 8 rfl).2 3)) (ac (.none _) (ac (ole_ok (p := 8) (L := 9) rfl ((htk 8 rfl).2 5)) (ac (ole_ok (p := 8) (L := 9) rfl ((htk 8 rfl).2 6)) (ac (.cells (fun _ => rfl) (all2_row _)) (ac (.cells (fun h => h) (all2_row _)) an)))))))))) k
         ·intro K rest fr hv htk k
          show AWops _ x _ _ K ⟨54, (upd 54 fr 43 (D.one (C.ref 0 0))), [(hv 0), (hv 1), (hv 2), (hv 3), (hv 4), (hv 5), (hv 6), (hv 7), (hv 8)]⟩
          refine s_nilCheck (d := (D.one (C.ref 0 0))) rfl (.inl ⟨_, _, rfl⟩) k
         ·intro K rest fr hv htk k
          show AWops _ x _ _ K ⟨54, (upd 54 fr 52 (D.one (C.ref 0 0))), [(hv 0), (hv 1), (hv 2), (hv 3), (hv 4), (hv 5), (hv 6), (hv 7), (hv 8)]⟩
          refine s_fieldRef F.fo_27_2 (by decide) rfl k
         ·intro K rest fr hv htk k
          show AWops _ x _ _ K ⟨54, (upd 54 (upd 54 fr 53 (D.one (C.ref 0 2))) 51 (D.one (C.own 8 0 ((r15.2.1.l ++ ([r26] : List (List Int))).length) 1))), [(some (AObj.cells false [(C.ref 1 0), (C.p false (.sl r15.2.1.snap.length (r15.2.1.snap.flatMap e_u8))), (C.own 4 0 r15.2.1.l.length 1), (C.p true (.v (.bool r15.2.1.stopped)))])), (hv 1), (hv 2), (hv 3), (hv 4), (hv 5), (hv 6), (hv 7), (hv 8)]⟩
          refine s_store (cs' := [(C.ref 1 0), (C.p false (.sl r15.2.1.snap.length (r15.2.1.snap.flatMap e_u8))), (C.own 8 0 ((r15.2.1.l ++ ([r26] : List (List Int))).length) 1), (C.p true (.v (.bool r15.2.1.stopped)))]) rfl rfl rfl (List.cons_ne_nil _ _) rfl F.sz_25 (nl rfl) rfl k
        ·refine AWops.weak (st' := ⟨54, topF, [(some (AObj.cells false [(C.ref 1 0), (C.p false (.sl r15.2.1.snap.length (r15.2.1.snap.flatMap e_u8))), (C.own 4 0 ((r15.2.1.l ++ ([r26] : List (List Int))).length) 1), (C.p true (.v (.bool r15.2.1.stopped)))])), (some (AObj.cells false [(C.mp 5), (C.p true (.v (.int .i64 x20))), (C.p true (.v (.int .i64 x21))), (C.p true (.v (.pointer none))), (C.p true (.v (.bool x22)))])), none, none, (some (AObj.cells false (rowC (e_sl e_u8) (r15.2.1.l ++ ([r26] : List (List Int)))))), (some (AObj.map false (mapE true e_vdisk_file x23)))]⟩) (Weak.gen (kk := 4) [0, 1, 2, 3, 8, 5] [] hx rfl (by decide) (by decide) rfl rfl rfl (le_top _) (ac (.cells (fun h => h) (ac (.ref rfl) (ac .same (ac (.own rfl) (ac .sc an))))) (ac (.cells (fun h => h) (ac (.mp rfl) (ac .sc (ac .sc (ac .sc (ac .sc an)))))) (ac (.none _) (ac (.none _) (ac (.cells (fun h => h) (all2_row _)) (ac .map an))))))) (AWops.nil (AW.seq (AW.region ?_)))
         refine s_assign (d := (sc (.int .i64 0))) rfl (AWops.nil (AW.ret ?_))
         obtain rfl := Option.some.inj h
         exact ⟨_, rfl, (Weak.gen (kk := 4) [0, 1, 2, 3, 4, 5] [] rfl rfl (by decide) (by decide) rfl rfl rfl (le_upd (le_top _) (.t (.one .sc))) (ac (.cells (fun h => h) (ac (.ref rfl) (ac .same (ac (.own rfl) (ac .sc an))))) (ac (.cells (fun h => h) (ac (.mp rfl) (ac .sc (ac .sc (ac .sc (ac .sc an)))))) (ac (.none _) (ac (.none _) (ac (.cells (fun h => h) (all2_row _)) (ac .map an)))))))⟩
mutual
def journal_Journal_Records_10.l0 : Nat → (List (List Int)) → Int → (Bool × journal_Journal × vdisk_Disk) → Option ((List (List Int)) × journal_Journal × vdisk_Disk)
 | 0, _, _, _ => none
 | k + 1, x3, x4, r1 => if (decide (x4 < (r1.2.1.l.length : Int))) = true then ((rd r1.2.1.l x4).bind fun v6 => (slices_Clone_byte_byte.f k v6).bind fun r8 => if (decide (x3.length + ([r8] : List (List Int)).length ≤ 5864062014805)) = true then (journal_Journal_Records_10.l0 k (x3 ++ ([r8] : List (List Int))) (IntKind.i64.wrap (x4 + 1)) r1) else none) else (some (x3, (⟨(), r1.2.1.snap, r1.2.1.l, r1.2.1.stopped⟩ : journal_Journal), r1.2.2))
end
def journal_Journal_Records_10.f (k : Nat) (p0 : journal_Journal) (p1 : vdisk_Disk) : Option ((List (List Int)) × journal_Journal × vdisk_Disk) := (journal_Journal_none_30.f k (⟨(), p0.snap, p0.l, p0.stopped⟩ : journal_Journal) p1).bind fun r1 => if r1.1 = true then (some (([] : List (List Int)), (⟨(), r1.2.1.snap, r1.2.1.l, r1.2.1.stopped⟩ : journal_Journal), r1.2.2)) else (journal_Journal_Records_10.l0 k ([] : List (List Int)) 0 r1)
theorem journal_Journal_Records_10.meets (k : Nat) (p0 : journal_Journal) (p1 : vdisk_Disk) (r : (List (List Int)) × journal_Journal × vdisk_Disk) (h : journal_Journal_Records_10.f k p0 p1 = some r) : Meets Try.prog 10 [(D.one (C.ref 0 0))] [(some (AObj.cells false [(C.ref 1 0), (C.p false (.sl p0.snap.length (p0.snap.flatMap e_u8))), (C.own 2 0 p0.l.length 1), (C.p true (.v (.bool p0.stopped)))])), (some (AObj.cells false [(C.mp 3), (C.p true (.v (.int .i64 p1.room))), (C.p true (.v (.int .i64 p1.used))), (C.p true (.v (.pointer none))), (C.p true (.v (.bool p1.dead)))])), (some (AObj.cells false (rowC (e_sl e_u8) p0.l))), (some (AObj.map false (mapE true e_vdisk_file p1.files)))] (D.one (C.own 6 0 r.1.length 1)) [(some (AObj.cells false [(C.ref 1 0), (C.p false (.sl r.2.1.snap.length (r.2.1.snap.flatMap e_u8))), (C.own 4 0 r.2.1.l.length 1), (C.p true (.v (.bool r.2.1.stopped)))])), (some (AObj.cells false [(C.mp 5), (C.p true (.v (.int .i64 r.2.2.room))), (C.p true (.v (.int .i64 r.2.2.used))), (C.p true (.v (.pointer none))), (C.p true (.v (.bool r.2.2.dead)))])), none, none, (some (AObj.cells false (rowC (e_sl e_u8) r.2.1.l))), (some (AObj.map false (mapE true e_vdisk_file r.2.2.files))), (some (AObj.cells true (rowC (e_sl e_u8) r.1)))] := by
 unfold journal_Journal_Records_10.f at h
 refine Meets.of_body (n := 24) Try.func10 rfl rfl (nl rfl) fun x hx => ?_
 replace hx : x.k = 4 := hx
 show AW _ x _ _ ⟨24, fr0 [(D.one (C.ref 0 0))], [(some (AObj.cells false [(C.ref 1 0), (C.p false (.sl p0.snap.length (p0.snap.flatMap e_u8))), (C.own 2 0 p0.l.length 1), (C.p true (.v (.bool p0.stopped)))])), (some (AObj.cells false [(C.mp 3), (C.p true (.v (.int .i64 p1.room))), (C.p true (.v (.int .i64 p1.used))), (C.p true (.v (.pointer none))), (C.p true (.v (.bool p1.dead)))])), (some (AObj.cells false (rowC (e_sl e_u8) p0.l))), (some (AObj.map false (mapE true e_vdisk_file p1.files)))]⟩
 refine AW.weak (st' := ⟨24, (upd 24 topF 0 (D.one (C.ref 0 0))), [(some (AObj.cells false [(C.ref 1 0), (C.p false (.sl p0.snap.length (p0.snap.flatMap e_u8))), (C.own 4 0 p0.l.length 1), (C.p true (.v (.bool p0.stopped)))])), (some (AObj.cells false [(C.mp 5), (C.p true (.v (.int .i64 p1.room))), (C.p true (.v (.int .i64 p1.used))), (C.p true (.v (.pointer none))), (C.p true (.v (.bool p1.dead)))])), none, none, (some (AObj.cells false (rowC (e_sl e_u8) p0.l))), (some (AObj.map false (mapE true e_vdisk_file p1.files)))]⟩) (Weak.genL (kk := 4) [0, 1, 2, 3, 2, 3] [] hx rfl (by decide) rfl rfl rfl rfl (le_upd (le_top _) (.t (.one (.ref rfl)))) (ac (.cells (fun h => h) (ac (.ref rfl) (ac .same (ac (.own rfl) (ac .sc an))))) (ac (.cells (fun h => h) (ac (.mp rfl) (ac .sc (ac .sc (ac .sc (ac .sc an)))))) (ac (.none _) (ac (.none _) (ac (.cells (fun h => h) (all2_row _)) (ac .map an))))))) (AW.seq (AW.region ?_))
 refine s_assign (d := (sc (.slice none 0 0))) rfl (AWops.nil (AW.seq (AW.seq (AW.region ?_))))
 refine s_move (d := (D.one (C.ref 0 0))) rfl ?_
 obtain ⟨r1, er1, h⟩ := bnd h
 refine s_call2 (ρ := [0, 1, 4, 5]) (br := false) (H2 := [(some (AObj.cells false [(C.ref 1 0), (C.p false (.sl r1.2.1.snap.length (r1.2.1.snap.flatMap e_u8))), (C.own 6 0 r1.2.1.l.length 1), (C.p true (.v (.bool r1.2.1.stopped)))])), (some (AObj.cells false [(C.mp 7), (C.p true (.v (.int .i64 r1.2.2.room))), (C.p true (.v (.int .i64 r1.2.2.used))), (C.p true (.v (.pointer none))), (C.p true (.v (.bool r1.2.2.dead)))])), none, none, none, none, (some (AObj.cells false (rowC (e_sl e_u8) r1.2.1.l))), (some (AObj.map false (mapE true e_vdisk_file r1.2.2.files)))]) (d := (sc (.bool r1.1))) F.ca_30 rfl rfl (ac (.one (.ref rfl)) an) (ac (.cells (ac (.ref rfl) (ac .imm (ac (.own rfl) (ac .sc an))))) (ac (.cells (ac (.mp rfl) (ac .sc (ac .sc (ac .sc (ac .sc an)))))) (ac (.cells (lend_row _)) (ac .map an)))) (by decide) rfl (journal_Journal_none_30.meets _ (⟨(), p0.snap, p0.l, p0.stopped⟩ : journal_Journal) p1 r1 er1) (.inl rfl) (by first | rfl | (simp only [mergeH2, orF, Bool.false_or, Bool.or_false, Bool.true_or, Bool.or_true, mergeAt, mergeObj, renO, ren_row, List.drop_succ_cons, List.drop_zero, List.map_cons, List.map_nil, Option.map_some, Option.map_none, List.length_cons, List.length_nil, Nat.zero_add, List.append_assoc, List.cons_append, List.nil_append]; done) | (simp only [mergeH2, orF, Bool.false_or, Bool.or_false, Bool.true_or, Bool.or_true, mergeAt, mergeObj, renO, ren_row, List.drop_succ_cons, List.drop_zero, List.map_cons, List.map_nil, Option.map_some, Option.map_none, List.length_cons, List.length_nil, Nat.zero_add, List.append_assoc, List.cons_append, List.nil_append]; rfl)) rfl (AWops.nil ?_)
 rcases itH h with ⟨c2, h⟩ | ⟨c2, h⟩
 ·refine AW.cond_yes rfl c2 (AW.seq (AW.region ?_))
  refine s_assign (d := (sc (.slice none 0 0))) rfl (AWops.nil (AW.ret ?_))
  obtain rfl := Option.some.inj h
  exact ⟨_, rfl, (Weak.trans (Weak.nil (sz := 1) (i := 0) rfl) (Weak.gen (kk := 4) [0, 1, 2, 3, 6, 7, 8] [] rfl rfl (by decide) (by decide) rfl rfl rfl (le_upd (le_top _) (.t (.one (CLe.ownN rfl (by simp))))) (ac (.cells (fun h => h) (ac (.ref rfl) (ac .same (ac (.own rfl) (ac .sc an))))) (ac (.cells (fun h => h) (ac (.mp rfl) (ac .sc (ac .sc (ac .sc (ac .sc an)))))) (ac (.none _) (ac (.none _) (ac (.cells (fun h => h) (all2_row _)) (ac .map (ac (.cells (fun _ => rfl) an) an)))))))))⟩
 ·refine AW.cond_no rfl c2 (AW.skip (AW.seq (AW.region ?_)))
  refine s_assign (d := (sc (.slice none 0 0))) rfl (AWops.nil (AW.seq (AW.seq (AW.region ?_))))
  refine s_move (d := (D.one (C.ref 0 0))) rfl ?_
  refine s_nilCheck (d := (D.one (C.ref 0 0))) rfl (.inl ⟨_, _, rfl⟩) ?_
  refine s_fieldRef F.fo_27_2 (by decide) rfl ?_
  refine s_load1 (c' := (C.own 6 0 r1.2.1.l.length 1)) F.ag_25 rfl rfl ?_
  refine s_len (n := r1.2.1.l.length) F.u_25 rfl (.inr ⟨(fun _ _ h => by cases h), ⟨_, rfl⟩⟩) ?_
  refine s_move (d := (sc (.int .i64 0))) rfl (AWops.nil (AW.block ?_))
  refine AW.loopw (st0 := ⟨24, (upd 24 (upd 24 (upd 24 (upd 24 topF 3 (D.one (C.own 4 0 ([] : List (List Int)).length 1))) 11 (D.one (C.own 5 0 r1.2.1.l.length 1))) 12 (sc (.int .i64 (r1.2.1.l.length : Int)))) 13 (sc (.int .i64 0))), [(some (AObj.cells false [(C.ref 1 0), (C.p false (.sl r1.2.1.snap.length (r1.2.1.snap.flatMap e_u8))), (C.own 5 0 r1.2.1.l.length 1), (C.p true (.v (.bool r1.2.1.stopped)))])), (some (AObj.cells false [(C.mp 6), (C.p true (.v (.int .i64 r1.2.2.room))), (C.p true (.v (.int .i64 r1.2.2.used))), (C.p true (.v (.pointer none))), (C.p true (.v (.bool r1.2.2.dead)))])), none, none, (some (AObj.cells true (rowC (e_sl e_u8) ([] : List (List Int))))), (some (AObj.cells false (rowC (e_sl e_u8) r1.2.1.l))), (some (AObj.map false (mapE true e_vdisk_file r1.2.2.files)))]⟩) (fun kv st => kv ≤ k ∧ ∃ (x3 : List (List Int)) (x4 : Int), journal_Journal_Records_10.l0 kv x3 x4 r1 = some r ∧ st = ⟨24, (upd 24 (upd 24 (upd 24 (upd 24 topF 3 (D.one (C.own 4 0 x3.length 1))) 11 (D.one (C.own 5 0 r1.2.1.l.length 1))) 12 (sc (.int .i64 (r1.2.1.l.length : Int)))) 13 (sc (.int .i64 x4))), [(some (AObj.cells false [(C.ref 1 0), (C.p false (.sl r1.2.1.snap.length (r1.2.1.snap.flatMap e_u8))), (C.own 5 0 r1.2.1.l.length 1), (C.p true (.v (.bool r1.2.1.stopped)))])), (some (AObj.cells false [(C.mp 6), (C.p true (.v (.int .i64 r1.2.2.room))), (C.p true (.v (.int .i64 r1.2.2.used))), (C.p true (.v (.pointer none))), (C.p true (.v (.bool r1.2.2.dead)))])), none, none, (some (AObj.cells true (rowC (e_sl e_u8) x3))), (some (AObj.cells false (rowC (e_sl e_u8) r1.2.1.l))), (some (AObj.map false (mapE true e_vdisk_file r1.2.2.files)))]⟩) (k := k) (Weak.trans (Weak.nil (sz := 1) (i := 3) rfl) (Weak.gen (kk := 4) [0, 1, 2, 3, 8, 6, 7] [] hx rfl (by decide) (by decide) rfl rfl rfl (le_upd (le_upd (le_upd (le_upd (le_top _) (.t (.one (.own rfl)))) (.t (.one (.own rfl)))) (.t (.one .sc))) (.t (.one .sc))) (ac (.cells (fun h => h) (ac (.ref rfl) (ac .same (ac (.own rfl) (ac .sc an))))) (ac (.cells (fun h => h) (ac (.mp rfl) (ac .sc (ac .sc (ac .sc (ac .sc an)))))) (ac (.none _) (ac (.none _) (ac (.cells (fun _ => rfl) an) (ac (.cells (fun h => h) (all2_row _)) (ac .map an))))))))) ⟨Nat.le_refl _, ([] : List (List Int)), 0, h, rfl⟩ ?_
  rintro ql0 st ⟨hkl0, x3, x4, h, rfl⟩
  cases ql0 with
  | zero => exact absurd h (by simp [journal_Journal_Records_10.l0])
  | succ ql0 =>
   replace h := (journal_Journal_Records_10.l0.eq_2 _ _ _ _).symm.trans h
   refine AW.seq (AW.region ?_)
   refine s_binI (v := (.bool (decide (x4 < (r1.2.1.l.length : Int))))) rfl rfl rfl (AWops.nil (AW.seq ?_))
   rcases itH h with ⟨c5, h⟩ | ⟨c5, h⟩
   ·refine AW.cond_yes rfl c5 (AW.skip (AW.seq (AW.block (AW.seq (AW.region ?_)))))
    obtain ⟨v6, ev6, h⟩ := bnd h
    obtain ⟨pv6, qv6, gv6⟩ := rd_some ev6
    refine s_indexOwn (d := (D.one (C.ref 5 (0 + x4.toNat * 1)))) F.u_25 F.sz_22 rfl rfl pv6 qv6 rfl ?_
    obtain ⟨R7, hR7⟩ := row_at (f := (e_sl e_u8)) (sz := 1) (o := 0) (e_sl_len _) gv6 (e_sl_eq _ v6) (by decide)
    refine s_load1 (c' := (C.p false (.sl v6.length (v6.flatMap e_u8)))) F.ag_22 (congrArg some hR7) rfl ?_
    refine s_assign (d := (D.one (C.p false (.sl v6.length (v6.flatMap e_u8))))) rfl (AWops.nil (AW.region ?_))
    refine s_move (d := (D.one (C.own 4 0 x3.length 1))) rfl ?_
    refine s_move (d := (D.one (C.p false (.sl v6.length (v6.flatMap e_u8))))) rfl ?_
    obtain ⟨r8, er8, h⟩ := bnd h
    refine s_call2 (ρ := []) (br := false) (H2 := [(some (AObj.cells false [(C.ref 1 0), (C.p false (.sl r1.2.1.snap.length (r1.2.1.snap.flatMap e_u8))), (C.own 5 0 r1.2.1.l.length 1), (C.p true (.v (.bool r1.2.1.stopped)))])), (some (AObj.cells false [(C.mp 6), (C.p true (.v (.int .i64 r1.2.2.room))), (C.p true (.v (.int .i64 r1.2.2.used))), (C.p true (.v (.pointer none))), (C.p true (.v (.bool r1.2.2.dead)))])), none, none, (some (AObj.cells true (rowC (e_sl e_u8) x3))), (some (AObj.cells false (rowC (e_sl e_u8) r1.2.1.l))), (some (AObj.map false (mapE true e_vdisk_file r1.2.2.files))), (some (AObj.cells true (rowC e_u8 r8)))]) (d := (D.one (C.own 7 0 r8.length 1))) F.ca_28 rfl rfl (ac (.one .imm) an) an (by decide) rfl (slices_Clone_byte_byte.meets _ v6 r8 er8) (.inl rfl) (by first | rfl | (simp only [mergeH2, orF, Bool.false_or, Bool.or_false, Bool.true_or, Bool.or_true, mergeAt, mergeObj, renO, ren_row, List.drop_succ_cons, List.drop_zero, List.map_cons, List.map_nil, Option.map_some, Option.map_none, List.length_cons, List.length_nil, Nat.zero_add, List.append_assoc, List.cons_append, List.nil_append]; done) | (simp only [mergeH2, orF, Bool.false_or, Bool.or_false, Bool.true_or, Bool.or_true, mergeAt, mergeObj, renO, ren_row, List.drop_succ_cons, List.drop_zero, List.map_cons, List.map_nil, Option.map_some, Option.map_none, List.length_cons, List.length_nil, Nat.zero_add, List.append_assoc, List.cons_append, List.nil_append]; rfl)) rfl ?_
    refine AWops.weak (st' := ⟨24, (upd 24 (upd 24 (upd 24 (upd 24 (upd 24 (upd 24 (upd 24 (upd 24 (upd 24 (upd 24 (upd 24 topF 3 (D.one (C.own 4 0 x3.length 1))) 5 (D.one (C.p false (.sl v6.length (v6.flatMap e_u8))))) 11 (D.one (C.own 5 0 r1.2.1.l.length 1))) 12 (sc (.int .i64 (r1.2.1.l.length : Int)))) 13 (sc (.int .i64 x4))) 14 (sc (.bool (decide (x4 < (r1.2.1.l.length : Int)))))) 15 (D.one (C.ref 5 (0 + x4.toNat * 1)))) 16 (D.one (C.p false (.sl v6.length (v6.flatMap e_u8))))) 17 (D.one (C.own 4 0 x3.length 1))) 18 (D.one (C.p false (.sl v6.length (v6.flatMap e_u8))))) 19 (D.one (C.p false (.sl r8.length (r8.flatMap e_u8))))), [(some (AObj.cells false [(C.ref 1 0), (C.p false (.sl r1.2.1.snap.length (r1.2.1.snap.flatMap e_u8))), (C.own 5 0 r1.2.1.l.length 1), (C.p true (.v (.bool r1.2.1.stopped)))])), (some (AObj.cells false [(C.mp 6), (C.p true (.v (.int .i64 r1.2.2.room))), (C.p true (.v (.int .i64 r1.2.2.used))), (C.p true (.v (.pointer none))), (C.p true (.v (.bool r1.2.2.dead)))])), none, none, (some (AObj.cells true (rowC (e_sl e_u8) x3))), (some (AObj.cells false (rowC (e_sl e_u8) r1.2.1.l))), (some (AObj.map false (mapE true e_vdisk_file r1.2.2.files)))]⟩) (Weak.gen (kk := 4) [0, 1, 2, 3, 4, 5, 6] [7] hx rfl (by decide) (by decide) rfl rfl rfl (le_upd (le_upd (le_upd (le_upd (le_upd (le_upd (le_upd (le_upd (le_upd (le_upd (le_upd (le_top _) (.t (.one (.own rfl)))) (.t (.one .same))) (.t (.one (.own rfl)))) (.t (.one .sc))) (.t (.one .sc))) (.t (.one .sc))) (.t (.one (.ref rfl)))) (.t (.one .same))) (.t (.one (.own rfl)))) (.t (.one .same))) (.t (.one (CLe.frz e_u8_len rfl rfl rfl)))) (ac (.cells (fun h => h) (ac (.ref rfl) (ac .same (ac (.own rfl) (ac .sc an))))) (ac (.cells (fun h => h) (ac (.mp rfl) (ac .sc (ac .sc (ac .sc (ac .sc an)))))) (ac (.none _) (ac (.none _) (ac (.cells (fun _ => rfl) (all2_row _)) (ac (.cells (fun h => h) (all2_row _)) (ac .map an)))))))) ?_
    refine s_buildSlice (n := 1) (ps := [(0, (D.one (C.p false (.sl r8.length (r8.flatMap e_u8)))))]) (cs := rowC (e_sl e_u8) ([r8] : List (List Int))) F.u_25 F.sz_22 F.z_22 rfl rfl (by decide) (by decide) rfl rfl ?_
    obtain ⟨c9, h⟩ := gdH h
    have dc9 := of_decide_eq_true c9
    refine t_append (xs := x3) (ys := ([r8] : List (List Int))) (zs := x3 ++ ([r8] : List (List Int))) (H' := [(some (AObj.cells false [(C.ref 1 0), (C.p false (.sl r1.2.1.snap.length (r1.2.1.snap.flatMap e_u8))), (C.own 5 0 r1.2.1.l.length 1), (C.p true (.v (.bool r1.2.1.stopped)))])), (some (AObj.cells false [(C.mp 6), (C.p true (.v (.int .i64 r1.2.2.room))), (C.p true (.v (.int .i64 r1.2.2.used))), (C.p true (.v (.pointer none))), (C.p true (.v (.bool r1.2.2.dead)))])), none, none, none, (some (AObj.cells false (rowC (e_sl e_u8) r1.2.1.l))), (some (AObj.map false (mapE true e_vdisk_file r1.2.2.files))), (some (AObj.cells true (rowC (e_sl e_u8) ([r8] : List (List Int))))), (some (AObj.cells true (rowC (e_sl e_u8) (x3 ++ ([r8] : List (List Int))))))]) F.u_25 F.in_22 rfl (e_sl_len _) (.own rfl rfl) (.own rfl rfl) F.u_25 (by omega) (by omega) rfl rfl ?_
    refine s_assign (d := (D.one (C.own 8 0 ((x3 ++ ([r8] : List (List Int))).length) 1))) rfl (AWops.nil (AW.region ?_))
    refine s_binI (v := (.int .i64 (IntKind.i64.wrap (x4 + 1)))) rfl rfl rfl ?_
    refine s_move (d := (sc (.int .i64 (IntKind.i64.wrap (x4 + 1))))) rfl (AWops.nil ?_)
    exact ⟨_, ⟨24, (upd 24 (upd 24 (upd 24 (upd 24 topF 3 (D.one (C.own 4 0 (x3 ++ ([r8] : List (List Int))).length 1))) 11 (D.one (C.own 5 0 r1.2.1.l.length 1))) 12 (sc (.int .i64 (r1.2.1.l.length : Int)))) 13 (sc (.int .i64 (IntKind.i64.wrap (x4 + 1))))), [(some (AObj.cells false [(C.ref 1 0), (C.p false (.sl r1.2.1.snap.length (r1.2.1.snap.flatMap e_u8))), (C.own 5 0 r1.2.1.l.length 1), (C.p true (.v (.bool r1.2.1.stopped)))])), (some (AObj.cells false [(C.mp 6), (C.p true (.v (.int .i64 r1.2.2.room))), (C.p true (.v (.int .i64 r1.2.2.used))), (C.p true (.v (.pointer none))), (C.p true (.v (.bool r1.2.2.dead)))])), none, none, (some (AObj.cells true (rowC (e_sl e_u8) (x3 ++ ([r8] : List (List Int)))))), (some (AObj.cells false (rowC (e_sl e_u8) r1.2.1.l))), (some (AObj.map false (mapE true e_vdisk_file r1.2.2.files)))]⟩, by omega, (Weak.gen (kk := 4) [0, 1, 2, 3, 8, 5, 6] [] hx rfl (by decide) (by decide) rfl rfl rfl (le_upd (le_upd (le_upd (le_upd (le_top _) (.t (.one (.own rfl)))) (.t (.one (.own rfl)))) (.t (.one .sc))) (.t (.one .sc))) (ac (.cells (fun h => h) (ac (.ref rfl) (ac .same (ac (.own rfl) (ac .sc an))))) (ac (.cells (fun h => h) (ac (.mp rfl) (ac .sc (ac .sc (ac .sc (ac .sc an)))))) (ac (.none _) (ac (.none _) (ac (.cells (fun _ => rfl) (all2_row _)) (ac (.cells (fun h => h) (all2_row _)) (ac .map an)))))))), by omega, x3 ++ ([r8] : List (List Int)), IntKind.i64.wrap (x4 + 1), h, rfl⟩
   ·refine AW.cond_no rfl c5 (AW.exit (AW.seq (AW.region ?_)))
    refine s_move (d := (D.one (C.own 4 0 x3.length 1))) rfl ?_
    refine s_assign (d := (D.one (C.own 4 0 x3.length 1))) rfl (AWops.nil (AW.ret ?_))
    obtain rfl := Option.some.inj h
    exact ⟨_, rfl, (Weak.gen (kk := 4) [0, 1, 2, 3, 5, 6, 4] [] rfl rfl (by decide) (by decide) rfl rfl rfl (le_upd (le_top _) (.t (.one (.own rfl)))) (ac (.cells (fun h => h) (ac (.ref rfl) (ac .same (ac (.own rfl) (ac .sc an))))) (ac (.cells (fun h => h) (ac (.mp rfl) (ac .sc (ac .sc (ac .sc (ac .sc an)))))) (ac (.none _) (ac (.none _) (ac (.cells (fun h => h) (all2_row _)) (ac .map (ac (.cells (fun _ => rfl) (all2_row _)) an))))))))⟩
def journal_Journal_Snapshot_9.f (k : Nat) (p0 : journal_Journal) (p1 : vdisk_Disk) : Option ((List Int) × journal_Journal × vdisk_Disk) := (journal_Journal_none_30.f k (⟨(), p0.snap, p0.l, p0.stopped⟩ : journal_Journal) p1).bind fun r1 => if r1.1 = true then (some (([] : List Int), (⟨(), r1.2.1.snap, r1.2.1.l, r1.2.1.stopped⟩ : journal_Journal), r1.2.2)) else ((slices_Clone_byte_byte.f k r1.2.1.snap).bind fun r3 => some (r3, (⟨(), r1.2.1.snap, r1.2.1.l, r1.2.1.stopped⟩ : journal_Journal), r1.2.2))
theorem journal_Journal_Snapshot_9.meets (k : Nat) (p0 : journal_Journal) (p1 : vdisk_Disk) (r : (List Int) × journal_Journal × vdisk_Disk) (h : journal_Journal_Snapshot_9.f k p0 p1 = some r) : Meets Try.prog 9 [(D.one (C.ref 0 0))] [(some (AObj.cells false [(C.ref 1 0), (C.p false (.sl p0.snap.length (p0.snap.flatMap e_u8))), (C.own 2 0 p0.l.length 1), (C.p true (.v (.bool p0.stopped)))])), (some (AObj.cells false [(C.mp 3), (C.p true (.v (.int .i64 p1.room))), (C.p true (.v (.int .i64 p1.used))), (C.p true (.v (.pointer none))), (C.p true (.v (.bool p1.dead)))])), (some (AObj.cells false (rowC (e_sl e_u8) p0.l))), (some (AObj.map false (mapE true e_vdisk_file p1.files)))] (D.one (C.own 6 0 r.1.length 1)) [(some (AObj.cells false [(C.ref 1 0), (C.p false (.sl r.2.1.snap.length (r.2.1.snap.flatMap e_u8))), (C.own 4 0 r.2.1.l.length 1), (C.p true (.v (.bool r.2.1.stopped)))])), (some (AObj.cells false [(C.mp 5), (C.p true (.v (.int .i64 r.2.2.room))), (C.p true (.v (.int .i64 r.2.2.used))), (C.p true (.v (.pointer none))), (C.p true (.v (.bool r.2.2.dead)))])), none, none, (some (AObj.cells false (rowC (e_sl e_u8) r.2.1.l))), (some (AObj.map false (mapE true e_vdisk_file r.2.2.files))), (some (AObj.cells true (rowC e_u8 r.1)))] := by
 unfold journal_Journal_Snapshot_9.f at h
 refine Meets.of_body (n := 10) Try.func9 rfl rfl (nl rfl) fun x hx => ?_
 replace hx : x.k = 4 := hx
 show AW _ x _ _ ⟨10, fr0 [(D.one (C.ref 0 0))], [(some (AObj.cells false [(C.ref 1 0), (C.p false (.sl p0.snap.length (p0.snap.flatMap e_u8))), (C.own 2 0 p0.l.length 1), (C.p true (.v (.bool p0.stopped)))])), (some (AObj.cells false [(C.mp 3), (C.p true (.v (.int .i64 p1.room))), (C.p true (.v (.int .i64 p1.used))), (C.p true (.v (.pointer none))), (C.p true (.v (.bool p1.dead)))])), (some (AObj.cells false (rowC (e_sl e_u8) p0.l))), (some (AObj.map false (mapE true e_vdisk_file p1.files)))]⟩
 refine AW.weak (st' := ⟨10, (upd 10 topF 0 (D.one (C.ref 0 0))), [(some (AObj.cells false [(C.ref 1 0), (C.p false (.sl p0.snap.length (p0.snap.flatMap e_u8))), (C.own 4 0 p0.l.length 1), (C.p true (.v (.bool p0.stopped)))])), (some (AObj.cells false [(C.mp 5), (C.p true (.v (.int .i64 p1.room))), (C.p true (.v (.int .i64 p1.used))), (C.p true (.v (.pointer none))), (C.p true (.v (.bool p1.dead)))])), none, none, (some (AObj.cells false (rowC (e_sl e_u8) p0.l))), (some (AObj.map false (mapE true e_vdisk_file p1.files)))]⟩) (Weak.genL (kk := 4) [0, 1, 2, 3, 2, 3] [] hx rfl (by decide) rfl rfl rfl rfl (le_upd (le_top _) (.t (.one (.ref rfl)))) (ac (.cells (fun h => h) (ac (.ref rfl) (ac .same (ac (.own rfl) (ac .sc an))))) (ac (.cells (fun h => h) (ac (.mp rfl) (ac .sc (ac .sc (ac .sc (ac .sc an)))))) (ac (.none _) (ac (.none _) (ac (.cells (fun h => h) (all2_row _)) (ac .map an))))))) (AW.seq (AW.region ?_))
 refine s_assign (d := (sc (.slice none 0 0))) rfl (AWops.nil (AW.seq (AW.seq (AW.region ?_))))
 refine s_move (d := (D.one (C.ref 0 0))) rfl ?_
 obtain ⟨r1, er1, h⟩ := bnd h
 refine s_call2 (ρ := [0, 1, 4, 5]) (br := false) (H2 := [(some (AObj.cells false [(C.ref 1 0), (C.p false (.sl r1.2.1.snap.length (r1.2.1.snap.flatMap e_u8))), (C.own 6 0 r1.2.1.l.length 1), (C.p true (.v (.bool r1.2.1.stopped)))])), (some (AObj.cells false [(C.mp 7), (C.p true (.v (.int .i64 r1.2.2.room))), (C.p true (.v (.int .i64 r1.2.2.used))), (C.p true (.v (.pointer none))), (C.p true (.v (.bool r1.2.2.dead)))])), none, none, none, none, (some (AObj.cells false (rowC (e_sl e_u8) r1.2.1.l))), (some (AObj.map false (mapE true e_vdisk_file r1.2.2.files)))]) (d := (sc (.bool r1.1))) F.ca_30 rfl rfl (ac (.one (.ref rfl)) an) (ac (.cells (ac (.ref rfl) (ac .imm (ac (.own rfl) (ac .sc an))))) (ac (.cells (ac (.mp rfl) (ac .sc (ac .sc (ac .sc (ac .sc an)))))) (ac (.cells (lend_row _)) (ac .map an)))) (by decide) rfl (journal_Journal_none_30.meets _ (⟨(), p0.snap, p0.l, p0.stopped⟩ : journal_Journal) p1 r1 er1) (.inl rfl) (by first | rfl | (simp only [mergeH2, orF, Bool.false_or, Bool.or_false, Bool.true_or, Bool.or_true, mergeAt, mergeObj, renO, ren_row, List.drop_succ_cons, List.drop_zero, List.map_cons, List.map_nil, Option.map_some, Option.map_none, List.length_cons, List.length_nil, Nat.zero_add, List.append_assoc, List.cons_append, List.nil_append]; done) | (simp only [mergeH2, orF, Bool.false_or, Bool.or_false, Bool.true_or, Bool.or_true, mergeAt, mergeObj, renO, ren_row, List.drop_succ_cons, List.drop_zero, List.map_cons, List.map_nil, Option.map_some, Option.map_none, List.length_cons, List.length_nil, Nat.zero_add, List.append_assoc, List.cons_append, List.nil_append]; rfl)) rfl (AWops.nil ?_)
 rcases itH h with ⟨c2, h⟩ | ⟨c2, h⟩
 ·refine AW.cond_yes rfl c2 (AW.seq (AW.region ?_))
  refine s_assign (d := (sc (.slice none 0 0))) rfl (AWops.nil (AW.ret ?_))
  obtain rfl := Option.some.inj h
  exact ⟨_, rfl, (Weak.trans (Weak.nil (sz := 1) (i := 0) rfl) (Weak.gen (kk := 4) [0, 1, 2, 3, 6, 7, 8] [] rfl rfl (by decide) (by decide) rfl rfl rfl (le_upd (le_top _) (.t (.one (CLe.ownN rfl (by simp))))) (ac (.cells (fun h => h) (ac (.ref rfl) (ac .same (ac (.own rfl) (ac .sc an))))) (ac (.cells (fun h => h) (ac (.mp rfl) (ac .sc (ac .sc (ac .sc (ac .sc an)))))) (ac (.none _) (ac (.none _) (ac (.cells (fun h => h) (all2_row _)) (ac .map (ac (.cells (fun _ => rfl) an) an)))))))))⟩
 ·refine AW.cond_no rfl c2 (AW.skip (AW.seq (AW.region ?_)))
  refine s_move (d := (D.one (C.ref 0 0))) rfl ?_
  refine s_nilCheck (d := (D.one (C.ref 0 0))) rfl (.inl ⟨_, _, rfl⟩) ?_
  refine s_fieldRef F.fo_27_1 (by decide) rfl ?_
  refine s_load1 (c' := (C.p false (.sl r1.2.1.snap.length (r1.2.1.snap.flatMap e_u8)))) F.ag_22 rfl rfl ?_
  obtain ⟨r3, er3, h⟩ := bnd h
  refine s_call2 (ρ := []) (br := false) (H2 := [(some (AObj.cells false [(C.ref 1 0), (C.p false (.sl r1.2.1.snap.length (r1.2.1.snap.flatMap e_u8))), (C.own 6 0 r1.2.1.l.length 1), (C.p true (.v (.bool r1.2.1.stopped)))])), (some (AObj.cells false [(C.mp 7), (C.p true (.v (.int .i64 r1.2.2.room))), (C.p true (.v (.int .i64 r1.2.2.used))), (C.p true (.v (.pointer none))), (C.p true (.v (.bool r1.2.2.dead)))])), none, none, none, none, (some (AObj.cells false (rowC (e_sl e_u8) r1.2.1.l))), (some (AObj.map false (mapE true e_vdisk_file r1.2.2.files))), (some (AObj.cells true (rowC e_u8 r3)))]) (d := (D.one (C.own 8 0 r3.length 1))) F.ca_28 rfl rfl (ac (.one .imm) an) an (by decide) rfl (slices_Clone_byte_byte.meets _ r1.2.1.snap r3 er3) (.inl rfl) (by first | rfl | (simp only [mergeH2, orF, Bool.false_or, Bool.or_false, Bool.true_or, Bool.or_true, mergeAt, mergeObj, renO, ren_row, List.drop_succ_cons, List.drop_zero, List.map_cons, List.map_nil, Option.map_some, Option.map_none, List.length_cons, List.length_nil, Nat.zero_add, List.append_assoc, List.cons_append, List.nil_append]; done) | (simp only [mergeH2, orF, Bool.false_or, Bool.or_false, Bool.true_or, Bool.or_true, mergeAt, mergeObj, renO, ren_row, List.drop_succ_cons, List.drop_zero, List.map_cons, List.map_nil, Option.map_some, Option.map_none, List.length_cons, List.length_nil, Nat.zero_add, List.append_assoc, List.cons_append, List.nil_append]; rfl)) rfl ?_
  refine s_assign (d := (D.one (C.own 8 0 r3.length 1))) rfl (AWops.nil (AW.ret ?_))
  obtain rfl := Option.some.inj h
  exact ⟨_, rfl, (Weak.gen (kk := 4) [0, 1, 2, 3, 6, 7, 8] [] rfl rfl (by decide) (by decide) rfl rfl rfl (le_upd (le_top _) (.t (.one (.own rfl)))) (ac (.cells (fun h => h) (ac (.ref rfl) (ac .same (ac (.own rfl) (ac .sc an))))) (ac (.cells (fun h => h) (ac (.mp rfl) (ac .sc (ac .sc (ac .sc (ac .sc an)))))) (ac (.none _) (ac (.none _) (ac (.cells (fun h => h) (all2_row _)) (ac .map (ac (.cells (fun _ => rfl) (all2_row _)) an))))))))⟩
def dossierlaw04_awake.f (k : Nat) : Option Bool := (vdisk_New.f k 100).bind fun r1 => if (r1.2 != 0) = true then (some false) else ((journal_Open_12.f k r1.1 ([115] : List Int)).bind fun r3 => if (r3.2.1 == 0) = true then ((journal_Journal_Append_7.f k (⟨(), r3.1.snap, r3.1.l, r3.1.stopped⟩ : journal_Journal) ([97] : List Int) r3.2.2).bind fun r5 => if (r5.1 == 0) = true then ((journal_Journal_Records_10.f k (⟨(), r5.2.1.snap, r5.2.1.l, r5.2.1.stopped⟩ : journal_Journal) r5.2.2).bind fun r7 => if ((r7.1.length : Int) == 1) = true then ((journal_Journal_Snapshot_9.f k (⟨(), r7.2.1.snap, r7.2.1.l, r7.2.1.stopped⟩ : journal_Journal) r7.2.2).bind fun r9 => some ((ofNums r9.1).toList == (⟨#[115]⟩ : ByteArray).toList)) else (some false)) else (some false)) else (some false))
theorem dossierlaw04_awake.meets (k : Nat) (r : Bool) (h : dossierlaw04_awake.f k = some r) : Meets Try.prog 13 [] [] (sc (.bool r)) [] := by
 unfold dossierlaw04_awake.f at h
 refine Meets.of_body (n := 42) Try.func13 rfl rfl (nl rfl) fun x hx => ?_
 replace hx : x.k = 0 := hx
 show AW _ x _ _ ⟨42, fr0 [], []⟩
 refine AW.seq (AW.region ?_)
 refine s_assign (d := (sc (.bool false))) rfl (AWops.nil (AW.seq (AW.region ?_)))
 obtain ⟨r1, er1, h⟩ := bnd h
 refine s_call2 (ρ := []) (br := false) (H2 := [(some (AObj.cells true [(C.mp 1), (C.p true (.v (.int .i64 r1.1.room))), (C.p true (.v (.int .i64 r1.1.used))), (C.p true (.v (.pointer none))), (C.p true (.v (.bool r1.1.dead)))])), (some (AObj.map false (mapE true e_vdisk_file r1.1.files)))]) (d := (D.tup [(D.one (C.ref 0 0)), (sc (.int .i64 r1.2))])) F.ca_14 rfl rfl (ac (.one .sc) an) an (by decide) rfl (vdisk_New.meets _ 100 r1 er1) (.inl rfl) rfl rfl ?_
 refine s_move (d := (D.tup [(D.one (C.ref 0 0)), (sc (.int .i64 r1.2))])) rfl ?_
 refine s_extract (d := (D.one (C.ref 0 0))) rfl rfl ?_
 refine s_extract (d := (sc (.int .i64 r1.2))) rfl rfl ?_
 refine s_assign (d := (D.one (C.ref 0 0))) rfl ?_
 refine s_assign (d := (sc (.int .i64 r1.2))) rfl (AWops.nil (AW.seq (AW.seq (AW.region ?_))))
 refine s_move (d := (sc (.int .i64 r1.2))) rfl ?_
 refine s_binI (v := (.bool (r1.2 != 0))) rfl rfl rfl ?_
 refine s_move (d := (sc (.bool (r1.2 != 0)))) rfl ?_
 rcases itH h with ⟨c2, h⟩ | ⟨c2, h⟩
 ·refine AWops.guard_no rfl (nl rfl) rfl c2 ?_
  refine AWops.guard_no rfl (nl rfl) rfl c2 ?_
  refine s_pick_yes (d := (sc (.bool true))) rfl c2 rfl (AWops.nil ?_)
  refine AW.cond_yes rfl rfl (AW.seq (AW.region ?_))
  refine s_assign (d := (sc (.bool false))) rfl (AWops.nil (AW.ret ?_))
  obtain rfl := Option.some.inj h
  exact ⟨_, rfl, (Weak.gen (kk := 0) [] [] rfl rfl (by decide) (by decide) rfl rfl rfl (le_upd (le_top _) (.t (.one .sc))) an)⟩
 ·refine AWops.guard_yes rfl (nl rfl) rfl c2 ?_
  refine s_move (d := (D.one (C.ref 0 0))) rfl ?_
  refine AWops.guard_yes rfl (nl rfl) rfl c2 ?_
  refine s_ptrNil (b := false) F.u_24 rfl (.inl ⟨⟨_, _, rfl⟩, rfl⟩) (.inl rfl) ?_
  refine s_pick_no (d := (sc (.bool false))) rfl c2 rfl (AWops.nil ?_)
  refine AW.cond_no rfl rfl (AW.skip (AW.seq (AW.region ?_)))
  refine s_move (d := (D.one (C.ref 0 0))) rfl ?_
  refine s_buildSlice (n := 1) (ps := [(0, (sc (.int .u8 115)))]) (cs := rowC e_u8 ([115] : List Int)) F.u_22 F.sz_5 F.z_5 rfl rfl (by decide) (by decide) rfl rfl ?_
  refine t_convConst (xs := ([115] : List Int)) F.u_22 F.u_5 rfl rfl rfl (by decide) rfl ?_
  obtain ⟨r3, er3, h⟩ := bnd h
  refine s_call2 (ρ := [0, 1]) (br := false) (H2 := [(some (AObj.cells true [(C.mp 3), (C.p true (.v (.int .i64 r3.2.2.room))), (C.p true (.v (.int .i64 r3.2.2.used))), (C.p true (.v (.pointer none))), (C.p true (.v (.bool r3.2.2.dead)))])), none, none, (some (AObj.map false (mapE true e_vdisk_file r3.2.2.files))), (some (AObj.cells true [(C.ref 0 0), (C.p false (.sl r3.1.snap.length (r3.1.snap.flatMap e_u8))), (C.own 5 0 r3.1.l.length 1), (C.p true (.v (.bool r3.1.stopped)))])), (some (AObj.cells false (rowC (e_sl e_u8) r3.1.l)))]) (d := (D.tup [(D.one (C.ref 4 0)), (sc (.int .i64 r3.2.1))])) F.ca_12 rfl rfl (ac (.one (.ref rfl)) (ac (.one .imm) an)) (ac (.cells (ac (.mp rfl) (ac .sc (ac .sc (ac .sc (ac .sc an)))))) (ac .map an)) (by decide) rfl (journal_Open_12.meets _ r1.1 ([115] : List Int) r3 er3) (.inl rfl) (by first | rfl | (simp only [mergeH2, orF, Bool.false_or, Bool.or_false, Bool.true_or, Bool.or_true, mergeAt, mergeObj, renO, ren_row, List.drop_succ_cons, List.drop_zero, List.map_cons, List.map_nil, Option.map_some, Option.map_none, List.length_cons, List.length_nil, Nat.zero_add, List.append_assoc, List.cons_append, List.nil_append]; done) | (simp only [mergeH2, orF, Bool.false_or, Bool.or_false, Bool.true_or, Bool.or_true, mergeAt, mergeObj, renO, ren_row, List.drop_succ_cons, List.drop_zero, List.map_cons, List.map_nil, Option.map_some, Option.map_none, List.length_cons, List.length_nil, Nat.zero_add, List.append_assoc, List.cons_append, List.nil_append]; rfl)) rfl ?_
  refine s_move (d := (D.tup [(D.one (C.ref 4 0)), (sc (.int .i64 r3.2.1))])) rfl ?_
  refine s_extract (d := (D.one (C.ref 4 0))) rfl rfl ?_
  refine s_extract (d := (sc (.int .i64 r3.2.1))) rfl rfl ?_
  refine s_assign (d := (D.one (C.ref 4 0))) rfl ?_
  refine s_assign (d := (sc (.int .i64 r3.2.1))) rfl (AWops.nil (AW.seq (AW.region ?_)))
  refine s_move (d := (sc (.int .i64 r3.2.1))) rfl ?_
  refine s_binI (v := (.bool (r3.2.1 == 0))) rfl rfl rfl ?_
  refine s_move (d := (sc (.bool (r3.2.1 == 0)))) rfl ?_
  rcases itH h with ⟨c4, h⟩ | ⟨c4, h⟩
  ·refine AWops.guard_yes rfl (nl rfl) rfl c4 ?_
   refine s_move (d := (D.one (C.ref 4 0))) rfl ?_
   refine AWops.guard_yes rfl (nl rfl) rfl c4 ?_
   refine s_buildSlice (n := 1) (ps := [(0, (sc (.int .u8 97)))]) (cs := rowC e_u8 ([97] : List Int)) F.u_22 F.sz_5 F.z_5 rfl rfl (by decide) (by decide) rfl rfl ?_
   refine AWops.guard_yes rfl (nl rfl) rfl c4 ?_
   refine t_convConst (xs := ([97] : List Int)) F.u_22 F.u_5 rfl rfl rfl (by decide) rfl ?_
   refine AWops.guard_yes rfl (nl rfl) rfl c4 ?_
   obtain ⟨r5, er5, h⟩ := bnd h
   refine s_call2 (ρ := [4, 0, 5, 3]) (br := false) (H2 := [(some (AObj.cells true [(C.mp 8), (C.p true (.v (.int .i64 r5.2.2.room))), (C.p true (.v (.int .i64 r5.2.2.used))), (C.p true (.v (.pointer none))), (C.p true (.v (.bool r5.2.2.dead)))])), none, none, none, (some (AObj.cells true [(C.ref 0 0), (C.p false (.sl r5.2.1.snap.length (r5.2.1.snap.flatMap e_u8))), (C.own 7 0 r5.2.1.l.length 1), (C.p true (.v (.bool r5.2.1.stopped)))])), none, none, (some (AObj.cells false (rowC (e_sl e_u8) r5.2.1.l))), (some (AObj.map false (mapE true e_vdisk_file r5.2.2.files)))]) (d := (sc (.int .i64 r5.1))) F.ca_7 rfl rfl (ac (.one (.ref rfl)) (ac (.one .imm) an)) (ac (.cells (ac (.ref rfl) (ac .imm (ac (.own rfl) (ac .sc an))))) (ac (.cells (ac (.mp rfl) (ac .sc (ac .sc (ac .sc (ac .sc an)))))) (ac (.cells (lend_row _)) (ac .map an)))) (by decide) rfl (journal_Journal_Append_7.meets _ (⟨(), r3.1.snap, r3.1.l, r3.1.stopped⟩ : journal_Journal) ([97] : List Int) r3.2.2 r5 er5) (.inl rfl) (by first | rfl | (simp only [mergeH2, orF, Bool.false_or, Bool.or_false, Bool.true_or, Bool.or_true, mergeAt, mergeObj, renO, ren_row, List.drop_succ_cons, List.drop_zero, List.map_cons, List.map_nil, Option.map_some, Option.map_none, List.length_cons, List.length_nil, Nat.zero_add, List.append_assoc, List.cons_append, List.nil_append]; done) | (simp only [mergeH2, orF, Bool.false_or, Bool.or_false, Bool.true_or, Bool.or_true, mergeAt, mergeObj, renO, ren_row, List.drop_succ_cons, List.drop_zero, List.map_cons, List.map_nil, Option.map_some, Option.map_none, List.length_cons, List.length_nil, Nat.zero_add, List.append_assoc, List.cons_append, List.nil_append]; rfl)) rfl ?_
   refine AWops.guard_yes rfl (nl rfl) rfl c4 ?_
   refine s_binI (v := (.bool (r5.1 == 0))) rfl rfl rfl ?_
   refine s_pick_yes (d := (sc (.bool (r5.1 == 0)))) rfl c4 rfl ?_
   refine s_move (d := (sc (.bool (r5.1 == 0)))) rfl ?_
   rcases itH h with ⟨c6, h⟩ | ⟨c6, h⟩
   ·refine AWops.guard_yes rfl (nl rfl) rfl c6 ?_
    refine s_move (d := (D.one (C.ref 4 0))) rfl ?_
    refine AWops.guard_yes rfl (nl rfl) rfl c6 ?_
    obtain ⟨r7, er7, h⟩ := bnd h
    refine s_call2 (ρ := [4, 0, 7, 8]) (br := false) (H2 := [(some (AObj.cells true [(C.mp 10), (C.p true (.v (.int .i64 r7.2.2.room))), (C.p true (.v (.int .i64 r7.2.2.used))), (C.p true (.v (.pointer none))), (C.p true (.v (.bool r7.2.2.dead)))])), none, none, none, (some (AObj.cells true [(C.ref 0 0), (C.p false (.sl r7.2.1.snap.length (r7.2.1.snap.flatMap e_u8))), (C.own 9 0 r7.2.1.l.length 1), (C.p true (.v (.bool r7.2.1.stopped)))])), none, none, none, none, (some (AObj.cells false (rowC (e_sl e_u8) r7.2.1.l))), (some (AObj.map false (mapE true e_vdisk_file r7.2.2.files))), (some (AObj.cells true (rowC (e_sl e_u8) r7.1)))]) (d := (D.one (C.own 11 0 r7.1.length 1))) F.ca_10 rfl rfl (ac (.one (.ref rfl)) an) (ac (.cells (ac (.ref rfl) (ac .imm (ac (.own rfl) (ac .sc an))))) (ac (.cells (ac (.mp rfl) (ac .sc (ac .sc (ac .sc (ac .sc an)))))) (ac (.cells (lend_row _)) (ac .map an)))) (by decide) rfl (journal_Journal_Records_10.meets _ (⟨(), r5.2.1.snap, r5.2.1.l, r5.2.1.stopped⟩ : journal_Journal) r5.2.2 r7 er7) (.inl rfl) (by first | rfl | (simp only [mergeH2, orF, Bool.false_or, Bool.or_false, Bool.true_or, Bool.or_true, mergeAt, mergeObj, renO, ren_row, List.drop_succ_cons, List.drop_zero, List.map_cons, List.map_nil, Option.map_some, Option.map_none, List.length_cons, List.length_nil, Nat.zero_add, List.append_assoc, List.cons_append, List.nil_append]; done) | (simp only [mergeH2, orF, Bool.false_or, Bool.or_false, Bool.true_or, Bool.or_true, mergeAt, mergeObj, renO, ren_row, List.drop_succ_cons, List.drop_zero, List.map_cons, List.map_nil, Option.map_some, Option.map_none, List.length_cons, List.length_nil, Nat.zero_add, List.append_assoc, List.cons_append, List.nil_append]; rfl)) rfl ?_
    refine AWops.guard_yes rfl (nl rfl) rfl c6 ?_
    refine s_len (n := r7.1.length) F.u_25 rfl (.inr ⟨(fun _ _ h => by cases h), ⟨_, rfl⟩⟩) ?_
    refine AWops.guard_yes rfl (nl rfl) rfl c6 ?_
    refine s_binI (v := (.bool ((r7.1.length : Int) == 1))) rfl rfl rfl ?_
    refine s_pick_yes (d := (sc (.bool ((r7.1.length : Int) == 1)))) rfl c6 rfl ?_
    refine s_move (d := (sc (.bool ((r7.1.length : Int) == 1)))) rfl ?_
    rcases itH h with ⟨c8, h⟩ | ⟨c8, h⟩
    ·refine AWops.guard_yes rfl (nl rfl) rfl c8 ?_
     refine s_move (d := (D.one (C.ref 4 0))) rfl ?_
     refine AWops.guard_yes rfl (nl rfl) rfl c8 ?_
     obtain ⟨r9, er9, h⟩ := bnd h
     refine s_call2 (ρ := [4, 0, 9, 10]) (br := false) (H2 := [(some (AObj.cells true [(C.mp 13), (C.p true (.v (.int .i64 r9.2.2.room))), (C.p true (.v (.int .i64 r9.2.2.used))), (C.p true (.v (.pointer none))), (C.p true (.v (.bool r9.2.2.dead)))])), none, none, none, (some (AObj.cells true [(C.ref 0 0), (C.p false (.sl r9.2.1.snap.length (r9.2.1.snap.flatMap e_u8))), (C.own 12 0 r9.2.1.l.length 1), (C.p true (.v (.bool r9.2.1.stopped)))])), none, none, none, none, none, none, (some (AObj.cells true (rowC (e_sl e_u8) r7.1))), (some (AObj.cells false (rowC (e_sl e_u8) r9.2.1.l))), (some (AObj.map false (mapE true e_vdisk_file r9.2.2.files))), (some (AObj.cells true (rowC e_u8 r9.1)))]) (d := (D.one (C.own 14 0 r9.1.length 1))) F.ca_9 rfl rfl (ac (.one (.ref rfl)) an) (ac (.cells (ac (.ref rfl) (ac .imm (ac (.own rfl) (ac .sc an))))) (ac (.cells (ac (.mp rfl) (ac .sc (ac .sc (ac .sc (ac .sc an)))))) (ac (.cells (lend_row _)) (ac .map an)))) (by decide) rfl (journal_Journal_Snapshot_9.meets _ (⟨(), r7.2.1.snap, r7.2.1.l, r7.2.1.stopped⟩ : journal_Journal) r7.2.2 r9 er9) (.inl rfl) (by first | rfl | (simp only [mergeH2, orF, Bool.false_or, Bool.or_false, Bool.true_or, Bool.or_true, mergeAt, mergeObj, renO, ren_row, List.drop_succ_cons, List.drop_zero, List.map_cons, List.map_nil, Option.map_some, Option.map_none, List.length_cons, List.length_nil, Nat.zero_add, List.append_assoc, List.cons_append, List.nil_append]; done) | (simp only [mergeH2, orF, Bool.false_or, Bool.or_false, Bool.true_or, Bool.or_true, mergeAt, mergeObj, renO, ren_row, List.drop_succ_cons, List.drop_zero, List.map_cons, List.map_nil, Option.map_some, Option.map_none, List.length_cons, List.length_nil, Nat.zero_add, List.append_assoc, List.cons_append, List.nil_append]; rfl)) rfl ?_
     refine AWops.guard_yes rfl (nl rfl) rfl c8 ?_
     refine t_toStr (xs := r9.1) F.u_22 F.u_5 F.u_9 (.own rfl rfl) ?_
     refine AWops.guard_yes rfl (nl rfl) rfl c8 ?_
     refine s_binS (v := (.bool ((ofNums r9.1).toList == (⟨#[115]⟩ : ByteArray).toList))) rfl rfl rfl ?_
     refine s_pick_yes (d := (sc (.bool ((ofNums r9.1).toList == (⟨#[115]⟩ : ByteArray).toList)))) rfl c8 rfl ?_
     refine s_assign (d := (sc (.bool ((ofNums r9.1).toList == (⟨#[115]⟩ : ByteArray).toList)))) rfl (AWops.nil (AW.ret ?_))
     obtain rfl := Option.some.inj h
     exact ⟨_, rfl, (Weak.gen (kk := 0) [] [] rfl rfl (by decide) (by decide) rfl rfl rfl (le_upd (le_top _) (.t (.one .sc))) an)⟩
    ·iterate 4 refine AWops.guard_no rfl (nl rfl) rfl c8 ?_
     refine s_pick_no (d := (sc (.bool false))) rfl c8 rfl ?_
     refine s_assign (d := (sc (.bool false))) rfl (AWops.nil (AW.ret ?_))
     obtain rfl := Option.some.inj h
     exact ⟨_, rfl, (Weak.gen (kk := 0) [] [] rfl rfl (by decide) (by decide) rfl rfl rfl (le_upd (le_top _) (.t (.one .sc))) an)⟩
   ·iterate 4 refine AWops.guard_no rfl (nl rfl) rfl c6 ?_
    refine s_pick_no (d := (sc (.bool false))) rfl c6 rfl ?_
    refine s_move (d := (sc (.bool false))) rfl ?_
    iterate 4 refine AWops.guard_no rfl (nl rfl) rfl rfl ?_
    refine s_pick_no (d := (sc (.bool false))) rfl rfl rfl ?_
    refine s_assign (d := (sc (.bool false))) rfl (AWops.nil (AW.ret ?_))
    obtain rfl := Option.some.inj h
    exact ⟨_, rfl, (Weak.gen (kk := 0) [] [] rfl rfl (by decide) (by decide) rfl rfl rfl (le_upd (le_top _) (.t (.one .sc))) an)⟩
  ·iterate 5 refine AWops.guard_no rfl (nl rfl) rfl c4 ?_
   refine s_pick_no (d := (sc (.bool false))) rfl c4 rfl ?_
   refine s_move (d := (sc (.bool false))) rfl ?_
   iterate 4 refine AWops.guard_no rfl (nl rfl) rfl rfl ?_
   refine s_pick_no (d := (sc (.bool false))) rfl rfl rfl ?_
   refine s_move (d := (sc (.bool false))) rfl ?_
   iterate 4 refine AWops.guard_no rfl (nl rfl) rfl rfl ?_
   refine s_pick_no (d := (sc (.bool false))) rfl rfl rfl ?_
   refine s_assign (d := (sc (.bool false))) rfl (AWops.nil (AW.ret ?_))
   obtain rfl := Option.some.inj h
   exact ⟨_, rfl, (Weak.gen (kk := 0) [] [] rfl rfl (by decide) (by decide) rfl rfl rfl (le_upd (le_top _) (.t (.one .sc))) an)⟩
def dossierlaw04_JournalNobody.f (k : Nat) (a0 : List Int) : Option Bool := (journal_Journal_Append_nil0.f k a0).bind fun r1 => if (r1 != 2) = true then (some false) else ((journal_Journal_Compact_nil0.f k a0).bind fun r3 => (journal_Journal_Snapshot_nil0.f k).bind fun r4 => (journal_Journal_Records_nil0.f k).bind fun r5 => if ((IntKind.i64.wrap ((r4.length : Int) + (r5.length : Int))) != 0) = true then (some false) else ((journal_Journal_Stopped_nil0.f k).bind fun r7 => (journal_Journal_Append.f k (⟨(), ([] : List Int), ([] : List (List Int)), false⟩ : journal_Journal) a0).bind fun r8 => if (r8.1 != 2) = true then (some false) else ((journal_Journal_Compact.f k (⟨(), r8.2.snap, r8.2.l, r8.2.stopped⟩ : journal_Journal) a0).bind fun r10 => if (r10.1 != 2) = true then (some false) else ((journal_Journal_Snapshot.f k (⟨(), r10.2.snap, r10.2.l, r10.2.stopped⟩ : journal_Journal)).bind fun r12 => (journal_Journal_Records.f k (⟨(), r12.2.snap, r12.2.l, r12.2.stopped⟩ : journal_Journal)).bind fun r13 => if ((IntKind.i64.wrap ((r12.1.length : Int) + (r13.1.length : Int))) != 0) = true then (some false) else ((journal_Journal_Stopped.f k (⟨(), r13.2.snap, r13.2.l, r13.2.stopped⟩ : journal_Journal)).bind fun r15 => if r15.1 = true then ((journal_Open_nil0.f k a0).bind fun r17 => if (r17.2 != 2) = true then (some false) else ((journal_Open.f k (⟨([] : List (ByteArray × vdisk_file)), 0, 0, (), false⟩ : vdisk_Disk) a0).bind fun r19 => if (r19.2.1 != 2) = true then (some false) else ((dossierlaw04_awake.f k).bind fun r21 => some r21))) else (some false))))))
theorem dossierlaw04_JournalNobody.meets (k : Nat) (a0 : List Int) (r : Bool) (h : dossierlaw04_JournalNobody.f k a0 = some r) : Meets Try.prog 3 [(D.one (C.p false (.sl a0.length (a0.flatMap e_u8))))] [] (sc (.bool r)) [] := by
 unfold dossierlaw04_JournalNobody.f at h
 refine Meets.of_body (n := 65) Try.func3 rfl rfl (nl rfl) fun x hx => ?_
 replace hx : x.k = 0 := hx
 show AW _ x _ _ ⟨65, fr0 [(D.one (C.p false (.sl a0.length (a0.flatMap e_u8))))], []⟩
 refine AW.seq (AW.region ?_)
 refine s_assign (d := (sc (.bool false))) rfl (AWops.nil (AW.seq (AW.seq (AW.region ?_))))
 refine s_build (ps := []) (cs := [(C.p true (.v (.pointer none))), (C.p true (.v (.slice none 0 0))), (C.p true (.v (.slice none 0 0))), (C.p true (.v (.bool false)))]) F.z_27 rfl F.so_27 rfl rfl ?_
 refine s_box (cs := [(C.p true (.v (.pointer none))), (C.p true (.v (.slice none 0 0))), (C.p true (.v (.slice none 0 0))), (C.p true (.v (.bool false)))]) rfl (List.cons_ne_nil _ _) rfl ?_
 refine s_buildSlice (n := 2) (ps := [(0, (sc (.pointer none))), (1, (D.one (C.ref 0 0)))]) (cs := [(C.p true (.v (.pointer none))), (C.ref 0 0)]) F.u_28 F.sz_23 F.z_23 rfl rfl (by decide) (by decide) rfl rfl ?_
 refine s_len (n := 2) F.u_28 rfl (.inr ⟨(fun _ _ h => by cases h), ⟨_, rfl⟩⟩) ?_
 refine s_move (d := (sc (.int .i64 0))) rfl (AWops.nil (AW.block ?_))
 refine AW.unroll 9 ?_
 refine U.step (AW.seq (AW.region ?_))
 refine s_binI (v := (.bool true)) rfl rfl rfl (AWops.nil (AW.seq ?_))
 refine AW.cond_yes rfl rfl (AW.skip (AW.seq (AW.block (AW.seq (AW.region ?_)))))
 refine s_indexOwn (d := (D.one (C.ref 1 0))) F.u_28 F.sz_23 rfl rfl (by decide) (by decide) rfl ?_
 refine s_load1 (c' := (C.p true (.v (.pointer none)))) F.ag_23 rfl rfl ?_
 refine s_assign (d := (sc (.pointer none))) rfl (AWops.nil (AW.seq (AW.region ?_)))
 refine s_move (d := (sc (.pointer none))) rfl ?_
 refine s_move (d := (D.one (C.p false (.sl a0.length (a0.flatMap e_u8))))) rfl ?_
 obtain ⟨r1, er1, h⟩ := bnd h
 refine s_call2 (ρ := []) (br := false) (H2 := [(some (AObj.cells true [(C.p true (.v (.pointer none))), (C.p true (.v (.slice none 0 0))), (C.p true (.v (.slice none 0 0))), (C.p true (.v (.bool false)))])), (some (AObj.cells true [(C.p true (.v (.pointer none))), (C.ref 0 0)]))]) (d := (sc (.int .i64 r1))) F.ca_7 rfl rfl (ac (.one .sc) (ac (.one .imm) an)) an (by decide) rfl (journal_Journal_Append_nil0.meets _ a0 r1 er1) (.inl rfl) rfl rfl ?_
 refine s_binI (v := (.bool (r1 != 2))) rfl rfl rfl ?_
 refine s_move (d := (sc (.bool (r1 != 2)))) rfl ?_
 rcases itH h with ⟨c2, h⟩ | ⟨c2, h⟩
 ·iterate 4 refine AWops.guard_no rfl (nl rfl) rfl c2 ?_
  refine s_pick_yes (d := (sc (.bool true))) rfl c2 rfl ?_
  refine s_move (d := (sc (.bool true))) rfl ?_
  iterate 8 refine AWops.guard_no rfl (nl rfl) rfl rfl ?_
  refine s_pick_yes (d := (sc (.bool true))) rfl rfl rfl ?_
  refine s_move (d := (sc (.bool true))) rfl ?_
  iterate 3 refine AWops.guard_no rfl (nl rfl) rfl rfl ?_
  refine s_pick_yes (d := (sc (.bool true))) rfl rfl rfl (AWops.nil ?_)
  refine AW.cond_yes rfl rfl (AW.seq (AW.region ?_))
  refine s_assign (d := (sc (.bool false))) rfl (AWops.nil (AW.ret ?_))
  obtain rfl := Option.some.inj h
  exact ⟨_, rfl, (Weak.gen (kk := 0) [] [] rfl rfl (by decide) (by decide) rfl rfl rfl (le_upd (le_top _) (.t (.one .sc))) an)⟩
 ·refine AWops.guard_yes rfl (nl rfl) rfl c2 ?_
  refine s_move (d := (sc (.pointer none))) rfl ?_
  refine AWops.guard_yes rfl (nl rfl) rfl c2 ?_
  refine s_move (d := (D.one (C.p false (.sl a0.length (a0.flatMap e_u8))))) rfl ?_
  refine AWops.guard_yes rfl (nl rfl) rfl c2 ?_
  obtain ⟨r3, er3, h⟩ := bnd h
  have kr3 := journal_Journal_Compact_nil0.const er3
  subst kr3
  refine s_call2 (ρ := []) (br := false) (H2 := [(some (AObj.cells true [(C.p true (.v (.pointer none))), (C.p true (.v (.slice none 0 0))), (C.p true (.v (.slice none 0 0))), (C.p true (.v (.bool false)))])), (some (AObj.cells true [(C.p true (.v (.pointer none))), (C.ref 0 0)]))]) (d := (sc (.int .i64 2))) F.ca_8 rfl rfl (ac (.one .sc) (ac (.one .imm) an)) an (by decide) rfl (journal_Journal_Compact_nil0.meets _ a0 2 er3) (.inl rfl) rfl rfl ?_
  refine AWops.guard_yes rfl (nl rfl) rfl c2 ?_
  refine s_binI (v := (.bool false)) rfl rfl rfl ?_
  refine s_pick_no (d := (sc (.bool false))) rfl c2 rfl ?_
  refine s_move (d := (sc (.bool false))) rfl ?_
  refine AWops.guard_yes rfl (nl rfl) rfl rfl ?_
  refine s_move (d := (sc (.pointer none))) rfl ?_
  refine AWops.guard_yes rfl (nl rfl) rfl rfl ?_
  obtain ⟨r4, er4, h⟩ := bnd h
  refine s_call2 (ρ := []) (br := false) (H2 := [(some (AObj.cells true [(C.p true (.v (.pointer none))), (C.p true (.v (.slice none 0 0))), (C.p true (.v (.slice none 0 0))), (C.p true (.v (.bool false)))])), (some (AObj.cells true [(C.p true (.v (.pointer none))), (C.ref 0 0)])), (some (AObj.cells true (rowC e_u8 r4)))]) (d := (D.one (C.own 2 0 r4.length 1))) F.ca_9 rfl rfl (ac (.one .sc) an) an (by decide) rfl (journal_Journal_Snapshot_nil0.meets _  r4 er4) (.inl rfl) (by first | rfl | (simp only [mergeH2, orF, Bool.false_or, Bool.or_false, Bool.true_or, Bool.or_true, mergeAt, mergeObj, renO, ren_row, List.drop_succ_cons, List.drop_zero, List.map_cons, List.map_nil, Option.map_some, Option.map_none, List.length_cons, List.length_nil, Nat.zero_add, List.append_assoc, List.cons_append, List.nil_append]; done) | (simp only [mergeH2, orF, Bool.false_or, Bool.or_false, Bool.true_or, Bool.or_true, mergeAt, mergeObj, renO, ren_row, List.drop_succ_cons, List.drop_zero, List.map_cons, List.map_nil, Option.map_some, Option.map_none, List.length_cons, List.length_nil, Nat.zero_add, List.append_assoc, List.cons_append, List.nil_append]; rfl)) rfl ?_
  refine AWops.guard_yes rfl (nl rfl) rfl rfl ?_
  refine s_len (n := r4.length) F.u_22 rfl (.inr ⟨(fun _ _ h => by cases h), ⟨_, rfl⟩⟩) ?_
  refine AWops.guard_yes rfl (nl rfl) rfl rfl ?_
  refine s_move (d := (sc (.pointer none))) rfl ?_
  refine AWops.guard_yes rfl (nl rfl) rfl rfl ?_
  obtain ⟨r5, er5, h⟩ := bnd h
  refine s_call2 (ρ := []) (br := false) (H2 := [(some (AObj.cells true [(C.p true (.v (.pointer none))), (C.p true (.v (.slice none 0 0))), (C.p true (.v (.slice none 0 0))), (C.p true (.v (.bool false)))])), (some (AObj.cells true [(C.p true (.v (.pointer none))), (C.ref 0 0)])), (some (AObj.cells true (rowC e_u8 r4))), (some (AObj.cells true (rowC (e_sl e_u8) r5)))]) (d := (D.one (C.own 3 0 r5.length 1))) F.ca_10 rfl rfl (ac (.one .sc) an) an (by decide) rfl (journal_Journal_Records_nil0.meets _  r5 er5) (.inl rfl) (by first | rfl | (simp only [mergeH2, orF, Bool.false_or, Bool.or_false, Bool.true_or, Bool.or_true, mergeAt, mergeObj, renO, ren_row, List.drop_succ_cons, List.drop_zero, List.map_cons, List.map_nil, Option.map_some, Option.map_none, List.length_cons, List.length_nil, Nat.zero_add, List.append_assoc, List.cons_append, List.nil_append]; done) | (simp only [mergeH2, orF, Bool.false_or, Bool.or_false, Bool.true_or, Bool.or_true, mergeAt, mergeObj, renO, ren_row, List.drop_succ_cons, List.drop_zero, List.map_cons, List.map_nil, Option.map_some, Option.map_none, List.length_cons, List.length_nil, Nat.zero_add, List.append_assoc, List.cons_append, List.nil_append]; rfl)) rfl ?_
  refine AWops.guard_yes rfl (nl rfl) rfl rfl ?_
  refine s_len (n := r5.length) F.u_25 rfl (.inr ⟨(fun _ _ h => by cases h), ⟨_, rfl⟩⟩) ?_
  refine AWops.guard_yes rfl (nl rfl) rfl rfl ?_
  refine s_binI (v := (.int .i64 (IntKind.i64.wrap ((r4.length : Int) + (r5.length : Int))))) rfl rfl rfl ?_
  refine AWops.guard_yes rfl (nl rfl) rfl rfl ?_
  refine s_binI (v := (.bool ((IntKind.i64.wrap ((r4.length : Int) + (r5.length : Int))) != 0))) rfl rfl rfl ?_
  refine s_pick_no (d := (sc (.bool ((IntKind.i64.wrap ((r4.length : Int) + (r5.length : Int))) != 0)))) rfl rfl rfl ?_
  refine s_move (d := (sc (.bool ((IntKind.i64.wrap ((r4.length : Int) + (r5.length : Int))) != 0)))) rfl ?_
  rcases itH h with ⟨c6, h⟩ | ⟨c6, h⟩
  ·iterate 3 refine AWops.guard_no rfl (nl rfl) rfl c6 ?_
   refine s_pick_yes (d := (sc (.bool true))) rfl c6 rfl (AWops.nil ?_)
   refine AW.cond_yes rfl rfl (AW.seq (AW.region ?_))
   refine s_assign (d := (sc (.bool false))) rfl (AWops.nil (AW.ret ?_))
   obtain rfl := Option.some.inj h
   exact ⟨_, rfl, (Weak.gen (kk := 0) [] [] rfl rfl (by decide) (by decide) rfl rfl rfl (le_upd (le_top _) (.t (.one .sc))) an)⟩
  ·refine AWops.guard_yes rfl (nl rfl) rfl c6 ?_
   refine s_move (d := (sc (.pointer none))) rfl ?_
   refine AWops.guard_yes rfl (nl rfl) rfl c6 ?_
   obtain ⟨r7, er7, h⟩ := bnd h
   have kr7 := journal_Journal_Stopped_nil0.const er7
   subst kr7
   refine s_call2 (ρ := []) (br := false) (H2 := [(some (AObj.cells true [(C.p true (.v (.pointer none))), (C.p true (.v (.slice none 0 0))), (C.p true (.v (.slice none 0 0))), (C.p true (.v (.bool false)))])), (some (AObj.cells true [(C.p true (.v (.pointer none))), (C.ref 0 0)])), (some (AObj.cells true (rowC e_u8 r4))), (some (AObj.cells true (rowC (e_sl e_u8) r5)))]) (d := (sc (.bool true))) F.ca_11 rfl rfl (ac (.one .sc) an) an (by decide) rfl (journal_Journal_Stopped_nil0.meets _  true er7) (.inl rfl) rfl rfl ?_
   refine AWops.guard_yes rfl (nl rfl) rfl c6 ?_
   refine s_not rfl ?_
   refine s_pick_no (d := (sc (.bool false))) rfl c6 rfl (AWops.nil ?_)
   refine AW.cond_no rfl rfl (AW.skip (AW.region ?_))
   refine s_binI (v := (.int .i64 1)) rfl rfl (by rfl) ?_
   refine s_move (d := (sc (.int .i64 1))) rfl (AWops.nil ?_)
   refine U.step (AW.seq (AW.region ?_))
   refine s_binI (v := (.bool true)) rfl rfl rfl (AWops.nil (AW.seq ?_))
   refine AW.cond_yes rfl rfl (AW.skip (AW.seq (AW.block (AW.seq (AW.region ?_)))))
   refine s_indexOwn (d := (D.one (C.ref 1 1))) F.u_28 F.sz_23 rfl rfl (by decide) (by decide) rfl ?_
   refine s_load1 (c' := (C.ref 0 0)) F.ag_23 rfl rfl ?_
   refine s_assign (d := (D.one (C.ref 0 0))) rfl (AWops.nil (AW.seq (AW.region ?_)))
   refine s_move (d := (D.one (C.ref 0 0))) rfl ?_
   refine s_move (d := (D.one (C.p false (.sl a0.length (a0.flatMap e_u8))))) rfl ?_
   obtain ⟨r8, er8, h⟩ := bnd h
   refine AWops.weak (Weak.nilC (t := 0) (j := 2) (sz := 1) rfl rfl rfl) ?_
   refine s_call2 (ρ := [0, 4]) (br := false) (H2 := [(some (AObj.cells true [(C.p true (.v (.pointer none))), (C.p false (.sl r8.2.snap.length (r8.2.snap.flatMap e_u8))), (C.own 5 0 r8.2.l.length 1), (C.p true (.v (.bool r8.2.stopped)))])), (some (AObj.cells true [(C.p true (.v (.pointer none))), (C.ref 0 0)])), (some (AObj.cells true (rowC e_u8 r4))), (some (AObj.cells true (rowC (e_sl e_u8) r5))), none, (some (AObj.cells true (rowC (e_sl e_u8) r8.2.l)))]) (d := (sc (.int .i64 r8.1))) F.ca_7 rfl rfl (ac (.one (.ref rfl)) (ac (.one .imm) an)) (ac (.cells (ac .sc (ac .nil (ac (.own rfl) (ac .sc an))))) (ac (.cells an) an)) (by decide) rfl (journal_Journal_Append.meets _ (⟨(), ([] : List Int), ([] : List (List Int)), false⟩ : journal_Journal) a0 r8 er8) (.inl rfl) (by first | rfl | (simp only [mergeH2, orF, Bool.false_or, Bool.or_false, Bool.true_or, Bool.or_true, mergeAt, mergeObj, renO, ren_row, List.drop_succ_cons, List.drop_zero, List.map_cons, List.map_nil, Option.map_some, Option.map_none, List.length_cons, List.length_nil, Nat.zero_add, List.append_assoc, List.cons_append, List.nil_append]; done) | (simp only [mergeH2, orF, Bool.false_or, Bool.or_false, Bool.true_or, Bool.or_true, mergeAt, mergeObj, renO, ren_row, List.drop_succ_cons, List.drop_zero, List.map_cons, List.map_nil, Option.map_some, Option.map_none, List.length_cons, List.length_nil, Nat.zero_add, List.append_assoc, List.cons_append, List.nil_append]; rfl)) rfl ?_
   refine s_binI (v := (.bool (r8.1 != 2))) rfl rfl rfl ?_
   refine s_move (d := (sc (.bool (r8.1 != 2)))) rfl ?_
   rcases itH h with ⟨c9, h⟩ | ⟨c9, h⟩
   ·iterate 4 refine AWops.guard_no rfl (nl rfl) rfl c9 ?_
    refine s_pick_yes (d := (sc (.bool true))) rfl c9 rfl ?_
    refine s_move (d := (sc (.bool true))) rfl ?_
    iterate 8 refine AWops.guard_no rfl (nl rfl) rfl rfl ?_
    refine s_pick_yes (d := (sc (.bool true))) rfl rfl rfl ?_
    refine s_move (d := (sc (.bool true))) rfl ?_
    iterate 3 refine AWops.guard_no rfl (nl rfl) rfl rfl ?_
    refine s_pick_yes (d := (sc (.bool true))) rfl rfl rfl (AWops.nil ?_)
    refine AW.cond_yes rfl rfl (AW.seq (AW.region ?_))
    refine s_assign (d := (sc (.bool false))) rfl (AWops.nil (AW.ret ?_))
    obtain rfl := Option.some.inj h
    exact ⟨_, rfl, (Weak.gen (kk := 0) [] [] rfl rfl (by decide) (by decide) rfl rfl rfl (le_upd (le_top _) (.t (.one .sc))) an)⟩
   ·refine AWops.guard_yes rfl (nl rfl) rfl c9 ?_
    refine s_move (d := (D.one (C.ref 0 0))) rfl ?_
    refine AWops.guard_yes rfl (nl rfl) rfl c9 ?_
    refine s_move (d := (D.one (C.p false (.sl a0.length (a0.flatMap e_u8))))) rfl ?_
    refine AWops.guard_yes rfl (nl rfl) rfl c9 ?_
    obtain ⟨r10, er10, h⟩ := bnd h
    refine s_call2 (ρ := [0, 5]) (br := false) (H2 := [(some (AObj.cells true [(C.p true (.v (.pointer none))), (C.p false (.sl r10.2.snap.length (r10.2.snap.flatMap e_u8))), (C.own 6 0 r10.2.l.length 1), (C.p true (.v (.bool r10.2.stopped)))])), (some (AObj.cells true [(C.p true (.v (.pointer none))), (C.ref 0 0)])), (some (AObj.cells true (rowC e_u8 r4))), (some (AObj.cells true (rowC (e_sl e_u8) r5))), none, none, (some (AObj.cells true (rowC (e_sl e_u8) r10.2.l)))]) (d := (sc (.int .i64 r10.1))) F.ca_8 rfl rfl (ac (.one (.ref rfl)) (ac (.one .imm) an)) (ac (.cells (ac .sc (ac .imm (ac (.own rfl) (ac .sc an))))) (ac (.cells (lend_row _)) an)) (by decide) rfl (journal_Journal_Compact.meets _ (⟨(), r8.2.snap, r8.2.l, r8.2.stopped⟩ : journal_Journal) a0 r10 er10) (.inl rfl) (by first | rfl | (simp only [mergeH2, orF, Bool.false_or, Bool.or_false, Bool.true_or, Bool.or_true, mergeAt, mergeObj, renO, ren_row, List.drop_succ_cons, List.drop_zero, List.map_cons, List.map_nil, Option.map_some, Option.map_none, List.length_cons, List.length_nil, Nat.zero_add, List.append_assoc, List.cons_append, List.nil_append]; done) | (simp only [mergeH2, orF, Bool.false_or, Bool.or_false, Bool.true_or, Bool.or_true, mergeAt, mergeObj, renO, ren_row, List.drop_succ_cons, List.drop_zero, List.map_cons, List.map_nil, Option.map_some, Option.map_none, List.length_cons, List.length_nil, Nat.zero_add, List.append_assoc, List.cons_append, List.nil_append]; rfl)) rfl ?_
    refine AWops.guard_yes rfl (nl rfl) rfl c9 ?_
    refine s_binI (v := (.bool (r10.1 != 2))) rfl rfl rfl ?_
    refine s_pick_no (d := (sc (.bool (r10.1 != 2)))) rfl c9 rfl ?_
    refine s_move (d := (sc (.bool (r10.1 != 2)))) rfl ?_
    rcases itH h with ⟨c11, h⟩ | ⟨c11, h⟩
    ·iterate 8 refine AWops.guard_no rfl (nl rfl) rfl c11 ?_
     refine s_pick_yes (d := (sc (.bool true))) rfl c11 rfl ?_
     refine s_move (d := (sc (.bool true))) rfl ?_
     iterate 3 refine AWops.guard_no rfl (nl rfl) rfl rfl ?_
     refine s_pick_yes (d := (sc (.bool true))) rfl rfl rfl (AWops.nil ?_)
     refine AW.cond_yes rfl rfl (AW.seq (AW.region ?_))
     refine s_assign (d := (sc (.bool false))) rfl (AWops.nil (AW.ret ?_))
     obtain rfl := Option.some.inj h
     exact ⟨_, rfl, (Weak.gen (kk := 0) [] [] rfl rfl (by decide) (by decide) rfl rfl rfl (le_upd (le_top _) (.t (.one .sc))) an)⟩
    ·refine AWops.guard_yes rfl (nl rfl) rfl c11 ?_
     refine s_move (d := (D.one (C.ref 0 0))) rfl ?_
     refine AWops.guard_yes rfl (nl rfl) rfl c11 ?_
     obtain ⟨r12, er12, h⟩ := bnd h
     refine s_call2 (ρ := [0, 6]) (br := false) (H2 := [(some (AObj.cells true [(C.p true (.v (.pointer none))), (C.p false (.sl r12.2.snap.length (r12.2.snap.flatMap e_u8))), (C.own 7 0 r12.2.l.length 1), (C.p true (.v (.bool r12.2.stopped)))])), (some (AObj.cells true [(C.p true (.v (.pointer none))), (C.ref 0 0)])), (some (AObj.cells true (rowC e_u8 r4))), (some (AObj.cells true (rowC (e_sl e_u8) r5))), none, none, none, (some (AObj.cells true (rowC (e_sl e_u8) r12.2.l))), (some (AObj.cells true (rowC e_u8 r12.1)))]) (d := (D.one (C.own 8 0 r12.1.length 1))) F.ca_9 rfl rfl (ac (.one (.ref rfl)) an) (ac (.cells (ac .sc (ac .imm (ac (.own rfl) (ac .sc an))))) (ac (.cells (lend_row _)) an)) (by decide) rfl (journal_Journal_Snapshot.meets _ (⟨(), r10.2.snap, r10.2.l, r10.2.stopped⟩ : journal_Journal) r12 er12) (.inl rfl) (by first | rfl | (simp only [mergeH2, orF, Bool.false_or, Bool.or_false, Bool.true_or, Bool.or_true, mergeAt, mergeObj, renO, ren_row, List.drop_succ_cons, List.drop_zero, List.map_cons, List.map_nil, Option.map_some, Option.map_none, List.length_cons, List.length_nil, Nat.zero_add, List.append_assoc, List.cons_append, List.nil_append]; done) | (simp only [mergeH2, orF, Bool.false_or, Bool.or_false, Bool.true_or, Bool.or_true, mergeAt, mergeObj, renO, ren_row, List.drop_succ_cons, List.drop_zero, List.map_cons, List.map_nil, Option.map_some, Option.map_none, List.length_cons, List.length_nil, Nat.zero_add, List.append_assoc, List.cons_append, List.nil_append]; rfl)) rfl ?_
     refine AWops.guard_yes rfl (nl rfl) rfl c11 ?_
     refine s_len (n := r12.1.length) F.u_22 rfl (.inr ⟨(fun _ _ h => by cases h), ⟨_, rfl⟩⟩) ?_
     refine AWops.guard_yes rfl (nl rfl) rfl c11 ?_
     refine s_move (d := (D.one (C.ref 0 0))) rfl ?_
     refine AWops.guard_yes rfl (nl rfl) rfl c11 ?_
     obtain ⟨r13, er13, h⟩ := bnd h
     refine s_call2 (ρ := [0, 7]) (br := false) (H2 := [(some (AObj.cells true [(C.p true (.v (.pointer none))), (C.p false (.sl r13.2.snap.length (r13.2.snap.flatMap e_u8))), (C.own 9 0 r13.2.l.length 1), (C.p true (.v (.bool r13.2.stopped)))])), (some (AObj.cells true [(C.p true (.v (.pointer none))), (C.ref 0 0)])), (some (AObj.cells true (rowC e_u8 r4))), (some (AObj.cells true (rowC (e_sl e_u8) r5))), none, none, none, none, (some (AObj.cells true (rowC e_u8 r12.1))), (some (AObj.cells true (rowC (e_sl e_u8) r13.2.l))), (some (AObj.cells true (rowC (e_sl e_u8) r13.1)))]) (d := (D.one (C.own 10 0 r13.1.length 1))) F.ca_10 rfl rfl (ac (.one (.ref rfl)) an) (ac (.cells (ac .sc (ac .imm (ac (.own rfl) (ac .sc an))))) (ac (.cells (lend_row _)) an)) (by decide) rfl (journal_Journal_Records.meets _ (⟨(), r12.2.snap, r12.2.l, r12.2.stopped⟩ : journal_Journal) r13 er13) (.inl rfl) (by first | rfl | (simp only [mergeH2, orF, Bool.false_or, Bool.or_false, Bool.true_or, Bool.or_true, mergeAt, mergeObj, renO, ren_row, List.drop_succ_cons, List.drop_zero, List.map_cons, List.map_nil, Option.map_some, Option.map_none, List.length_cons, List.length_nil, Nat.zero_add, List.append_assoc, List.cons_append, List.nil_append]; done) | (simp only [mergeH2, orF, Bool.false_or, Bool.or_false, Bool.true_or, Bool.or_true, mergeAt, mergeObj, renO, ren_row, List.drop_succ_cons, List.drop_zero, List.map_cons, List.map_nil, Option.map_some, Option.map_none, List.length_cons, List.length_nil, Nat.zero_add, List.append_assoc, List.cons_append, List.nil_append]; rfl)) rfl ?_
     refine AWops.guard_yes rfl (nl rfl) rfl c11 ?_
     refine s_len (n := r13.1.length) F.u_25 rfl (.inr ⟨(fun _ _ h => by cases h), ⟨_, rfl⟩⟩) ?_
     refine AWops.guard_yes rfl (nl rfl) rfl c11 ?_
     refine s_binI (v := (.int .i64 (IntKind.i64.wrap ((r12.1.length : Int) + (r13.1.length : Int))))) rfl rfl rfl ?_
     refine AWops.guard_yes rfl (nl rfl) rfl c11 ?_
     refine s_binI (v := (.bool ((IntKind.i64.wrap ((r12.1.length : Int) + (r13.1.length : Int))) != 0))) rfl rfl rfl ?_
     refine s_pick_no (d := (sc (.bool ((IntKind.i64.wrap ((r12.1.length : Int) + (r13.1.length : Int))) != 0)))) rfl c11 rfl ?_
     refine s_move (d := (sc (.bool ((IntKind.i64.wrap ((r12.1.length : Int) + (r13.1.length : Int))) != 0)))) rfl ?_
     rcases itH h with ⟨c14, h⟩ | ⟨c14, h⟩
     ·iterate 3 refine AWops.guard_no rfl (nl rfl) rfl c14 ?_
      refine s_pick_yes (d := (sc (.bool true))) rfl c14 rfl (AWops.nil ?_)
      refine AW.cond_yes rfl rfl (AW.seq (AW.region ?_))
      refine s_assign (d := (sc (.bool false))) rfl (AWops.nil (AW.ret ?_))
      obtain rfl := Option.some.inj h
      exact ⟨_, rfl, (Weak.gen (kk := 0) [] [] rfl rfl (by decide) (by decide) rfl rfl rfl (le_upd (le_top _) (.t (.one .sc))) an)⟩
     ·refine AWops.guard_yes rfl (nl rfl) rfl c14 ?_
      refine s_move (d := (D.one (C.ref 0 0))) rfl ?_
      refine AWops.guard_yes rfl (nl rfl) rfl c14 ?_
      obtain ⟨r15, er15, h⟩ := bnd h
      refine s_call2 (ρ := [0, 9]) (br := false) (H2 := [(some (AObj.cells true [(C.p true (.v (.pointer none))), (C.p false (.sl r15.2.snap.length (r15.2.snap.flatMap e_u8))), (C.own 11 0 r15.2.l.length 1), (C.p true (.v (.bool r15.2.stopped)))])), (some (AObj.cells true [(C.p true (.v (.pointer none))), (C.ref 0 0)])), (some (AObj.cells true (rowC e_u8 r4))), (some (AObj.cells true (rowC (e_sl e_u8) r5))), none, none, none, none, (some (AObj.cells true (rowC e_u8 r12.1))), none, (some (AObj.cells true (rowC (e_sl e_u8) r13.1))), (some (AObj.cells true (rowC (e_sl e_u8) r15.2.l)))]) (d := (sc (.bool r15.1))) F.ca_11 rfl rfl (ac (.one (.ref rfl)) an) (ac (.cells (ac .sc (ac .imm (ac (.own rfl) (ac .sc an))))) (ac (.cells (lend_row _)) an)) (by decide) rfl (journal_Journal_Stopped.meets _ (⟨(), r13.2.snap, r13.2.l, r13.2.stopped⟩ : journal_Journal) r15 er15) (.inl rfl) (by first | rfl | (simp only [mergeH2, orF, Bool.false_or, Bool.or_false, Bool.true_or, Bool.or_true, mergeAt, mergeObj, renO, ren_row, List.drop_succ_cons, List.drop_zero, List.map_cons, List.map_nil, Option.map_some, Option.map_none, List.length_cons, List.length_nil, Nat.zero_add, List.append_assoc, List.cons_append, List.nil_append]; done) | (simp only [mergeH2, orF, Bool.false_or, Bool.or_false, Bool.true_or, Bool.or_true, mergeAt, mergeObj, renO, ren_row, List.drop_succ_cons, List.drop_zero, List.map_cons, List.map_nil, Option.map_some, Option.map_none, List.length_cons, List.length_nil, Nat.zero_add, List.append_assoc, List.cons_append, List.nil_append]; rfl)) rfl ?_
      refine AWops.guard_yes rfl (nl rfl) rfl c14 ?_
      refine s_not rfl ?_
      refine s_pick_no (d := (sc (.bool (!r15.1)))) rfl c14 rfl (AWops.nil ?_)
      rcases itH h with ⟨c16, h⟩ | ⟨c16, h⟩
      ·refine AW.cond_no rfl (by rw [c16] <;> rfl) (AW.skip (AW.region ?_))
       refine s_binI (v := (.int .i64 2)) rfl rfl (by rfl) ?_
       refine s_move (d := (sc (.int .i64 2))) rfl (AWops.nil ?_)
       refine U.step (AW.seq (AW.region ?_))
       refine s_binI (v := (.bool false)) rfl rfl rfl (AWops.nil (AW.seq ?_))
       refine AW.cond_no rfl rfl (AW.exit (AW.seq (AW.seq (AW.region ?_))))
       refine s_build (ps := []) (cs := [(C.p true (.v (.map none))), (C.p true (.v (.int .i64 0))), (C.p true (.v (.int .i64 0))), (C.p true (.v (.pointer none))), (C.p true (.v (.bool false)))]) F.z_37 rfl F.so_37 rfl rfl ?_
       refine s_box (cs := [(C.p true (.v (.map none))), (C.p true (.v (.int .i64 0))), (C.p true (.v (.int .i64 0))), (C.p true (.v (.pointer none))), (C.p true (.v (.bool false)))]) rfl (List.cons_ne_nil _ _) rfl ?_
       refine s_buildSlice (n := 2) (ps := [(0, (sc (.pointer none))), (1, (D.one (C.ref 12 0)))]) (cs := [(C.p true (.v (.pointer none))), (C.ref 12 0)]) F.u_38 F.sz_24 F.z_24 rfl rfl (by decide) (by decide) rfl rfl ?_
       refine s_len (n := 2) F.u_38 rfl (.inr ⟨(fun _ _ h => by cases h), ⟨_, rfl⟩⟩) ?_
       refine s_move (d := (sc (.int .i64 0))) rfl (AWops.nil (AW.block ?_))
       refine AW.unroll 9 ?_
       refine U.step (AW.seq (AW.region ?_))
       refine s_binI (v := (.bool true)) rfl rfl rfl (AWops.nil (AW.seq ?_))
       refine AW.cond_yes rfl rfl (AW.skip (AW.seq (AW.block (AW.seq (AW.region ?_)))))
       refine s_indexOwn (d := (D.one (C.ref 13 0))) F.u_38 F.sz_24 rfl rfl (by decide) (by decide) rfl ?_
       refine s_load1 (c' := (C.p true (.v (.pointer none)))) F.ag_24 rfl rfl ?_
       refine s_assign (d := (sc (.pointer none))) rfl (AWops.nil (AW.seq (AW.region ?_)))
       refine s_move (d := (sc (.pointer none))) rfl ?_
       refine s_move (d := (D.one (C.p false (.sl a0.length (a0.flatMap e_u8))))) rfl ?_
       obtain ⟨r17, er17, h⟩ := bnd h
       refine s_call2 (ρ := []) (br := false) (H2 := [(some (AObj.cells true [(C.p true (.v (.pointer none))), (C.p false (.sl r15.2.snap.length (r15.2.snap.flatMap e_u8))), (C.own 11 0 r15.2.l.length 1), (C.p true (.v (.bool r15.2.stopped)))])), (some (AObj.cells true [(C.p true (.v (.pointer none))), (C.ref 0 0)])), (some (AObj.cells true (rowC e_u8 r4))), (some (AObj.cells true (rowC (e_sl e_u8) r5))), none, none, none, none, (some (AObj.cells true (rowC e_u8 r12.1))), none, (some (AObj.cells true (rowC (e_sl e_u8) r13.1))), (some (AObj.cells true (rowC (e_sl e_u8) r15.2.l))), (some (AObj.cells true [(C.p true (.v (.map none))), (C.p true (.v (.int .i64 0))), (C.p true (.v (.int .i64 0))), (C.p true (.v (.pointer none))), (C.p true (.v (.bool false)))])), (some (AObj.cells true [(C.p true (.v (.pointer none))), (C.ref 12 0)]))]) (d := (D.tup [(sc (.pointer none)), (sc (.int .i64 r17.2))])) F.ca_12 rfl rfl (ac (.one .sc) (ac (.one .imm) an)) an (by decide) rfl (journal_Open_nil0.meets _ a0 r17 er17) (.inl rfl) rfl rfl ?_
       refine s_move (d := (D.tup [(sc (.pointer none)), (sc (.int .i64 r17.2))])) rfl ?_
       refine s_extract (d := (sc (.pointer none))) rfl rfl ?_
       refine s_extract (d := (sc (.int .i64 r17.2))) rfl rfl ?_
       refine s_assign (d := (sc (.pointer none))) rfl ?_
       refine s_assign (d := (sc (.int .i64 r17.2))) rfl (AWops.nil (AW.seq (AW.region ?_)))
       refine s_move (d := (sc (.pointer none))) rfl ?_
       refine s_ptrNil (b := true) F.u_23 rfl (.inr ⟨⟨_, rfl⟩, rfl⟩) (.inr rfl) ?_
       refine s_move (d := (sc (.bool false))) rfl ?_
       refine AWops.guard_yes rfl (nl rfl) rfl rfl ?_
       refine s_move (d := (sc (.int .i64 r17.2))) rfl ?_
       refine AWops.guard_yes rfl (nl rfl) rfl rfl ?_
       refine s_binI (v := (.bool (r17.2 != 2))) rfl rfl rfl ?_
       refine s_pick_no (d := (sc (.bool (r17.2 != 2)))) rfl rfl rfl (AWops.nil ?_)
       rcases itH h with ⟨c18, h⟩ | ⟨c18, h⟩
       ·refine AW.cond_yes rfl c18 (AW.seq (AW.region ?_))
        refine s_assign (d := (sc (.bool false))) rfl (AWops.nil (AW.ret ?_))
        obtain rfl := Option.some.inj h
        exact ⟨_, rfl, (Weak.gen (kk := 0) [] [] rfl rfl (by decide) (by decide) rfl rfl rfl (le_upd (le_top _) (.t (.one .sc))) an)⟩
       ·refine AW.cond_no rfl c18 (AW.skip (AW.region ?_))
        refine s_binI (v := (.int .i64 1)) rfl rfl (by rfl) ?_
        refine s_move (d := (sc (.int .i64 1))) rfl (AWops.nil ?_)
        refine U.step (AW.seq (AW.region ?_))
        refine s_binI (v := (.bool true)) rfl rfl rfl (AWops.nil (AW.seq ?_))
        refine AW.cond_yes rfl rfl (AW.skip (AW.seq (AW.block (AW.seq (AW.region ?_)))))
        refine s_indexOwn (d := (D.one (C.ref 13 1))) F.u_38 F.sz_24 rfl rfl (by decide) (by decide) rfl ?_
        refine s_load1 (c' := (C.ref 12 0)) F.ag_24 rfl rfl ?_
        refine s_assign (d := (D.one (C.ref 12 0))) rfl (AWops.nil (AW.seq (AW.region ?_)))
        refine s_move (d := (D.one (C.ref 12 0))) rfl ?_
        refine s_move (d := (D.one (C.p false (.sl a0.length (a0.flatMap e_u8))))) rfl ?_
        obtain ⟨r19, er19, h⟩ := bnd h
        refine s_call2 (ρ := [12]) (br := false) (H2 := [(some (AObj.cells true [(C.p true (.v (.pointer none))), (C.p false (.sl r15.2.snap.length (r15.2.snap.flatMap e_u8))), (C.own 11 0 r15.2.l.length 1), (C.p true (.v (.bool r15.2.stopped)))])), (some (AObj.cells true [(C.p true (.v (.pointer none))), (C.ref 0 0)])), (some (AObj.cells true (rowC e_u8 r4))), (some (AObj.cells true (rowC (e_sl e_u8) r5))), none, none, none, none, (some (AObj.cells true (rowC e_u8 r12.1))), none, (some (AObj.cells true (rowC (e_sl e_u8) r13.1))), (some (AObj.cells true (rowC (e_sl e_u8) r15.2.l))), (some (AObj.cells true [(C.p true (.v (.map none))), (C.p true (.v (.int .i64 r19.2.2.room))), (C.p true (.v (.int .i64 r19.2.2.used))), (C.p true (.v (.pointer none))), (C.p true (.v (.bool r19.2.2.dead)))])), (some (AObj.cells true [(C.p true (.v (.pointer none))), (C.ref 12 0)]))]) (d := (D.tup [(sc (.pointer none)), (sc (.int .i64 r19.2.1))])) F.ca_12 rfl rfl (ac (.one (.ref rfl)) (ac (.one .imm) an)) (ac (.cells (ac .sc (ac .sc (ac .sc (ac .sc (ac .sc an)))))) an) (by decide) rfl (journal_Open.meets _ (⟨([] : List (ByteArray × vdisk_file)), 0, 0, (), false⟩ : vdisk_Disk) a0 r19 er19) (.inl rfl) rfl rfl ?_
        refine s_move (d := (D.tup [(sc (.pointer none)), (sc (.int .i64 r19.2.1))])) rfl ?_
        refine s_extract (d := (sc (.pointer none))) rfl rfl ?_
        refine s_extract (d := (sc (.int .i64 r19.2.1))) rfl rfl ?_
        refine s_assign (d := (sc (.pointer none))) rfl ?_
        refine s_assign (d := (sc (.int .i64 r19.2.1))) rfl (AWops.nil (AW.seq (AW.region ?_)))
        refine s_move (d := (sc (.pointer none))) rfl ?_
        refine s_ptrNil (b := true) F.u_23 rfl (.inr ⟨⟨_, rfl⟩, rfl⟩) (.inr rfl) ?_
        refine s_move (d := (sc (.bool false))) rfl ?_
        refine AWops.guard_yes rfl (nl rfl) rfl rfl ?_
        refine s_move (d := (sc (.int .i64 r19.2.1))) rfl ?_
        refine AWops.guard_yes rfl (nl rfl) rfl rfl ?_
        refine s_binI (v := (.bool (r19.2.1 != 2))) rfl rfl rfl ?_
        refine s_pick_no (d := (sc (.bool (r19.2.1 != 2)))) rfl rfl rfl (AWops.nil ?_)
        rcases itH h with ⟨c20, h⟩ | ⟨c20, h⟩
        ·refine AW.cond_yes rfl c20 (AW.seq (AW.region ?_))
         refine s_assign (d := (sc (.bool false))) rfl (AWops.nil (AW.ret ?_))
         obtain rfl := Option.some.inj h
         exact ⟨_, rfl, (Weak.gen (kk := 0) [] [] rfl rfl (by decide) (by decide) rfl rfl rfl (le_upd (le_top _) (.t (.one .sc))) an)⟩
        ·refine AW.cond_no rfl c20 (AW.skip (AW.region ?_))
         refine s_binI (v := (.int .i64 2)) rfl rfl (by rfl) ?_
         refine s_move (d := (sc (.int .i64 2))) rfl (AWops.nil ?_)
         refine U.step (AW.seq (AW.region ?_))
         refine s_binI (v := (.bool false)) rfl rfl rfl (AWops.nil (AW.seq ?_))
         refine AW.cond_no rfl rfl (AW.exit (AW.seq (AW.region ?_)))
         obtain ⟨r21, er21, h⟩ := bnd h
         refine s_call2 (ρ := []) (br := false) (H2 := [(some (AObj.cells true [(C.p true (.v (.pointer none))), (C.p false (.sl r15.2.snap.length (r15.2.snap.flatMap e_u8))), (C.own 11 0 r15.2.l.length 1), (C.p true (.v (.bool r15.2.stopped)))])), (some (AObj.cells true [(C.p true (.v (.pointer none))), (C.ref 0 0)])), (some (AObj.cells true (rowC e_u8 r4))), (some (AObj.cells true (rowC (e_sl e_u8) r5))), none, none, none, none, (some (AObj.cells true (rowC e_u8 r12.1))), none, (some (AObj.cells true (rowC (e_sl e_u8) r13.1))), (some (AObj.cells true (rowC (e_sl e_u8) r15.2.l))), (some (AObj.cells true [(C.p true (.v (.map none))), (C.p true (.v (.int .i64 r19.2.2.room))), (C.p true (.v (.int .i64 r19.2.2.used))), (C.p true (.v (.pointer none))), (C.p true (.v (.bool r19.2.2.dead)))])), (some (AObj.cells true [(C.p true (.v (.pointer none))), (C.ref 12 0)]))]) (d := (sc (.bool r21))) F.ca_13 rfl rfl an an (by decide) rfl (dossierlaw04_awake.meets _  r21 er21) (.inl rfl) rfl rfl ?_
         refine s_assign (d := (sc (.bool r21))) rfl (AWops.nil (AW.ret ?_))
         obtain rfl := Option.some.inj h
         exact ⟨_, rfl, (Weak.gen (kk := 0) [] [] rfl rfl (by decide) (by decide) rfl rfl rfl (le_upd (le_top _) (.t (.one .sc))) an)⟩
      ·refine AW.cond_yes rfl (by rw [c16] <;> rfl) (AW.seq (AW.region ?_))
       refine s_assign (d := (sc (.bool false))) rfl (AWops.nil (AW.ret ?_))
       obtain rfl := Option.some.inj h
       exact ⟨_, rfl, (Weak.gen (kk := 0) [] [] rfl rfl (by decide) (by decide) rfl rfl rfl (le_upd (le_top _) (.t (.one .sc))) an)⟩
end Go.Abs.GenJ
