import Derived.Test.YtgeieafnnlmfdaaGenKa
set_option linter.unusedVariables false
set_option linter.unusedSimpArgs false
set_option maxRecDepth 100000
set_option maxHeartbeats 4000000
namespace Go.Abs.GenK
open Go.Abs Go.Proofs
mutual
def journal_Journal_Append_fresh_7.j0 : Nat → Int → Int → Bool → (List (ByteArray × vdisk_file)) → Int → (List Int) → (Int × journal_Journal) → Option (Int × journal_Journal × vdisk_Disk)
 | 0, _, _, _, _, _, _, _ => none
 | k + 1, x9, x10, x11, x12, x13, a1, r2 => if (x13 != 0) = true then (some (x13, (⟨(), r2.2.snap, r2.2.l, true⟩ : journal_Journal), (⟨x12, x9, x10, (), x11⟩ : vdisk_Disk))) else ((slices_Clone_byte_byte.f k a1).bind fun r15 => if (decide (r2.2.l.length + ([r15] : List (List Int)).length ≤ 5864062014805)) = true then (some (0, (⟨(), r2.2.snap, r2.2.l ++ ([r15] : List (List Int)), r2.2.stopped⟩ : journal_Journal), (⟨x12, x9, x10, (), x11⟩ : vdisk_Disk))) else none)
def journal_Journal_Append_fresh_7.j1 : Nat → Int → Int → Bool → (List (ByteArray × vdisk_file)) → Int → (List Int) → (Int × journal_Journal) → Option (Int × journal_Journal × vdisk_Disk)
 | 0, _, _, _, _, _, _, _ => none
 | k + 1, x24, x25, x26, x27, x28, a1, r17 => if (x28 != 0) = true then (some (x28, (⟨(), r17.2.snap, r17.2.l, true⟩ : journal_Journal), (⟨x27, x24, x25, (), x26⟩ : vdisk_Disk))) else ((slices_Clone_byte_byte.f k a1).bind fun r30 => if (decide (r17.2.l.length + ([r30] : List (List Int)).length ≤ 5864062014805)) = true then (some (0, (⟨(), r17.2.snap, r17.2.l ++ ([r30] : List (List Int)), r17.2.stopped⟩ : journal_Journal), (⟨x27, x24, x25, (), x26⟩ : vdisk_Disk))) else none)
end
def journal_Journal_Append_fresh_7.f (k : Nat) (p0 : journal_Journal) (a1 : List Int) (p1 : vdisk_Disk) : Option (Int × journal_Journal × vdisk_Disk) := if (decide ((a1.length : Int) > 0)) = true then ((journal_Journal_may_fresh.f k (⟨(), p0.snap, p0.l, p0.stopped⟩ : journal_Journal) (decide ((a1.length : Int) ≤ 4194304)) p1).bind fun r2 => if (r2.1 != 0) = true then (some (r2.1, (⟨(), r2.2.snap, r2.2.l, r2.2.stopped⟩ : journal_Journal), p1)) else ((journal_frame.f k a1).bind fun r4 => (vdisk_Disk_Append.f k p1 (⟨#[106, 111, 117, 114, 110, 97, 108]⟩ : ByteArray) r4).bind fun r5 => if (r5.1 == 71) = true then (some (r5.1, (⟨(), r2.2.snap, r2.2.l, r2.2.stopped⟩ : journal_Journal), r5.2)) else (if (r5.1 == 0) = true then ((vdisk_Disk_Sync.f k r5.2 (⟨#[106, 111, 117, 114, 110, 97, 108]⟩ : ByteArray)).bind fun r8 => journal_Journal_Append_fresh_7.j0 k r8.2.room r8.2.used r8.2.dead r8.2.files r8.1 a1 r2) else (journal_Journal_Append_fresh_7.j0 k r5.2.room r5.2.used r5.2.dead r5.2.files r5.1 a1 r2)))) else ((journal_Journal_may_fresh.f k (⟨(), p0.snap, p0.l, p0.stopped⟩ : journal_Journal) false p1).bind fun r17 => if (r17.1 != 0) = true then (some (r17.1, (⟨(), r17.2.snap, r17.2.l, r17.2.stopped⟩ : journal_Journal), p1)) else ((journal_frame.f k a1).bind fun r19 => (vdisk_Disk_Append.f k p1 (⟨#[106, 111, 117, 114, 110, 97, 108]⟩ : ByteArray) r19).bind fun r20 => if (r20.1 == 71) = true then (some (r20.1, (⟨(), r17.2.snap, r17.2.l, r17.2.stopped⟩ : journal_Journal), r20.2)) else (if (r20.1 == 0) = true then ((vdisk_Disk_Sync.f k r20.2 (⟨#[106, 111, 117, 114, 110, 97, 108]⟩ : ByteArray)).bind fun r23 => journal_Journal_Append_fresh_7.j1 k r23.2.room r23.2.used r23.2.dead r23.2.files r23.1 a1 r17) else (journal_Journal_Append_fresh_7.j1 k r20.2.room r20.2.used r20.2.dead r20.2.files r20.1 a1 r17))))
theorem journal_Journal_Append_fresh_7.meets (k : Nat) (p0 : journal_Journal) (a1 : List Int) (p1 : vdisk_Disk) (r : Int × journal_Journal × vdisk_Disk) (h : journal_Journal_Append_fresh_7.f k p0 a1 p1 = some r) : Meets Try.prog 7 [(rf 0 0), (ds_ e_u8 a1)] [(o_journal_Journal_02 false (C.ref 1 0) (C.own 3 0 p0.l.length 1) p0), (o_vdisk_Disk_03 false (C.mp 2) np p1), (om_ e_vdisk_file p1.files), (some (AObj.cells false (rowC (e_sl e_u8) p0.l)))] (si r.1) [(o_journal_Journal_02 false (C.ref 1 0) (C.own 4 0 r.2.1.l.length 1) r.2.1), (o_vdisk_Disk_03 false (C.mp 2) np r.2.2), (om_ e_vdisk_file r.2.2.files), none, (some (AObj.cells false (rowC (e_sl e_u8) r.2.1.l)))] := by
 unfold journal_Journal_Append_fresh_7.f at h
 refine Meets.of_body (n := 54) Try.func7 rfl rfl (nl rfl) fun x hx => ?_
 replace hx : x.k = 4 := hx
 show AW _ x _ _ ⟨54, fr0 [(rf 0 0), (ds_ e_u8 a1)], [(o_journal_Journal_02 false (C.ref 1 0) (C.own 3 0 p0.l.length 1) p0), (o_vdisk_Disk_03 false (C.mp 2) np p1), (om_ e_vdisk_file p1.files), (some (AObj.cells false (rowC (e_sl e_u8) p0.l)))]⟩
 refine AW.weak (st' := ⟨54, (upd 54 (upd 54 topF 0 (rf 0 0)) 1 (ds_ e_u8 a1)), [(o_journal_Journal_02 false (C.ref 1 0) (C.own 4 0 p0.l.length 1) p0), (o_vdisk_Disk_03 false (C.mp 2) np p1), (om_ e_vdisk_file p1.files), none, (some (AObj.cells false (rowC (e_sl e_u8) p0.l)))]⟩) (Weak.genL (kk := 4) [0, 1, 2, 3, 3] [] hx rfl (by decide) rfl rfl rfl rfl (le_upd (le_upd (le_top _) (o1 (.ref rfl))) (o1 .same)) (ac (.cells id (ac (.ref rfl) (ac .same (ac (.own rfl) (ac .sc an))))) (ac (qs rfl) (ac .map (ac (.none _) (ac (.cells id (all2_row _)) an)))))) (AW.seq (AW.region ?_))
 refine s_assign (d := (si 0)) rfl (AWops.nil (AW.seq (AW.seq (AW.region ?_))))
 refine s_move (d := (rf 0 0)) rfl (s_move (d := (ds_ e_u8 a1)) rfl (s_len (n := a1.length) F.u_22 rfl (.inr ⟨(fun _ _ h => by cases h), ⟨_, rfl⟩⟩) (s_binI (v := (.bool (decide ((a1.length : Int) > 0)))) rfl rfl rfl (s_move (d := (sb (decide ((a1.length : Int) > 0)))) rfl ?_))))
 rcases itH h with ⟨c1, h⟩ | ⟨c1, h⟩
 ·refine AWops.guard_yes rfl (nl rfl) rfl c1 ?_
  refine s_move (d := (ds_ e_u8 a1)) rfl ?_
  refine AWops.guard_yes rfl (nl rfl) rfl c1 ?_
  refine s_len (n := a1.length) F.u_22 rfl (.inr ⟨(fun _ _ h => by cases h), ⟨_, rfl⟩⟩) ?_
  refine AWops.guard_yes rfl (nl rfl) rfl c1 ?_
  refine s_binI (v := (.bool (decide ((a1.length : Int) ≤ 4194304)))) rfl rfl rfl (s_pick_yes (d := (sb (decide ((a1.length : Int) ≤ 4194304)))) rfl c1 rfl ?_)
  obtain ⟨r2, er2, h⟩ := bnd h
  refine cc [0, 1, 4, 2] [(o_journal_Journal_02 false (C.ref 1 0) (C.own 4 0 r2.2.l.length 1) r2.2), (o_vdisk_Disk_03 false (C.mp 2) np p1), (om_ e_vdisk_file p1.files), none, (some (AObj.cells false (rowC (e_sl e_u8) r2.2.l)))] (si r2.1) F.ca_24 rfl rfl (ac (.one (.ref rfl)) (ac (.one .sc) an)) (ac (.cells (ac (.ref rfl) (ac .imm (ac (.own rfl) (ac .sc an))))) (ac (.cells (ac (.mp rfl) (ac .sc (ac .sc (ac .sc (ac .sc an)))))) (ac (.cells (lend_row _)) (ac .map an)))) (journal_Journal_may_fresh.meets _ (⟨(), p0.snap, p0.l, p0.stopped⟩ : journal_Journal) (decide ((a1.length : Int) ≤ 4194304)) p1 r2 er2) (s_assign (d := (si r2.1)) rfl (AWops.nil (AW.seq (AW.region (s_move (d := (si r2.1)) rfl (s_binI (v := (.bool (r2.1 != 0))) rfl rfl rfl (AWops.nil ?_)))))))
  rcases itH h with ⟨c3, h⟩ | ⟨c3, h⟩
  ·refine AW.cond_yes rfl c3 (AW.seq (AW.region ?_))
   refine s_move (d := (si r2.1)) rfl (s_assign (d := (si r2.1)) rfl (AWops.nil (AW.ret ?_)))
   obtain rfl := Option.some.inj h
   exact ⟨_, rfl, (wg 4 [0, 1, 2, 3, 4] [] rfl (le_upd (le_top _) (o1 .sc)) (ac (.cells id (ac (.ref rfl) (ac .same (ac (.own rfl) (ac .sc an))))) (ac (qs rfl) (ac .map (ac (.none _) (ac (.cells id (all2_row _)) an))))))⟩
  ·refine AW.cond_no rfl c3 (AW.skip (AW.seq ?_))
   refine AW.weak (st' := ⟨54, (upd 54 (upd 54 topF 0 (rf 0 0)) 1 (ds_ e_u8 a1)), [(o_journal_Journal_02 false (C.ref 1 0) (C.own 4 0 r2.2.l.length 1) r2.2), (o_vdisk_Disk_03 false (C.mp 2) np p1), (om_ e_vdisk_file p1.files), none, (some (AObj.cells false (rowC (e_sl e_u8) r2.2.l)))]⟩) (wg 4 [0, 1, 2, 3, 4] [] hx (le_upd (le_upd (le_top _) (o1 (.ref rfl))) (o1 .same)) (ac (.cells id (ac (.ref rfl) (ac .same (ac (.own rfl) (ac .sc an))))) (ac (qs rfl) (ac .map (ac (.none _) (ac (.cells id (all2_row _)) an)))))) ?_
   obtain ⟨r4, er4, h⟩ := bnd h
   obtain ⟨r5, er5, h⟩ := bnd h
   refine AW.draw (n := 54) (L := 7) [(ft 0 20 (rf 0 0) [(0, (rf 0 0))]), (ft 1 21 (rf 0 0) [(20, (rf 0 0))]), (ft 2 22 (rf 0 0) [(21, (rf 0 0))]), (3, ⟨some 23, (rf 1 0), [(22, (rf 0 0))], [(0, (o_journal_Journal_02 false (C.ref 1 0) (C.own 4 0 r2.2.l.length 1) r2.2))], [], none⟩), (ft 4 24 (ds_ e_u8 a1) [(1, (ds_ e_u8 a1))]), (5, ⟨some 25, (D.one (C.own 5 0 r4.length 1)), [(24, (ds_ e_u8 a1))], [], [(5, (ow_ e_u8 r4))], some 5⟩), (6, ⟨some 26, (si r5.1), [(23, (rf 1 0)), (25, (D.one (C.own 5 0 r4.length 1)))], [(1, (o_vdisk_Disk_03 false (C.mp 2) np p1)), (2, (om_ e_vdisk_file p1.files)), (5, (ow_ e_u8 r4))], [(1, (o_vdisk_Disk_03 false (C.mp 2) np r5.2)), (2, (om_ e_vdisk_file r5.2.files))], none⟩), (ft 7 6 (si r5.1) [(26, (si r5.1))])] [[], [0], [0, 1], [0, 1, 2], [], [4], (.range 6), (.range 7)] (nl rfl) [0, 1, 2, 3, 0, 1, 4, 5] rfl (TK := [(5, 5)]) rfl (AllK.cons' ⟨(tk_upd (tk_upd tk_top rfl) rfl), (tC rfl (tC rfl (tC rfl (tC rfl (tC (tkO_row _) AllT.nil'))))), (fC (.inr rfl) (fC (.inr rfl) (fC (.inr rfl) (fC (.inr rfl) (fC (.inr rfl) (fC (.inl rfl) (fC (.inl rfl) (fC (.inl rfl) AllF.nil'))))))))⟩ AllK.nil') (by repeat (first | refine fC ⟨?_, ?_⟩ ?_ | refine sC rfl ?_ | refine hC rfl ?_ | trivial)) ?_ ?_
   ·refine y8 ?_ ?_ ?_ ?_ ?_ ?_ ?_ ?_ yN
    ·intro K _ f w u k
     show Wp K ⟨54, (upd 54 f 0 (rf 0 0)), _⟩
     refine s_move (d := (rf 0 0)) rfl k
    ·intro K _ f w u k
     show Wp K ⟨54, (upd 54 f 20 (rf 0 0)), [_, _, _, _, _, _, _]⟩
     refine s_nilCheck (d := (rf 0 0)) rfl (.inl ⟨_, _, rfl⟩) k
    ·intro K _ f w u k
     show Wp K ⟨54, (upd 54 f 21 (rf 0 0)), [_, _, _, _, _, _, _]⟩
     refine s_fieldRef F.fo_27_0 (by decide) rfl k
    ·intro K _ f w u k
     show Wp K ⟨54, (upd 54 f 22 (rf 0 0)), [(o_journal_Journal_02 false (C.ref 1 0) (C.own 4 0 r2.2.l.length 1) r2.2), _, _, _, _, _, _]⟩
     refine s_load1 (c' := (C.ref 1 0)) F.ag_24 rfl rfl k
    ·intro K _ f w u k
     show Wp K ⟨54, (upd 54 f 1 (ds_ e_u8 a1)), _⟩
     refine s_move (d := (ds_ e_u8 a1)) rfl k
    ·intro K _ f w u k
     show Wp K ⟨54, (upd 54 f 24 (ds_ e_u8 a1)), [_, _, _, _, _, _, _]⟩
     refine cc [] [(w 0), (w 1), (w 2), (w 3), (w 4), (w 5), (w 6), (ow_ e_u8 r4)] (D.one (C.own 7 0 r4.length 1)) F.ca_26 rfl rfl (ac (.one .imm) an) an (journal_frame.meets _ a1 r4 er4) ?_
     refine AWops.weak (st' := ⟨54, (upd 54 (upd 54 f 24 (ds_ e_u8 a1)) 25 (D.one (C.own 5 0 r4.length 1))), [(w 0), (w 1), (w 2), (w 3), (w 4), (ow_ e_u8 r4), (w 6)]⟩) (wg 4 [0, 1, 2, 3, 4, 7, 6] [] hx (le_upd2 (le_ok (p := 5) (L := 7) rfl (u 5 rfl).1) (o1 (.own rfl))) (ac (oq 5 7 (u 5 rfl) 0) (ac (oq 5 7 (u 5 rfl) 1) (ac (oq 5 7 (u 5 rfl) 2) (ac (oq 5 7 (u 5 rfl) 3) (ac (oq 5 7 (u 5 rfl) 4) (ac (.cells (fun _ => rfl) (all2_row _)) (ac (oq 5 7 (u 5 rfl) 6) an)))))))) k
    ·intro K _ f w u k
     show Wp K ⟨54, (upd 54 (upd 54 f 25 (D.one (C.own 5 0 r4.length 1))) 23 (rf 1 0)), [_, (o_vdisk_Disk_03 false (C.mp 2) np p1), (om_ e_vdisk_file p1.files), _, _, (ow_ e_u8 r4), _]⟩
     refine cc [1, 5, 2] [(w 0), (o_vdisk_Disk_03 false (C.mp 2) np r5.2), (om_ e_vdisk_file r5.2.files), (w 3), (w 4), (ow_ e_u8 r4), (w 6)] (si r5.1) F.ca_25 rfl rfl (ac (.one (.ref rfl)) (ac (.one .sc) (ac (.one (.own rfl)) an))) (ac (.cells (ac (.mp rfl) (ac .sc (ac .sc (ac .sc (ac .sc an)))))) (ac (.cells (lend_row _)) (ac .map an))) (vdisk_Disk_Append.meets _ p1 (⟨#[106, 111, 117, 114, 110, 97, 108]⟩ : ByteArray) r4 r5 er5) k
    ·intro K _ f w u k
     show Wp K ⟨54, (upd 54 f 26 (si r5.1)), _⟩
     refine s_assign (d := (si r5.1)) rfl k
   ·refine AWops.weak (st' := ⟨54, (upd 54 (upd 54 (upd 54 topF 0 (rf 0 0)) 1 (ds_ e_u8 a1)) 6 (si r5.1)), [(o_journal_Journal_02 false (C.ref 1 0) (C.own 4 0 r2.2.l.length 1) r2.2), (o_vdisk_Disk_03 false (C.mp 2) np r5.2), (om_ e_vdisk_file r5.2.files), none, (some (AObj.cells false (rowC (e_sl e_u8) r2.2.l)))]⟩) (wg 4 [0, 1, 2, 3, 4] [] hx (le_upd (le_upd (le_upd (le_top _) (o1 (.ref rfl))) (o1 .same)) (o1 .sc)) (ac (.cells id (ac (.ref rfl) (ac .same (ac (.own rfl) (ac .sc an))))) (ac (qs rfl) (ac .map (ac (.none _) (ac (.cells id (all2_row _)) an)))))) (AWops.nil (AW.seq (AW.seq (AW.region ?_))))
    refine s_move (d := (si r5.1)) rfl (s_binI (v := (.bool (r5.1 == 71))) rfl rfl rfl (AWops.nil ?_))
    rcases itH h with ⟨c6, h⟩ | ⟨c6, h⟩
    ·refine AW.cond_yes rfl c6 (AW.seq (AW.region ?_))
     refine s_move (d := (si r5.1)) rfl (s_assign (d := (si r5.1)) rfl (AWops.nil (AW.ret ?_)))
     obtain rfl := Option.some.inj h
     exact ⟨_, rfl, (wg 4 [0, 1, 2, 3, 4] [] rfl (le_upd (le_top _) (o1 .sc)) (ac (.cells id (ac (.ref rfl) (ac .same (ac (.own rfl) (ac .sc an))))) (ac (qs rfl) (ac .map (ac (.none _) (ac (.cells id (all2_row _)) an))))))⟩
    ·refine AW.cond_no rfl c6 (AW.skip ?_)
     refine AW.seqJ (fun st => ∃ (x9 : Int) (x10 : Int) (x11 : Bool) (x12 : List (ByteArray × vdisk_file)) (x13 : Int), journal_Journal_Append_fresh_7.j0 k x9 x10 x11 x12 x13 a1 r2 = some r ∧ st = ⟨54, (upd 54 (upd 54 (upd 54 topF 0 (rf 0 0)) 1 (ds_ e_u8 a1)) 6 (si x13)), [(o_journal_Journal_02 false (C.ref 1 0) (C.own 4 0 r2.2.l.length 1) r2.2), (some (AObj.cells false [(C.mp 2), (ci x9), (ci x10), np, (cb x11)])), (om_ e_vdisk_file x12), none, (some (AObj.cells false (rowC (e_sl e_u8) r2.2.l)))]⟩) ?_ ?_
     ·refine AW.seq (AW.region ?_)
      refine s_move (d := (si r5.1)) rfl (s_binI (v := (.bool (r5.1 == 0))) rfl rfl rfl (AWops.nil ?_))
      rcases itH h with ⟨c7, h⟩ | ⟨c7, h⟩
      ·refine AW.cond_yes rfl c7 (AW.region ?_)
       refine s_move (d := (rf 0 0)) rfl (s_nilCheck (d := (rf 0 0)) rfl (.inl ⟨_, _, rfl⟩) (s_fieldRef F.fo_27_0 (by decide) rfl (s_load1 (c' := (C.ref 1 0)) F.ag_24 rfl rfl ?_)))
       obtain ⟨r8, er8, h⟩ := bnd h
       refine cc [1, 2] [(o_journal_Journal_02 false (C.ref 1 0) (C.own 4 0 r2.2.l.length 1) r2.2), (o_vdisk_Disk_03 false (C.mp 2) np r8.2), (om_ e_vdisk_file r8.2.files), none, (some (AObj.cells false (rowC (e_sl e_u8) r2.2.l)))] (si r8.1) F.ca_27 rfl rfl (ac (.one (.ref rfl)) (ac (.one .sc) an)) (ac (.cells (ac (.mp rfl) (ac .sc (ac .sc (ac .sc (ac .sc an)))))) (ac .map an)) (vdisk_Disk_Sync.meets _ r5.2 (⟨#[106, 111, 117, 114, 110, 97, 108]⟩ : ByteArray) r8 er8) (s_assign (d := (si r8.1)) rfl (AWops.nil ?_))
       exact ⟨⟨54, (upd 54 (upd 54 (upd 54 topF 0 (rf 0 0)) 1 (ds_ e_u8 a1)) 6 (si r8.1)), [(o_journal_Journal_02 false (C.ref 1 0) (C.own 4 0 r2.2.l.length 1) r2.2), (some (AObj.cells false [(C.mp 2), (ci r8.2.room), (ci r8.2.used), np, (cb r8.2.dead)])), (om_ e_vdisk_file r8.2.files), none, (some (AObj.cells false (rowC (e_sl e_u8) r2.2.l)))]⟩, (wg 4 [0, 1, 2, 3, 4] [] hx (le_upd (le_upd (le_upd (le_top _) (o1 (.ref rfl))) (o1 .same)) (o1 .sc)) (ac (.cells id (ac (.ref rfl) (ac .same (ac (.own rfl) (ac .sc an))))) (ac (qs rfl) (ac .map (ac (.none _) (ac (.cells id (all2_row _)) an)))))), r8.2.room, r8.2.used, r8.2.dead, r8.2.files, r8.1, h, rfl⟩
      ·refine AW.cond_no rfl c7 (AW.skip ?_)
       exact ⟨⟨54, (upd 54 (upd 54 (upd 54 topF 0 (rf 0 0)) 1 (ds_ e_u8 a1)) 6 (si r5.1)), [(o_journal_Journal_02 false (C.ref 1 0) (C.own 4 0 r2.2.l.length 1) r2.2), (some (AObj.cells false [(C.mp 2), (ci r5.2.room), (ci r5.2.used), np, (cb r5.2.dead)])), (om_ e_vdisk_file r5.2.files), none, (some (AObj.cells false (rowC (e_sl e_u8) r2.2.l)))]⟩, (wg 4 [0, 1, 2, 3, 4] [] hx (le_upd (le_upd (le_upd (le_top _) (o1 (.ref rfl))) (o1 .same)) (o1 .sc)) (ac (.cells id (ac (.ref rfl) (ac .same (ac (.own rfl) (ac .sc an))))) (ac (qs rfl) (ac .map (ac (.none _) (ac (.cells id (all2_row _)) an)))))), r5.2.room, r5.2.used, r5.2.dead, r5.2.files, r5.1, h, rfl⟩
     ·rintro st ⟨x9, x10, x11, x12, x13, h, rfl⟩
      cases k with
      | zero => exact absurd h (by simp [journal_Journal_Append_fresh_7.j0])
      | succ qj0 =>
       replace h := (journal_Journal_Append_fresh_7.j0.eq_2 _ _ _ _ _ _ _ _).symm.trans h
       refine AW.seq (AW.seq (AW.region ?_))
       refine s_move (d := (si x13)) rfl (s_binI (v := (.bool (x13 != 0))) rfl rfl rfl (AWops.nil ?_))
       rcases itH h with ⟨c14, h⟩ | ⟨c14, h⟩
       ·refine AW.cond_yes rfl c14 (AW.seq (AW.region ?_))
        refine s_move (d := (rf 0 0)) rfl (s_nilCheck (d := (rf 0 0)) rfl (.inl ⟨_, _, rfl⟩) (s_fieldRef F.fo_27_3 (by decide) rfl (s_store (cs' := [(C.ref 1 0), (cl_ e_u8 r2.2.snap), (C.own 4 0 r2.2.l.length 1), (cb true)]) rfl rfl rfl (List.cons_ne_nil _ _) rfl F.sz_4 (nl rfl) rfl (AWops.nil (AW.seq (AW.region (s_move (d := (si x13)) rfl (s_assign (d := (si x13)) rfl (AWops.nil (AW.ret ?_))))))))))
        obtain rfl := Option.some.inj h
        exact ⟨_, rfl, (wg 4 [0, 1, 2, 3, 4] [] rfl (le_upd (le_top _) (o1 .sc)) (ac (.cells id (ac (.ref rfl) (ac .same (ac (.own rfl) (ac .sc an))))) (ac (qs rfl) (ac .map (ac (.none _) (ac (.cells id (all2_row _)) an))))))⟩
       ·refine AW.cond_no rfl c14 (AW.skip (AW.seq ?_))
        refine AW.weak (st' := ⟨54, (upd 54 (upd 54 topF 0 (rf 0 0)) 1 (ds_ e_u8 a1)), [(o_journal_Journal_02 false (C.ref 1 0) (C.own 4 0 r2.2.l.length 1) r2.2), (some (AObj.cells false [(C.mp 2), (ci x9), (ci x10), np, (cb x11)])), (om_ e_vdisk_file x12), none, (some (AObj.cells false (rowC (e_sl e_u8) r2.2.l)))]⟩) (wg 4 [0, 1, 2, 3, 4] [] hx (le_upd (le_upd (le_top _) (o1 (.ref rfl))) (o1 .same)) (ac (.cells id (ac (.ref rfl) (ac .same (ac (.own rfl) (ac .sc an))))) (ac (qs rfl) (ac .map (ac (.none _) (ac (.cells id (all2_row _)) an)))))) ?_
        obtain ⟨r15, er15, h⟩ := bnd h
        obtain ⟨c16, h⟩ := gdH h
        have dc16 := of_decide_eq_true c16
        refine AW.draw (n := 54) (L := 8) [(ft 0 43 (rf 0 0) [(0, (rf 0 0))]), (ft 1 44 (rf 0 0) [(0, (rf 0 0))]), (ft 2 45 (rf 0 0) [(44, (rf 0 0))]), (ft 3 46 (rf 0 2) [(45, (rf 0 0))]), (4, ⟨some 47, (D.one (C.own 4 0 r2.2.l.length 1)), [(46, (rf 0 2))], [(0, (o_journal_Journal_02 false (C.ref 1 0) (C.own 4 0 r2.2.l.length 1) r2.2))], [], none⟩), (ft 5 48 (ds_ e_u8 a1) [(1, (ds_ e_u8 a1))]), (6, ⟨some 49, (ds_ e_u8 r15), [(48, (ds_ e_u8 a1))], [], [], some 5⟩), (7, ⟨some 50, (D.one (C.own 6 0 (([r15] : List (List Int)).length) 1)), [(49, (ds_ e_u8 r15))], [], [(6, (some (AObj.cells true (rowC (e_sl e_u8) ([r15] : List (List Int))))))], some 6⟩), (8, ⟨some 51, (D.one (C.own 7 0 ((r2.2.l ++ ([r15] : List (List Int))).length) 1)), [(47, (D.one (C.own 4 0 r2.2.l.length 1))), (50, (D.one (C.own 6 0 (([r15] : List (List Int)).length) 1)))], [(4, (some (AObj.cells false (rowC (e_sl e_u8) r2.2.l)))), (6, (some (AObj.cells true (rowC (e_sl e_u8) ([r15] : List (List Int))))))], [(4, none), (7, (some (AObj.cells false (rowC (e_sl e_u8) (r2.2.l ++ ([r15] : List (List Int)))))))], some 7⟩), (ft 9 52 (rf 0 0) [(43, (rf 0 0))]), (ft 10 53 (rf 0 2) [(52, (rf 0 0))]), (11, ⟨none, (D.one C.top), [(51, (D.one (C.own 7 0 ((r2.2.l ++ ([r15] : List (List Int))).length) 1))), (53, (rf 0 2))], [(0, (o_journal_Journal_02 false (C.ref 1 0) (C.own 4 0 r2.2.l.length 1) r2.2))], [(0, (o_journal_Journal_02 false (C.ref 1 0) (C.own 7 0 ((r2.2.l ++ ([r15] : List (List Int))).length) 1) r2.2))], none⟩)] [[], [], [1], [1, 2], [1, 2, 3], [], [5], [5, 6], [1, 2, 3, 4, 5, 6, 7], (.range 9), (.range 10), (.range 11)] (nl rfl) [0, 0, 1, 2, 3, 0, 1, 2, 4, 5, 6, 7] rfl (TK := [(6, 5), (7, 6), (8, 7)]) rfl (AllK.cons' ⟨(tk_upd (tk_upd tk_top rfl) rfl), (tC rfl (tC rfl (tC rfl (tC rfl (tC (tkO_row _) AllT.nil'))))), (fC (.inr rfl) (fC (.inr rfl) (fC (.inr rfl) (fC (.inr rfl) (fC (.inr rfl) (fC (.inr rfl) (fC (.inl rfl) (fC (.inl rfl) (fC (.inl rfl) (fC (.inl rfl) (fC (.inl rfl) (fC (.inl rfl) AllF.nil'))))))))))))⟩ (AllK.cons' ⟨(tk_upd (tk_upd tk_top rfl) rfl), (tC rfl (tC rfl (tC rfl (tC rfl (tC (tkO_row _) AllT.nil'))))), (fC (.inr rfl) (fC (.inr rfl) (fC (.inr rfl) (fC (.inr rfl) (fC (.inr rfl) (fC (.inr rfl) (fC (.inr rfl) (fC (.inl rfl) (fC (.inl rfl) (fC (.inl rfl) (fC (.inl rfl) (fC (.inl rfl) AllF.nil'))))))))))))⟩ (AllK.cons' ⟨(tk_upd (tk_upd tk_top rfl) rfl), (tC rfl (tC rfl (tC rfl (tC rfl (tC (tkO_row _) AllT.nil'))))), (by repeat (first | refine fC (.inl rfl) ?_ | refine fC (.inr rfl) ?_ | refine fC (.inr (by unfold tkFoot; simp only [List.all_cons, List.all_nil, tkO_row, Bool.and_true, Bool.true_and]; rfl)) ?_ | trivial))⟩ AllK.nil'))) (by repeat (first | refine fC ⟨?_, ?_⟩ ?_ | refine sC rfl ?_ | refine hC rfl ?_ | trivial)) ?_ ?_
        ·refine y8 ?_ ?_ ?_ ?_ ?_ ?_ ?_ ?_ (y4 ?_ ?_ ?_ ?_ yN)
         ·intro K _ f w u k
          show Wp K ⟨54, (upd 54 f 0 (rf 0 0)), _⟩
          refine s_move (d := (rf 0 0)) rfl k
         ·intro K _ f w u k
          show Wp K ⟨54, (upd 54 f 0 (rf 0 0)), _⟩
          refine s_move (d := (rf 0 0)) rfl k
         ·intro K _ f w u k
          show Wp K ⟨54, (upd 54 f 44 (rf 0 0)), [_, _, _, _, _, _, _, _]⟩
          refine s_nilCheck (d := (rf 0 0)) rfl (.inl ⟨_, _, rfl⟩) k
         ·intro K _ f w u k
          show Wp K ⟨54, (upd 54 f 45 (rf 0 0)), [_, _, _, _, _, _, _, _]⟩
          refine s_fieldRef F.fo_27_2 (by decide) rfl k
         ·intro K _ f w u k
          show Wp K ⟨54, (upd 54 f 46 (rf 0 2)), [(o_journal_Journal_02 false (C.ref 1 0) (C.own 4 0 r2.2.l.length 1) r2.2), _, _, _, _, _, _, _]⟩
          refine s_load1 (c' := (C.own 4 0 r2.2.l.length 1)) F.ag_25 rfl rfl k
         ·intro K _ f w u k
          show Wp K ⟨54, (upd 54 f 1 (ds_ e_u8 a1)), _⟩
          refine s_move (d := (ds_ e_u8 a1)) rfl k
         ·intro K _ f w u k
          show Wp K ⟨54, (upd 54 f 48 (ds_ e_u8 a1)), [_, _, _, _, _, _, _, _]⟩
          refine cc [] [(w 0), (w 1), (w 2), (w 3), (w 4), (w 5), (w 6), (w 7), (ow_ e_u8 r15)] (D.one (C.own 8 0 r15.length 1)) F.ca_28 rfl rfl (ac (.one .imm) an) an (slices_Clone_byte_byte.meets _ a1 r15 er15) ?_
          refine AWops.weak (st' := ⟨54, (upd 54 (upd 54 f 48 (ds_ e_u8 a1)) 49 (ds_ e_u8 r15)), [(w 0), (w 1), (w 2), (w 3), (w 4), (w 5), (w 6), (w 7)]⟩) (wg 4 [0, 1, 2, 3, 4, 5, 6, 7] [8] hx (le_upd2 (le_ok (p := 5) (L := 8) rfl (u 5 rfl).1) (o1 (CLe.frz e_u8_len rfl rfl rfl))) (ac (oq 5 8 (u 5 rfl) 0) (ac (oq 5 8 (u 5 rfl) 1) (ac (oq 5 8 (u 5 rfl) 2) (ac (oq 5 8 (u 5 rfl) 3) (ac (oq 5 8 (u 5 rfl) 4) (ac (oq 5 8 (u 5 rfl) 5) (ac (oq 5 8 (u 5 rfl) 6) (ac (oq 5 8 (u 5 rfl) 7) an))))))))) k
         ·intro K _ f w u k
          show Wp K ⟨54, (upd 54 f 49 (ds_ e_u8 r15)), [_, _, _, _, _, _, _, _]⟩
          refine s_buildSlice (n := 1) (ps := [(0, (ds_ e_u8 r15))]) (cs := rowC (e_sl e_u8) ([r15] : List (List Int))) F.u_25 F.sz_22 F.z_22 rfl rfl (by decide) (by decide) rfl rfl ?_
          refine AWops.weak (st' := ⟨54, (upd 54 (upd 54 f 49 (ds_ e_u8 r15)) 50 (D.one (C.own 6 0 (([r15] : List (List Int)).length) 1))), [(w 0), (w 1), (w 2), (w 3), (w 4), (w 5), (some (AObj.cells true (rowC (e_sl e_u8) ([r15] : List (List Int))))), (w 7)]⟩) (wg 4 [0, 1, 2, 3, 4, 5, 8, 7] [] hx (le_upd2 (le_ok (p := 6) (L := 8) rfl (u 6 rfl).1) (o1 (.own rfl))) (ac (oq 6 8 (u 6 rfl) 0) (ac (oq 6 8 (u 6 rfl) 1) (ac (oq 6 8 (u 6 rfl) 2) (ac (oq 6 8 (u 6 rfl) 3) (ac (oq 6 8 (u 6 rfl) 4) (ac (oq 6 8 (u 6 rfl) 5) (ac (.cells (fun _ => rfl) (all2_row _)) (ac (oq 6 8 (u 6 rfl) 7) an))))))))) k
         ·intro K _ f w u k
          show Wp K ⟨54, (upd 54 (upd 54 f 50 (D.one (C.own 6 0 (([r15] : List (List Int)).length) 1))) 47 (D.one (C.own 4 0 r2.2.l.length 1))), [_, _, _, _, (some (AObj.cells false (rowC (e_sl e_u8) r2.2.l))), _, (some (AObj.cells true (rowC (e_sl e_u8) ([r15] : List (List Int))))), _]⟩
          refine t_append (xs := r2.2.l) (ys := ([r15] : List (List Int))) (zs := r2.2.l ++ ([r15] : List (List Int))) (H' := [(w 0), (w 1), (w 2), (w 3), none, (w 5), (some (AObj.cells true (rowC (e_sl e_u8) ([r15] : List (List Int))))), (w 7), (some (AObj.cells false (rowC (e_sl e_u8) (r2.2.l ++ ([r15] : List (List Int))))))]) F.u_25 F.in_22 rfl (e_sl_len _) (.own rfl rfl) (.own rfl rfl) F.u_25 (by omega) (by omega) rfl rfl ?_
          refine AWops.weak (st' := ⟨54, (upd 54 (upd 54 (upd 54 f 50 (D.one (C.own 6 0 (([r15] : List (List Int)).length) 1))) 47 (D.one (C.own 4 0 r2.2.l.length 1))) 51 (D.one (C.own 7 0 ((r2.2.l ++ ([r15] : List (List Int))).length) 1))), [(w 0), (w 1), (w 2), (w 3), none, (w 5), (some (AObj.cells true (rowC (e_sl e_u8) ([r15] : List (List Int))))), (some (AObj.cells false (rowC (e_sl e_u8) (r2.2.l ++ ([r15] : List (List Int))))))]⟩) (wg 4 [0, 1, 2, 3, 4, 5, 6, 8] [] hx (le_upd2 (le_ok (p := 7) (L := 8) rfl (u 7 rfl).1) (o1 (.own rfl))) (ac (oq 7 8 (u 7 rfl) 0) (ac (oq 7 8 (u 7 rfl) 1) (ac (oq 7 8 (u 7 rfl) 2) (ac (oq 7 8 (u 7 rfl) 3) (ac (.none _) (ac (oq 7 8 (u 7 rfl) 5) (ac (.cells (fun _ => rfl) (all2_row _)) (ac (.cells id (all2_row _)) an))))))))) k
         ·intro K _ f w u k
          show Wp K ⟨54, (upd 54 f 43 (rf 0 0)), [_, _, _, _, _, _, _, _]⟩
          refine s_nilCheck (d := (rf 0 0)) rfl (.inl ⟨_, _, rfl⟩) k
         ·intro K _ f w u k
          show Wp K ⟨54, (upd 54 f 52 (rf 0 0)), [_, _, _, _, _, _, _, _]⟩
          refine s_fieldRef F.fo_27_2 (by decide) rfl k
         ·intro K _ f w u k
          show Wp K ⟨54, (upd 54 (upd 54 f 53 (rf 0 2)) 51 (D.one (C.own 7 0 ((r2.2.l ++ ([r15] : List (List Int))).length) 1))), [(o_journal_Journal_02 false (C.ref 1 0) (C.own 4 0 r2.2.l.length 1) r2.2), _, _, _, _, _, _, _]⟩
          refine s_store (cs' := [(C.ref 1 0), (cl_ e_u8 r2.2.snap), (C.own 7 0 ((r2.2.l ++ ([r15] : List (List Int))).length) 1), (cb r2.2.stopped)]) rfl rfl rfl (List.cons_ne_nil _ _) rfl F.sz_25 (nl rfl) rfl k
        ·refine AWops.weak (st' := ⟨54, topF, [(o_journal_Journal_02 false (C.ref 1 0) (C.own 4 0 ((r2.2.l ++ ([r15] : List (List Int))).length) 1) r2.2), (some (AObj.cells false [(C.mp 2), (ci x9), (ci x10), np, (cb x11)])), (om_ e_vdisk_file x12), none, (some (AObj.cells false (rowC (e_sl e_u8) (r2.2.l ++ ([r15] : List (List Int))))))]⟩) (wg 4 [0, 1, 2, 3, 7] [] hx (le_top _) (ac (.cells id (ac (.ref rfl) (ac .same (ac (.own rfl) (ac .sc an))))) (ac (qs rfl) (ac .map (ac (.none _) (ac (.cells id (all2_row _)) an)))))) (AWops.nil (AW.seq (AW.region ?_)))
         refine s_assign (d := (si 0)) rfl (AWops.nil (AW.ret ?_))
         obtain rfl := Option.some.inj h
         exact ⟨_, rfl, (wg 4 [0, 1, 2, 3, 4] [] rfl (le_upd (le_top _) (o1 .sc)) (ac (.cells id (ac (.ref rfl) (ac .same (ac (.own rfl) (ac .sc an))))) (ac (qs rfl) (ac .map (ac (.none _) (ac (.cells id (all2_row _)) an))))))⟩
 ·iterate 3 refine AWops.guard_no rfl (nl rfl) rfl c1 ?_
  refine s_pick_no (d := (sb false)) rfl c1 rfl ?_
  obtain ⟨r17, er17, h⟩ := bnd h
  refine cc [0, 1, 4, 2] [(o_journal_Journal_02 false (C.ref 1 0) (C.own 4 0 r17.2.l.length 1) r17.2), (o_vdisk_Disk_03 false (C.mp 2) np p1), (om_ e_vdisk_file p1.files), none, (some (AObj.cells false (rowC (e_sl e_u8) r17.2.l)))] (si r17.1) F.ca_24 rfl rfl (ac (.one (.ref rfl)) (ac (.one .sc) an)) (ac (.cells (ac (.ref rfl) (ac .imm (ac (.own rfl) (ac .sc an))))) (ac (.cells (ac (.mp rfl) (ac .sc (ac .sc (ac .sc (ac .sc an)))))) (ac (.cells (lend_row _)) (ac .map an)))) (journal_Journal_may_fresh.meets _ (⟨(), p0.snap, p0.l, p0.stopped⟩ : journal_Journal) false p1 r17 er17) (s_assign (d := (si r17.1)) rfl (AWops.nil (AW.seq (AW.region (s_move (d := (si r17.1)) rfl (s_binI (v := (.bool (r17.1 != 0))) rfl rfl rfl (AWops.nil ?_)))))))
  rcases itH h with ⟨c18, h⟩ | ⟨c18, h⟩
  ·refine AW.cond_yes rfl c18 (AW.seq (AW.region ?_))
   refine s_move (d := (si r17.1)) rfl (s_assign (d := (si r17.1)) rfl (AWops.nil (AW.ret ?_)))
   obtain rfl := Option.some.inj h
   exact ⟨_, rfl, (wg 4 [0, 1, 2, 3, 4] [] rfl (le_upd (le_top _) (o1 .sc)) (ac (.cells id (ac (.ref rfl) (ac .same (ac (.own rfl) (ac .sc an))))) (ac (qs rfl) (ac .map (ac (.none _) (ac (.cells id (all2_row _)) an))))))⟩
  ·refine AW.cond_no rfl c18 (AW.skip (AW.seq ?_))
   refine AW.weak (st' := ⟨54, (upd 54 (upd 54 topF 0 (rf 0 0)) 1 (ds_ e_u8 a1)), [(o_journal_Journal_02 false (C.ref 1 0) (C.own 4 0 r17.2.l.length 1) r17.2), (o_vdisk_Disk_03 false (C.mp 2) np p1), (om_ e_vdisk_file p1.files), none, (some (AObj.cells false (rowC (e_sl e_u8) r17.2.l)))]⟩) (wg 4 [0, 1, 2, 3, 4] [] hx (le_upd (le_upd (le_top _) (o1 (.ref rfl))) (o1 .same)) (ac (.cells id (ac (.ref rfl) (ac .same (ac (.own rfl) (ac .sc an))))) (ac (qs rfl) (ac .map (ac (.none _) (ac (.cells id (all2_row _)) an)))))) ?_
   obtain ⟨r19, er19, h⟩ := bnd h
   obtain ⟨r20, er20, h⟩ := bnd h
   refine AW.draw (n := 54) (L := 7) [(ft 0 20 (rf 0 0) [(0, (rf 0 0))]), (ft 1 21 (rf 0 0) [(20, (rf 0 0))]), (ft 2 22 (rf 0 0) [(21, (rf 0 0))]), (3, ⟨some 23, (rf 1 0), [(22, (rf 0 0))], [(0, (o_journal_Journal_02 false (C.ref 1 0) (C.own 4 0 r17.2.l.length 1) r17.2))], [], none⟩), (ft 4 24 (ds_ e_u8 a1) [(1, (ds_ e_u8 a1))]), (5, ⟨some 25, (D.one (C.own 5 0 r19.length 1)), [(24, (ds_ e_u8 a1))], [], [(5, (ow_ e_u8 r19))], some 5⟩), (6, ⟨some 26, (si r20.1), [(23, (rf 1 0)), (25, (D.one (C.own 5 0 r19.length 1)))], [(1, (o_vdisk_Disk_03 false (C.mp 2) np p1)), (2, (om_ e_vdisk_file p1.files)), (5, (ow_ e_u8 r19))], [(1, (o_vdisk_Disk_03 false (C.mp 2) np r20.2)), (2, (om_ e_vdisk_file r20.2.files))], none⟩), (ft 7 6 (si r20.1) [(26, (si r20.1))])] [[], [0], [0, 1], [0, 1, 2], [], [4], (.range 6), (.range 7)] (nl rfl) [0, 1, 2, 3, 0, 1, 4, 5] rfl (TK := [(5, 5)]) rfl (AllK.cons' ⟨(tk_upd (tk_upd tk_top rfl) rfl), (tC rfl (tC rfl (tC rfl (tC rfl (tC (tkO_row _) AllT.nil'))))), (fC (.inr rfl) (fC (.inr rfl) (fC (.inr rfl) (fC (.inr rfl) (fC (.inr rfl) (fC (.inl rfl) (fC (.inl rfl) (fC (.inl rfl) AllF.nil'))))))))⟩ AllK.nil') (by repeat (first | refine fC ⟨?_, ?_⟩ ?_ | refine sC rfl ?_ | refine hC rfl ?_ | trivial)) ?_ ?_
   ·refine y8 ?_ ?_ ?_ ?_ ?_ ?_ ?_ ?_ yN
    ·intro K _ f w u k
     show Wp K ⟨54, (upd 54 f 0 (rf 0 0)), _⟩
     refine s_move (d := (rf 0 0)) rfl k
    ·intro K _ f w u k
     show Wp K ⟨54, (upd 54 f 20 (rf 0 0)), [_, _, _, _, _, _, _]⟩
     refine s_nilCheck (d := (rf 0 0)) rfl (.inl ⟨_, _, rfl⟩) k
    ·intro K _ f w u k
     show Wp K ⟨54, (upd 54 f 21 (rf 0 0)), [_, _, _, _, _, _, _]⟩
     refine s_fieldRef F.fo_27_0 (by decide) rfl k
    ·intro K _ f w u k
     show Wp K ⟨54, (upd 54 f 22 (rf 0 0)), [(o_journal_Journal_02 false (C.ref 1 0) (C.own 4 0 r17.2.l.length 1) r17.2), _, _, _, _, _, _]⟩
     refine s_load1 (c' := (C.ref 1 0)) F.ag_24 rfl rfl k
    ·intro K _ f w u k
     show Wp K ⟨54, (upd 54 f 1 (ds_ e_u8 a1)), _⟩
     refine s_move (d := (ds_ e_u8 a1)) rfl k
    ·intro K _ f w u k
     show Wp K ⟨54, (upd 54 f 24 (ds_ e_u8 a1)), [_, _, _, _, _, _, _]⟩
     refine cc [] [(w 0), (w 1), (w 2), (w 3), (w 4), (w 5), (w 6), (ow_ e_u8 r19)] (D.one (C.own 7 0 r19.length 1)) F.ca_26 rfl rfl (ac (.one .imm) an) an (journal_frame.meets _ a1 r19 er19) ?_
     refine AWops.weak (st' := ⟨54, (upd 54 (upd 54 f 24 (ds_ e_u8 a1)) 25 (D.one (C.own 5 0 r19.length 1))), [(w 0), (w 1), (w 2), (w 3), (w 4), (ow_ e_u8 r19), (w 6)]⟩) (wg 4 [0, 1, 2, 3, 4, 7, 6] [] hx (le_upd2 (le_ok (p := 5) (L := 7) rfl (u 5 rfl).1) (o1 (.own rfl))) (ac (oq 5 7 (u 5 rfl) 0) (ac (oq 5 7 (u 5 rfl) 1) (ac (oq 5 7 (u 5 rfl) 2) (ac (oq 5 7 (u 5 rfl) 3) (ac (oq 5 7 (u 5 rfl) 4) (ac (.cells (fun _ => rfl) (all2_row _)) (ac (oq 5 7 (u 5 rfl) 6) an)))))))) k
    ·intro K _ f w u k
     show Wp K ⟨54, (upd 54 (upd 54 f 25 (D.one (C.own 5 0 r19.length 1))) 23 (rf 1 0)), [_, (o_vdisk_Disk_03 false (C.mp 2) np p1), (om_ e_vdisk_file p1.files), _, _, (ow_ e_u8 r19), _]⟩
     refine cc [1, 5, 2] [(w 0), (o_vdisk_Disk_03 false (C.mp 2) np r20.2), (om_ e_vdisk_file r20.2.files), (w 3), (w 4), (ow_ e_u8 r19), (w 6)] (si r20.1) F.ca_25 rfl rfl (ac (.one (.ref rfl)) (ac (.one .sc) (ac (.one (.own rfl)) an))) (ac (.cells (ac (.mp rfl) (ac .sc (ac .sc (ac .sc (ac .sc an)))))) (ac (.cells (lend_row _)) (ac .map an))) (vdisk_Disk_Append.meets _ p1 (⟨#[106, 111, 117, 114, 110, 97, 108]⟩ : ByteArray) r19 r20 er20) k
    ·intro K _ f w u k
     show Wp K ⟨54, (upd 54 f 26 (si r20.1)), _⟩
     refine s_assign (d := (si r20.1)) rfl k
   ·refine AWops.weak (st' := ⟨54, (upd 54 (upd 54 (upd 54 topF 0 (rf 0 0)) 1 (ds_ e_u8 a1)) 6 (si r20.1)), [(o_journal_Journal_02 false (C.ref 1 0) (C.own 4 0 r17.2.l.length 1) r17.2), (o_vdisk_Disk_03 false (C.mp 2) np r20.2), (om_ e_vdisk_file r20.2.files), none, (some (AObj.cells false (rowC (e_sl e_u8) r17.2.l)))]⟩) (wg 4 [0, 1, 2, 3, 4] [] hx (le_upd (le_upd (le_upd (le_top _) (o1 (.ref rfl))) (o1 .same)) (o1 .sc)) (ac (.cells id (ac (.ref rfl) (ac .same (ac (.own rfl) (ac .sc an))))) (ac (qs rfl) (ac .map (ac (.none _) (ac (.cells id (all2_row _)) an)))))) (AWops.nil (AW.seq (AW.seq (AW.region ?_))))
    refine s_move (d := (si r20.1)) rfl (s_binI (v := (.bool (r20.1 == 71))) rfl rfl rfl (AWops.nil ?_))
    rcases itH h with ⟨c21, h⟩ | ⟨c21, h⟩
    ·refine AW.cond_yes rfl c21 (AW.seq (AW.region ?_))
     refine s_move (d := (si r20.1)) rfl (s_assign (d := (si r20.1)) rfl (AWops.nil (AW.ret ?_)))
     obtain rfl := Option.some.inj h
     exact ⟨_, rfl, (wg 4 [0, 1, 2, 3, 4] [] rfl (le_upd (le_top _) (o1 .sc)) (ac (.cells id (ac (.ref rfl) (ac .same (ac (.own rfl) (ac .sc an))))) (ac (qs rfl) (ac .map (ac (.none _) (ac (.cells id (all2_row _)) an))))))⟩
    ·refine AW.cond_no rfl c21 (AW.skip ?_)
     refine AW.seqJ (fun st => ∃ (x24 : Int) (x25 : Int) (x26 : Bool) (x27 : List (ByteArray × vdisk_file)) (x28 : Int), journal_Journal_Append_fresh_7.j1 k x24 x25 x26 x27 x28 a1 r17 = some r ∧ st = ⟨54, (upd 54 (upd 54 (upd 54 topF 0 (rf 0 0)) 1 (ds_ e_u8 a1)) 6 (si x28)), [(o_journal_Journal_02 false (C.ref 1 0) (C.own 4 0 r17.2.l.length 1) r17.2), (some (AObj.cells false [(C.mp 2), (ci x24), (ci x25), np, (cb x26)])), (om_ e_vdisk_file x27), none, (some (AObj.cells false (rowC (e_sl e_u8) r17.2.l)))]⟩) ?_ ?_
     ·refine AW.seq (AW.region ?_)
      refine s_move (d := (si r20.1)) rfl (s_binI (v := (.bool (r20.1 == 0))) rfl rfl rfl (AWops.nil ?_))
      rcases itH h with ⟨c22, h⟩ | ⟨c22, h⟩
      ·refine AW.cond_yes rfl c22 (AW.region ?_)
       refine s_move (d := (rf 0 0)) rfl (s_nilCheck (d := (rf 0 0)) rfl (.inl ⟨_, _, rfl⟩) (s_fieldRef F.fo_27_0 (by decide) rfl (s_load1 (c' := (C.ref 1 0)) F.ag_24 rfl rfl ?_)))
       obtain ⟨r23, er23, h⟩ := bnd h
       refine cc [1, 2] [(o_journal_Journal_02 false (C.ref 1 0) (C.own 4 0 r17.2.l.length 1) r17.2), (o_vdisk_Disk_03 false (C.mp 2) np r23.2), (om_ e_vdisk_file r23.2.files), none, (some (AObj.cells false (rowC (e_sl e_u8) r17.2.l)))] (si r23.1) F.ca_27 rfl rfl (ac (.one (.ref rfl)) (ac (.one .sc) an)) (ac (.cells (ac (.mp rfl) (ac .sc (ac .sc (ac .sc (ac .sc an)))))) (ac .map an)) (vdisk_Disk_Sync.meets _ r20.2 (⟨#[106, 111, 117, 114, 110, 97, 108]⟩ : ByteArray) r23 er23) (s_assign (d := (si r23.1)) rfl (AWops.nil ?_))
       exact ⟨⟨54, (upd 54 (upd 54 (upd 54 topF 0 (rf 0 0)) 1 (ds_ e_u8 a1)) 6 (si r23.1)), [(o_journal_Journal_02 false (C.ref 1 0) (C.own 4 0 r17.2.l.length 1) r17.2), (some (AObj.cells false [(C.mp 2), (ci r23.2.room), (ci r23.2.used), np, (cb r23.2.dead)])), (om_ e_vdisk_file r23.2.files), none, (some (AObj.cells false (rowC (e_sl e_u8) r17.2.l)))]⟩, (wg 4 [0, 1, 2, 3, 4] [] hx (le_upd (le_upd (le_upd (le_top _) (o1 (.ref rfl))) (o1 .same)) (o1 .sc)) (ac (.cells id (ac (.ref rfl) (ac .same (ac (.own rfl) (ac .sc an))))) (ac (qs rfl) (ac .map (ac (.none _) (ac (.cells id (all2_row _)) an)))))), r23.2.room, r23.2.used, r23.2.dead, r23.2.files, r23.1, h, rfl⟩
      ·refine AW.cond_no rfl c22 (AW.skip ?_)
       exact ⟨⟨54, (upd 54 (upd 54 (upd 54 topF 0 (rf 0 0)) 1 (ds_ e_u8 a1)) 6 (si r20.1)), [(o_journal_Journal_02 false (C.ref 1 0) (C.own 4 0 r17.2.l.length 1) r17.2), (some (AObj.cells false [(C.mp 2), (ci r20.2.room), (ci r20.2.used), np, (cb r20.2.dead)])), (om_ e_vdisk_file r20.2.files), none, (some (AObj.cells false (rowC (e_sl e_u8) r17.2.l)))]⟩, (wg 4 [0, 1, 2, 3, 4] [] hx (le_upd (le_upd (le_upd (le_top _) (o1 (.ref rfl))) (o1 .same)) (o1 .sc)) (ac (.cells id (ac (.ref rfl) (ac .same (ac (.own rfl) (ac .sc an))))) (ac (qs rfl) (ac .map (ac (.none _) (ac (.cells id (all2_row _)) an)))))), r20.2.room, r20.2.used, r20.2.dead, r20.2.files, r20.1, h, rfl⟩
     ·rintro st ⟨x24, x25, x26, x27, x28, h, rfl⟩
      cases k with
      | zero => exact absurd h (by simp [journal_Journal_Append_fresh_7.j1])
      | succ qj1 =>
       replace h := (journal_Journal_Append_fresh_7.j1.eq_2 _ _ _ _ _ _ _ _).symm.trans h
       refine AW.seq (AW.seq (AW.region ?_))
       refine s_move (d := (si x28)) rfl (s_binI (v := (.bool (x28 != 0))) rfl rfl rfl (AWops.nil ?_))
       rcases itH h with ⟨c29, h⟩ | ⟨c29, h⟩
       ·refine AW.cond_yes rfl c29 (AW.seq (AW.region ?_))
        refine s_move (d := (rf 0 0)) rfl (s_nilCheck (d := (rf 0 0)) rfl (.inl ⟨_, _, rfl⟩) (s_fieldRef F.fo_27_3 (by decide) rfl (s_store (cs' := [(C.ref 1 0), (cl_ e_u8 r17.2.snap), (C.own 4 0 r17.2.l.length 1), (cb true)]) rfl rfl rfl (List.cons_ne_nil _ _) rfl F.sz_4 (nl rfl) rfl (AWops.nil (AW.seq (AW.region (s_move (d := (si x28)) rfl (s_assign (d := (si x28)) rfl (AWops.nil (AW.ret ?_))))))))))
        obtain rfl := Option.some.inj h
        exact ⟨_, rfl, (wg 4 [0, 1, 2, 3, 4] [] rfl (le_upd (le_top _) (o1 .sc)) (ac (.cells id (ac (.ref rfl) (ac .same (ac (.own rfl) (ac .sc an))))) (ac (qs rfl) (ac .map (ac (.none _) (ac (.cells id (all2_row _)) an))))))⟩
       ·refine AW.cond_no rfl c29 (AW.skip (AW.seq ?_))
        refine AW.weak (st' := ⟨54, (upd 54 (upd 54 topF 0 (rf 0 0)) 1 (ds_ e_u8 a1)), [(o_journal_Journal_02 false (C.ref 1 0) (C.own 4 0 r17.2.l.length 1) r17.2), (some (AObj.cells false [(C.mp 2), (ci x24), (ci x25), np, (cb x26)])), (om_ e_vdisk_file x27), none, (some (AObj.cells false (rowC (e_sl e_u8) r17.2.l)))]⟩) (wg 4 [0, 1, 2, 3, 4] [] hx (le_upd (le_upd (le_top _) (o1 (.ref rfl))) (o1 .same)) (ac (.cells id (ac (.ref rfl) (ac .same (ac (.own rfl) (ac .sc an))))) (ac (qs rfl) (ac .map (ac (.none _) (ac (.cells id (all2_row _)) an)))))) ?_
        obtain ⟨r30, er30, h⟩ := bnd h
        obtain ⟨c31, h⟩ := gdH h
        have dc31 := of_decide_eq_true c31
        refine AW.draw (n := 54) (L := 8) [(ft 0 43 (rf 0 0) [(0, (rf 0 0))]), (ft 1 44 (rf 0 0) [(0, (rf 0 0))]), (ft 2 45 (rf 0 0) [(44, (rf 0 0))]), (ft 3 46 (rf 0 2) [(45, (rf 0 0))]), (4, ⟨some 47, (D.one (C.own 4 0 r17.2.l.length 1)), [(46, (rf 0 2))], [(0, (o_journal_Journal_02 false (C.ref 1 0) (C.own 4 0 r17.2.l.length 1) r17.2))], [], none⟩), (ft 5 48 (ds_ e_u8 a1) [(1, (ds_ e_u8 a1))]), (6, ⟨some 49, (ds_ e_u8 r30), [(48, (ds_ e_u8 a1))], [], [], some 5⟩), (7, ⟨some 50, (D.one (C.own 6 0 (([r30] : List (List Int)).length) 1)), [(49, (ds_ e_u8 r30))], [], [(6, (some (AObj.cells true (rowC (e_sl e_u8) ([r30] : List (List Int))))))], some 6⟩), (8, ⟨some 51, (D.one (C.own 7 0 ((r17.2.l ++ ([r30] : List (List Int))).length) 1)), [(47, (D.one (C.own 4 0 r17.2.l.length 1))), (50, (D.one (C.own 6 0 (([r30] : List (List Int)).length) 1)))], [(4, (some (AObj.cells false (rowC (e_sl e_u8) r17.2.l)))), (6, (some (AObj.cells true (rowC (e_sl e_u8) ([r30] : List (List Int))))))], [(4, none), (7, (some (AObj.cells false (rowC (e_sl e_u8) (r17.2.l ++ ([r30] : List (List Int)))))))], some 7⟩), (ft 9 52 (rf 0 0) [(43, (rf 0 0))]), (ft 10 53 (rf 0 2) [(52, (rf 0 0))]), (11, ⟨none, (D.one C.top), [(51, (D.one (C.own 7 0 ((r17.2.l ++ ([r30] : List (List Int))).length) 1))), (53, (rf 0 2))], [(0, (o_journal_Journal_02 false (C.ref 1 0) (C.own 4 0 r17.2.l.length 1) r17.2))], [(0, (o_journal_Journal_02 false (C.ref 1 0) (C.own 7 0 ((r17.2.l ++ ([r30] : List (List Int))).length) 1) r17.2))], none⟩)] [[], [], [1], [1, 2], [1, 2, 3], [], [5], [5, 6], [1, 2, 3, 4, 5, 6, 7], (.range 9), (.range 10), (.range 11)] (nl rfl) [0, 0, 1, 2, 3, 0, 1, 2, 4, 5, 6, 7] rfl (TK := [(6, 5), (7, 6), (8, 7)]) rfl (AllK.cons' ⟨(tk_upd (tk_upd tk_top rfl) rfl), (tC rfl (tC rfl (tC rfl (tC rfl (tC (tkO_row _) AllT.nil'))))), (fC (.inr rfl) (fC (.inr rfl) (fC (.inr rfl) (fC (.inr rfl) (fC (.inr rfl) (fC (.inr rfl) (fC (.inl rfl) (fC (.inl rfl) (fC (.inl rfl) (fC (.inl rfl) (fC (.inl rfl) (fC (.inl rfl) AllF.nil'))))))))))))⟩ (AllK.cons' ⟨(tk_upd (tk_upd tk_top rfl) rfl), (tC rfl (tC rfl (tC rfl (tC rfl (tC (tkO_row _) AllT.nil'))))), (fC (.inr rfl) (fC (.inr rfl) (fC (.inr rfl) (fC (.inr rfl) (fC (.inr rfl) (fC (.inr rfl) (fC (.inr rfl) (fC (.inl rfl) (fC (.inl rfl) (fC (.inl rfl) (fC (.inl rfl) (fC (.inl rfl) AllF.nil'))))))))))))⟩ (AllK.cons' ⟨(tk_upd (tk_upd tk_top rfl) rfl), (tC rfl (tC rfl (tC rfl (tC rfl (tC (tkO_row _) AllT.nil'))))), (by repeat (first | refine fC (.inl rfl) ?_ | refine fC (.inr rfl) ?_ | refine fC (.inr (by unfold tkFoot; simp only [List.all_cons, List.all_nil, tkO_row, Bool.and_true, Bool.true_and]; rfl)) ?_ | trivial))⟩ AllK.nil'))) (by repeat (first | refine fC ⟨?_, ?_⟩ ?_ | refine sC rfl ?_ | refine hC rfl ?_ | trivial)) ?_ ?_
        ·refine y8 ?_ ?_ ?_ ?_ ?_ ?_ ?_ ?_ (y4 ?_ ?_ ?_ ?_ yN)
         ·intro K _ f w u k
          show Wp K ⟨54, (upd 54 f 0 (rf 0 0)), _⟩
          refine s_move (d := (rf 0 0)) rfl k
         ·intro K _ f w u k
          show Wp K ⟨54, (upd 54 f 0 (rf 0 0)), _⟩
          refine s_move (d := (rf 0 0)) rfl k
         ·intro K _ f w u k
          show Wp K ⟨54, (upd 54 f 44 (rf 0 0)), [_, _, _, _, _, _, _, _]⟩
          refine s_nilCheck (d := (rf 0 0)) rfl (.inl ⟨_, _, rfl⟩) k
         ·intro K _ f w u k
          show Wp K ⟨54, (upd 54 f 45 (rf 0 0)), [_, _, _, _, _, _, _, _]⟩
          refine s_fieldRef F.fo_27_2 (by decide) rfl k
         ·intro K _ f w u k
          show Wp K ⟨54, (upd 54 f 46 (rf 0 2)), [(o_journal_Journal_02 false (C.ref 1 0) (C.own 4 0 r17.2.l.length 1) r17.2), _, _, _, _, _, _, _]⟩
          refine s_load1 (c' := (C.own 4 0 r17.2.l.length 1)) F.ag_25 rfl rfl k
         ·intro K _ f w u k
          show Wp K ⟨54, (upd 54 f 1 (ds_ e_u8 a1)), _⟩
          refine s_move (d := (ds_ e_u8 a1)) rfl k
         ·intro K _ f w u k
          show Wp K ⟨54, (upd 54 f 48 (ds_ e_u8 a1)), [_, _, _, _, _, _, _, _]⟩
          refine cc [] [(w 0), (w 1), (w 2), (w 3), (w 4), (w 5), (w 6), (w 7), (ow_ e_u8 r30)] (D.one (C.own 8 0 r30.length 1)) F.ca_28 rfl rfl (ac (.one .imm) an) an (slices_Clone_byte_byte.meets _ a1 r30 er30) ?_
          refine AWops.weak (st' := ⟨54, (upd 54 (upd 54 f 48 (ds_ e_u8 a1)) 49 (ds_ e_u8 r30)), [(w 0), (w 1), (w 2), (w 3), (w 4), (w 5), (w 6), (w 7)]⟩) (wg 4 [0, 1, 2, 3, 4, 5, 6, 7] [8] hx (le_upd2 (le_ok (p := 5) (L := 8) rfl (u 5 rfl).1) (o1 (CLe.frz e_u8_len rfl rfl rfl))) (ac (oq 5 8 (u 5 rfl) 0) (ac (oq 5 8 (u 5 rfl) 1) (ac (oq 5 8 (u 5 rfl) 2) (ac (oq 5 8 (u 5 rfl) 3) (ac (oq 5 8 (u 5 rfl) 4) (ac (oq 5 8 (u 5 rfl) 5) (ac (oq 5 8 (u 5 rfl) 6) (ac (oq 5 8 (u 5 rfl) 7) an))))))))) k
         ·intro K _ f w u k
          show Wp K ⟨54, (upd 54 f 49 (ds_ e_u8 r30)), [_, _, _, _, _, _, _, _]⟩
          refine s_buildSlice (n := 1) (ps := [(0, (ds_ e_u8 r30))]) (cs := rowC (e_sl e_u8) ([r30] : List (List Int))) F.u_25 F.sz_22 F.z_22 rfl rfl (by decide) (by decide) rfl rfl ?_
          refine AWops.weak (st' := ⟨54, (upd 54 (upd 54 f 49 (ds_ e_u8 r30)) 50 (D.one (C.own 6 0 (([r30] : List (List Int)).length) 1))), [(w 0), (w 1), (w 2), (w 3), (w 4), (w 5), (some (AObj.cells true (rowC (e_sl e_u8) ([r30] : List (List Int))))), (w 7)]⟩) (wg 4 [0, 1, 2, 3, 4, 5, 8, 7] [] hx (le_upd2 (le_ok (p := 6) (L := 8) rfl (u 6 rfl).1) (o1 (.own rfl))) (ac (oq 6 8 (u 6 rfl) 0) (ac (oq 6 8 (u 6 rfl) 1) (ac (oq 6 8 (u 6 rfl) 2) (ac (oq 6 8 (u 6 rfl) 3) (ac (oq 6 8 (u 6 rfl) 4) (ac (oq 6 8 (u 6 rfl) 5) (ac (.cells (fun _ => rfl) (all2_row _)) (ac (oq 6 8 (u 6 rfl) 7) an))))))))) k
         ·intro K _ f w u k
          show Wp K ⟨54, (upd 54 (upd 54 f 50 (D.one (C.own 6 0 (([r30] : List (List Int)).length) 1))) 47 (D.one (C.own 4 0 r17.2.l.length 1))), [_, _, _, _, (some (AObj.cells false (rowC (e_sl e_u8) r17.2.l))), _, (some (AObj.cells true (rowC (e_sl e_u8) ([r30] : List (List Int))))), _]⟩
          refine t_append (xs := r17.2.l) (ys := ([r30] : List (List Int))) (zs := r17.2.l ++ ([r30] : List (List Int))) (H' := [(w 0), (w 1), (w 2), (w 3), none, (w 5), (some (AObj.cells true (rowC (e_sl e_u8) ([r30] : List (List Int))))), (w 7), (some (AObj.cells false (rowC (e_sl e_u8) (r17.2.l ++ ([r30] : List (List Int))))))]) F.u_25 F.in_22 rfl (e_sl_len _) (.own rfl rfl) (.own rfl rfl) F.u_25 (by omega) (by omega) rfl rfl ?_
          refine AWops.weak (st' := ⟨54, (upd 54 (upd 54 (upd 54 f 50 (D.one (C.own 6 0 (([r30] : List (List Int)).length) 1))) 47 (D.one (C.own 4 0 r17.2.l.length 1))) 51 (D.one (C.own 7 0 ((r17.2.l ++ ([r30] : List (List Int))).length) 1))), [(w 0), (w 1), (w 2), (w 3), none, (w 5), (some (AObj.cells true (rowC (e_sl e_u8) ([r30] : List (List Int))))), (some (AObj.cells false (rowC (e_sl e_u8) (r17.2.l ++ ([r30] : List (List Int))))))]⟩) (wg 4 [0, 1, 2, 3, 4, 5, 6, 8] [] hx (le_upd2 (le_ok (p := 7) (L := 8) rfl (u 7 rfl).1) (o1 (.own rfl))) (ac (oq 7 8 (u 7 rfl) 0) (ac (oq 7 8 (u 7 rfl) 1) (ac (oq 7 8 (u 7 rfl) 2) (ac (oq 7 8 (u 7 rfl) 3) (ac (.none _) (ac (oq 7 8 (u 7 rfl) 5) (ac (.cells (fun _ => rfl) (all2_row _)) (ac (.cells id (all2_row _)) an))))))))) k
         ·intro K _ f w u k
          show Wp K ⟨54, (upd 54 f 43 (rf 0 0)), [_, _, _, _, _, _, _, _]⟩
          refine s_nilCheck (d := (rf 0 0)) rfl (.inl ⟨_, _, rfl⟩) k
         ·intro K _ f w u k
          show Wp K ⟨54, (upd 54 f 52 (rf 0 0)), [_, _, _, _, _, _, _, _]⟩
          refine s_fieldRef F.fo_27_2 (by decide) rfl k
         ·intro K _ f w u k
          show Wp K ⟨54, (upd 54 (upd 54 f 53 (rf 0 2)) 51 (D.one (C.own 7 0 ((r17.2.l ++ ([r30] : List (List Int))).length) 1))), [(o_journal_Journal_02 false (C.ref 1 0) (C.own 4 0 r17.2.l.length 1) r17.2), _, _, _, _, _, _, _]⟩
          refine s_store (cs' := [(C.ref 1 0), (cl_ e_u8 r17.2.snap), (C.own 7 0 ((r17.2.l ++ ([r30] : List (List Int))).length) 1), (cb r17.2.stopped)]) rfl rfl rfl (List.cons_ne_nil _ _) rfl F.sz_25 (nl rfl) rfl k
        ·refine AWops.weak (st' := ⟨54, topF, [(o_journal_Journal_02 false (C.ref 1 0) (C.own 4 0 ((r17.2.l ++ ([r30] : List (List Int))).length) 1) r17.2), (some (AObj.cells false [(C.mp 2), (ci x24), (ci x25), np, (cb x26)])), (om_ e_vdisk_file x27), none, (some (AObj.cells false (rowC (e_sl e_u8) (r17.2.l ++ ([r30] : List (List Int))))))]⟩) (wg 4 [0, 1, 2, 3, 7] [] hx (le_top _) (ac (.cells id (ac (.ref rfl) (ac .same (ac (.own rfl) (ac .sc an))))) (ac (qs rfl) (ac .map (ac (.none _) (ac (.cells id (all2_row _)) an)))))) (AWops.nil (AW.seq (AW.region ?_)))
         refine s_assign (d := (si 0)) rfl (AWops.nil (AW.ret ?_))
         obtain rfl := Option.some.inj h
         exact ⟨_, rfl, (wg 4 [0, 1, 2, 3, 4] [] rfl (le_upd (le_top _) (o1 .sc)) (ac (.cells id (ac (.ref rfl) (ac .same (ac (.own rfl) (ac .sc an))))) (ac (qs rfl) (ac .map (ac (.none _) (ac (.cells id (all2_row _)) an))))))⟩
mutual
def journal_Journal_Records_fresh.l0 : Nat → (List (List Int)) → Int → (Bool × journal_Journal) → Option ((List (List Int)) × journal_Journal)
 | 0, _, _, _ => none
 | k + 1, x3, x4, r1 => if (decide (x4 < (r1.2.l.length : Int))) = true then ((rd r1.2.l x4).bind fun v6 => (slices_Clone_byte_byte.f k v6).bind fun r8 => if (decide (x3.length + ([r8] : List (List Int)).length ≤ 5864062014805)) = true then (journal_Journal_Records_fresh.l0 k (x3 ++ ([r8] : List (List Int))) (IntKind.i64.wrap (x4 + 1)) r1) else none) else (some (x3, (⟨(), r1.2.snap, r1.2.l, r1.2.stopped⟩ : journal_Journal)))
end
def journal_Journal_Records_fresh.f (k : Nat) (p0 : journal_Journal) (p1 : vdisk_Disk) : Option ((List (List Int)) × journal_Journal) := (journal_Journal_none_fresh.f k (⟨(), p0.snap, p0.l, p0.stopped⟩ : journal_Journal) p1).bind fun r1 => if r1.1 = true then (some (([] : List (List Int)), (⟨(), r1.2.snap, r1.2.l, r1.2.stopped⟩ : journal_Journal))) else (journal_Journal_Records_fresh.l0 k ([] : List (List Int)) 0 r1)
theorem journal_Journal_Records_fresh.meets (k : Nat) (p0 : journal_Journal) (p1 : vdisk_Disk) (r : (List (List Int)) × journal_Journal) (h : journal_Journal_Records_fresh.f k p0 p1 = some r) : Meets Try.prog 10 [(rf 0 0)] [(o_journal_Journal_02 false (C.ref 1 0) (C.own 2 0 p0.l.length 1) p0), (o_vdisk_Disk_03 false (C.mp 3) np p1), (some (AObj.cells false (rowC (e_sl e_u8) p0.l))), (om_ e_vdisk_file p1.files)] (D.one (C.own 4 0 r.1.length 1)) [(o_journal_Journal_02 false (C.ref 1 0) (C.own 2 0 r.2.l.length 1) r.2), (o_vdisk_Disk_03 false (C.mp 3) np p1), (some (AObj.cells false (rowC (e_sl e_u8) r.2.l))), (om_ e_vdisk_file p1.files), (some (AObj.cells true (rowC (e_sl e_u8) r.1)))] := by
 unfold journal_Journal_Records_fresh.f at h
 refine Meets.of_body (n := 24) Try.func10 rfl rfl (nl rfl) fun x hx => ?_
 replace hx : x.k = 4 := hx
 show AW _ x _ _ ⟨24, fr0 [(rf 0 0)], [(o_journal_Journal_02 false (C.ref 1 0) (C.own 2 0 p0.l.length 1) p0), (o_vdisk_Disk_03 false (C.mp 3) np p1), (some (AObj.cells false (rowC (e_sl e_u8) p0.l))), (om_ e_vdisk_file p1.files)]⟩
 refine AW.seq (AW.region ?_)
 refine s_assign (d := (sc (.slice none 0 0))) rfl (AWops.nil (AW.seq (AW.seq (AW.region ?_))))
 refine s_move (d := (rf 0 0)) rfl ?_
 obtain ⟨r1, er1, h⟩ := bnd h
 refine cc [0, 1, 2, 3] [(o_journal_Journal_02 false (C.ref 1 0) (C.own 2 0 r1.2.l.length 1) r1.2), (o_vdisk_Disk_03 false (C.mp 3) np p1), (some (AObj.cells false (rowC (e_sl e_u8) r1.2.l))), (om_ e_vdisk_file p1.files)] (sb r1.1) F.ca_30 rfl rfl (ac (.one (.ref rfl)) an) (ac (.cells (ac (.ref rfl) (ac .imm (ac (.own rfl) (ac .sc an))))) (ac (.cells (ac (.mp rfl) (ac .sc (ac .sc (ac .sc (ac .sc an)))))) (ac (.cells (lend_row _)) (ac .map an)))) (journal_Journal_none_fresh.meets _ (⟨(), p0.snap, p0.l, p0.stopped⟩ : journal_Journal) p1 r1 er1) (AWops.nil ?_)
 rcases itH h with ⟨c2, h⟩ | ⟨c2, h⟩
 ·refine AW.cond_yes rfl c2 (AW.seq (AW.region ?_))
  refine s_assign (d := (sc (.slice none 0 0))) rfl (AWops.nil (AW.ret ?_))
  obtain rfl := Option.some.inj h
  exact ⟨_, rfl, (Weak.trans (Weak.nil (sz := 1) (i := 0) rfl) (wg 4 [0, 1, 2, 3, 4] [] rfl (le_upd (le_top _) (o1 (CLe.ownN rfl (by simp)))) (ac (.cells id (ac (.ref rfl) (ac .same (ac (.own rfl) (ac .sc an))))) (ac (qs rfl) (ac (.cells id (all2_row _)) (ac .map (ac (.cells (fun _ => rfl) an) an)))))))⟩
 ·refine AW.cond_no rfl c2 (AW.skip (AW.seq (AW.region ?_)))
  refine s_assign (d := (sc (.slice none 0 0))) rfl (AWops.nil (AW.seq (AW.seq (AW.region ?_))))
  refine s_move (d := (rf 0 0)) rfl (s_nilCheck (d := (rf 0 0)) rfl (.inl ⟨_, _, rfl⟩) (s_fieldRef F.fo_27_2 (by decide) rfl (s_load1 (c' := (C.own 2 0 r1.2.l.length 1)) F.ag_25 rfl rfl (s_len (n := r1.2.l.length) F.u_25 rfl (.inr ⟨(fun _ _ h => by cases h), ⟨_, rfl⟩⟩) (s_move (d := (si 0)) rfl (AWops.nil (AW.block ?_)))))))
  refine AW.loopw (st0 := ⟨24, (upd 24 (upd 24 (upd 24 (upd 24 topF 3 (D.one (C.own 4 0 ([] : List (List Int)).length 1))) 11 (D.one (C.own 2 0 r1.2.l.length 1))) 12 (si (r1.2.l.length : Int))) 13 (si 0)), [(o_journal_Journal_02 false (C.ref 1 0) (C.own 2 0 r1.2.l.length 1) r1.2), (o_vdisk_Disk_03 false (C.mp 3) np p1), (some (AObj.cells false (rowC (e_sl e_u8) r1.2.l))), (om_ e_vdisk_file p1.files), (some (AObj.cells true (rowC (e_sl e_u8) ([] : List (List Int)))))]⟩) (fun kv st => kv ≤ k ∧ ∃ (x3 : List (List Int)) (x4 : Int), journal_Journal_Records_fresh.l0 kv x3 x4 r1 = some r ∧ st = ⟨24, (upd 24 (upd 24 (upd 24 (upd 24 topF 3 (D.one (C.own 4 0 x3.length 1))) 11 (D.one (C.own 2 0 r1.2.l.length 1))) 12 (si (r1.2.l.length : Int))) 13 (si x4)), [(o_journal_Journal_02 false (C.ref 1 0) (C.own 2 0 r1.2.l.length 1) r1.2), (o_vdisk_Disk_03 false (C.mp 3) np p1), (some (AObj.cells false (rowC (e_sl e_u8) r1.2.l))), (om_ e_vdisk_file p1.files), (some (AObj.cells true (rowC (e_sl e_u8) x3)))]⟩) (k := k) (Weak.trans (Weak.nil (sz := 1) (i := 3) rfl) (wg 4 [0, 1, 2, 3, 4] [] hx (le_upd (le_upd (le_upd (le_upd (le_top _) (o1 (.own rfl))) (o1 (.own rfl))) (o1 .sc)) (o1 .sc)) (ac (.cells id (ac (.ref rfl) (ac .same (ac (.own rfl) (ac .sc an))))) (ac (qs rfl) (ac (.cells id (all2_row _)) (ac .map (ac (.cells (fun _ => rfl) an) an))))))) ⟨Nat.le_refl _, ([] : List (List Int)), 0, h, rfl⟩ ?_
  rintro ql0 st ⟨hkl0, x3, x4, h, rfl⟩
  cases ql0 with
  | zero => exact absurd h (by simp [journal_Journal_Records_fresh.l0])
  | succ ql0 =>
   replace h := (journal_Journal_Records_fresh.l0.eq_2 _ _ _ _).symm.trans h
   refine AW.seq (AW.region ?_)
   refine s_binI (v := (.bool (decide (x4 < (r1.2.l.length : Int))))) rfl rfl rfl (AWops.nil (AW.seq ?_))
   rcases itH h with ⟨c5, h⟩ | ⟨c5, h⟩
   ·refine AW.cond_yes rfl c5 (AW.skip (AW.seq (AW.block (AW.seq (AW.region ?_)))))
    obtain ⟨v6, ev6, h⟩ := bnd h
    obtain ⟨pv6, qv6, gv6⟩ := rd_some ev6
    refine s_indexOwn (d := (D.one (C.ref 2 (0 + x4.toNat * 1)))) F.u_25 F.sz_22 rfl rfl pv6 qv6 rfl ?_
    obtain ⟨R7, hR7⟩ := row_at (f := (e_sl e_u8)) (sz := 1) (o := 0) (e_sl_len _) gv6 (e_sl_eq _ v6) (by decide)
    refine s_load1 (c' := (cl_ e_u8 v6)) F.ag_22 (congrArg some hR7) rfl (s_assign (d := (ds_ e_u8 v6)) rfl (AWops.nil (AW.region (s_move (d := (D.one (C.own 4 0 x3.length 1))) rfl (s_move (d := (ds_ e_u8 v6)) rfl ?_)))))
    obtain ⟨r8, er8, h⟩ := bnd h
    refine cc [] [(o_journal_Journal_02 false (C.ref 1 0) (C.own 2 0 r1.2.l.length 1) r1.2), (o_vdisk_Disk_03 false (C.mp 3) np p1), (some (AObj.cells false (rowC (e_sl e_u8) r1.2.l))), (om_ e_vdisk_file p1.files), (some (AObj.cells true (rowC (e_sl e_u8) x3))), (ow_ e_u8 r8)] (D.one (C.own 5 0 r8.length 1)) F.ca_28 rfl rfl (ac (.one .imm) an) an (slices_Clone_byte_byte.meets _ v6 r8 er8) ?_
    refine AWops.weak (st' := ⟨24, (upd 24 (upd 24 (upd 24 (upd 24 (upd 24 (upd 24 (upd 24 (upd 24 (upd 24 (upd 24 (upd 24 topF 3 (D.one (C.own 4 0 x3.length 1))) 5 (ds_ e_u8 v6)) 11 (D.one (C.own 2 0 r1.2.l.length 1))) 12 (si (r1.2.l.length : Int))) 13 (si x4)) 14 (sb (decide (x4 < (r1.2.l.length : Int))))) 15 (D.one (C.ref 2 (0 + x4.toNat * 1)))) 16 (ds_ e_u8 v6)) 17 (D.one (C.own 4 0 x3.length 1))) 18 (ds_ e_u8 v6)) 19 (ds_ e_u8 r8)), [(o_journal_Journal_02 false (C.ref 1 0) (C.own 2 0 r1.2.l.length 1) r1.2), (o_vdisk_Disk_03 false (C.mp 3) np p1), (some (AObj.cells false (rowC (e_sl e_u8) r1.2.l))), (om_ e_vdisk_file p1.files), (some (AObj.cells true (rowC (e_sl e_u8) x3)))]⟩) (wg 4 [0, 1, 2, 3, 4] [5] hx (le_upd (le_upd (le_upd (le_upd (le_upd (le_upd (le_upd (le_upd (le_upd (le_upd (le_upd (le_top _) (o1 (.own rfl))) (o1 .same)) (o1 (.own rfl))) (o1 .sc)) (o1 .sc)) (o1 .sc)) (o1 (.ref rfl))) (o1 .same)) (o1 (.own rfl))) (o1 .same)) (o1 (CLe.frz e_u8_len rfl rfl rfl))) (ac (.cells id (ac (.ref rfl) (ac .same (ac (.own rfl) (ac .sc an))))) (ac (qs rfl) (ac (.cells id (all2_row _)) (ac .map (ac (.cells (fun _ => rfl) (all2_row _)) an)))))) ?_
    refine s_buildSlice (n := 1) (ps := [(0, (ds_ e_u8 r8))]) (cs := rowC (e_sl e_u8) ([r8] : List (List Int))) F.u_25 F.sz_22 F.z_22 rfl rfl (by decide) (by decide) rfl rfl ?_
    obtain ⟨c9, h⟩ := gdH h
    have dc9 := of_decide_eq_true c9
    refine t_append (xs := x3) (ys := ([r8] : List (List Int))) (zs := x3 ++ ([r8] : List (List Int))) (H' := [(o_journal_Journal_02 false (C.ref 1 0) (C.own 2 0 r1.2.l.length 1) r1.2), (o_vdisk_Disk_03 false (C.mp 3) np p1), (some (AObj.cells false (rowC (e_sl e_u8) r1.2.l))), (om_ e_vdisk_file p1.files), none, (some (AObj.cells true (rowC (e_sl e_u8) ([r8] : List (List Int))))), (some (AObj.cells true (rowC (e_sl e_u8) (x3 ++ ([r8] : List (List Int))))))]) F.u_25 F.in_22 rfl (e_sl_len _) (.own rfl rfl) (.own rfl rfl) F.u_25 (by omega) (by omega) rfl rfl (s_assign (d := (D.one (C.own 6 0 ((x3 ++ ([r8] : List (List Int))).length) 1))) rfl (AWops.nil (AW.region (s_binI (v := (.int .i64 (IntKind.i64.wrap (x4 + 1)))) rfl rfl rfl (s_move (d := (si (IntKind.i64.wrap (x4 + 1)))) rfl (AWops.nil ?_))))))
    exact ⟨_, ⟨24, (upd 24 (upd 24 (upd 24 (upd 24 topF 3 (D.one (C.own 4 0 (x3 ++ ([r8] : List (List Int))).length 1))) 11 (D.one (C.own 2 0 r1.2.l.length 1))) 12 (si (r1.2.l.length : Int))) 13 (si (IntKind.i64.wrap (x4 + 1)))), [(o_journal_Journal_02 false (C.ref 1 0) (C.own 2 0 r1.2.l.length 1) r1.2), (o_vdisk_Disk_03 false (C.mp 3) np p1), (some (AObj.cells false (rowC (e_sl e_u8) r1.2.l))), (om_ e_vdisk_file p1.files), (some (AObj.cells true (rowC (e_sl e_u8) (x3 ++ ([r8] : List (List Int))))))]⟩, by omega, (wg 4 [0, 1, 2, 3, 6] [] hx (le_upd (le_upd (le_upd (le_upd (le_top _) (o1 (.own rfl))) (o1 (.own rfl))) (o1 .sc)) (o1 .sc)) (ac (.cells id (ac (.ref rfl) (ac .same (ac (.own rfl) (ac .sc an))))) (ac (qs rfl) (ac (.cells id (all2_row _)) (ac .map (ac (.cells (fun _ => rfl) (all2_row _)) an)))))), by omega, x3 ++ ([r8] : List (List Int)), IntKind.i64.wrap (x4 + 1), h, rfl⟩
   ·refine AW.cond_no rfl c5 (AW.exit (AW.seq (AW.region ?_)))
    refine s_move (d := (D.one (C.own 4 0 x3.length 1))) rfl (s_assign (d := (D.one (C.own 4 0 x3.length 1))) rfl (AWops.nil (AW.ret ?_)))
    obtain rfl := Option.some.inj h
    exact ⟨_, rfl, (wg 4 [0, 1, 2, 3, 4] [] rfl (le_upd (le_top _) (o1 (.own rfl))) (ac (.cells id (ac (.ref rfl) (ac .same (ac (.own rfl) (ac .sc an))))) (ac (qs rfl) (ac (.cells id (all2_row _)) (ac .map (ac (.cells (fun _ => rfl) (all2_row _)) an))))))⟩
def journal_Journal_Snapshot_fresh.f (k : Nat) (p0 : journal_Journal) (p1 : vdisk_Disk) : Option ((List Int) × journal_Journal) := (journal_Journal_none_fresh.f k (⟨(), p0.snap, p0.l, p0.stopped⟩ : journal_Journal) p1).bind fun r1 => if r1.1 = true then (some (([] : List Int), (⟨(), r1.2.snap, r1.2.l, r1.2.stopped⟩ : journal_Journal))) else ((slices_Clone_byte_byte.f k r1.2.snap).bind fun r3 => some (r3, (⟨(), r1.2.snap, r1.2.l, r1.2.stopped⟩ : journal_Journal)))
theorem journal_Journal_Snapshot_fresh.meets (k : Nat) (p0 : journal_Journal) (p1 : vdisk_Disk) (r : (List Int) × journal_Journal) (h : journal_Journal_Snapshot_fresh.f k p0 p1 = some r) : Meets Try.prog 9 [(rf 0 0)] [(o_journal_Journal_02 false (C.ref 1 0) (C.own 2 0 p0.l.length 1) p0), (o_vdisk_Disk_03 false (C.mp 3) np p1), (some (AObj.cells false (rowC (e_sl e_u8) p0.l))), (om_ e_vdisk_file p1.files)] (D.one (C.own 4 0 r.1.length 1)) [(o_journal_Journal_02 false (C.ref 1 0) (C.own 2 0 r.2.l.length 1) r.2), (o_vdisk_Disk_03 false (C.mp 3) np p1), (some (AObj.cells false (rowC (e_sl e_u8) r.2.l))), (om_ e_vdisk_file p1.files), (ow_ e_u8 r.1)] := by
 unfold journal_Journal_Snapshot_fresh.f at h
 refine Meets.of_body (n := 10) Try.func9 rfl rfl (nl rfl) fun x hx => ?_
 replace hx : x.k = 4 := hx
 show AW _ x _ _ ⟨10, fr0 [(rf 0 0)], [(o_journal_Journal_02 false (C.ref 1 0) (C.own 2 0 p0.l.length 1) p0), (o_vdisk_Disk_03 false (C.mp 3) np p1), (some (AObj.cells false (rowC (e_sl e_u8) p0.l))), (om_ e_vdisk_file p1.files)]⟩
 refine AW.seq (AW.region ?_)
 refine s_assign (d := (sc (.slice none 0 0))) rfl (AWops.nil (AW.seq (AW.seq (AW.region ?_))))
 refine s_move (d := (rf 0 0)) rfl ?_
 obtain ⟨r1, er1, h⟩ := bnd h
 refine cc [0, 1, 2, 3] [(o_journal_Journal_02 false (C.ref 1 0) (C.own 2 0 r1.2.l.length 1) r1.2), (o_vdisk_Disk_03 false (C.mp 3) np p1), (some (AObj.cells false (rowC (e_sl e_u8) r1.2.l))), (om_ e_vdisk_file p1.files)] (sb r1.1) F.ca_30 rfl rfl (ac (.one (.ref rfl)) an) (ac (.cells (ac (.ref rfl) (ac .imm (ac (.own rfl) (ac .sc an))))) (ac (.cells (ac (.mp rfl) (ac .sc (ac .sc (ac .sc (ac .sc an)))))) (ac (.cells (lend_row _)) (ac .map an)))) (journal_Journal_none_fresh.meets _ (⟨(), p0.snap, p0.l, p0.stopped⟩ : journal_Journal) p1 r1 er1) (AWops.nil ?_)
 rcases itH h with ⟨c2, h⟩ | ⟨c2, h⟩
 ·refine AW.cond_yes rfl c2 (AW.seq (AW.region ?_))
  refine s_assign (d := (sc (.slice none 0 0))) rfl (AWops.nil (AW.ret ?_))
  obtain rfl := Option.some.inj h
  exact ⟨_, rfl, (Weak.trans (Weak.nil (sz := 1) (i := 0) rfl) (wg 4 [0, 1, 2, 3, 4] [] rfl (le_upd (le_top _) (o1 (CLe.ownN rfl (by simp)))) (ac (.cells id (ac (.ref rfl) (ac .same (ac (.own rfl) (ac .sc an))))) (ac (qs rfl) (ac (.cells id (all2_row _)) (ac .map (ac (.cells (fun _ => rfl) an) an)))))))⟩
 ·refine AW.cond_no rfl c2 (AW.skip (AW.seq (AW.region ?_)))
  refine s_move (d := (rf 0 0)) rfl (s_nilCheck (d := (rf 0 0)) rfl (.inl ⟨_, _, rfl⟩) (s_fieldRef F.fo_27_1 (by decide) rfl (s_load1 (c' := (cl_ e_u8 r1.2.snap)) F.ag_22 rfl rfl ?_)))
  obtain ⟨r3, er3, h⟩ := bnd h
  refine cc [] [(o_journal_Journal_02 false (C.ref 1 0) (C.own 2 0 r1.2.l.length 1) r1.2), (o_vdisk_Disk_03 false (C.mp 3) np p1), (some (AObj.cells false (rowC (e_sl e_u8) r1.2.l))), (om_ e_vdisk_file p1.files), (ow_ e_u8 r3)] (D.one (C.own 4 0 r3.length 1)) F.ca_28 rfl rfl (ac (.one .imm) an) an (slices_Clone_byte_byte.meets _ r1.2.snap r3 er3) (s_assign (d := (D.one (C.own 4 0 r3.length 1))) rfl (AWops.nil (AW.ret ?_)))
  obtain rfl := Option.some.inj h
  exact ⟨_, rfl, (wg 4 [0, 1, 2, 3, 4] [] rfl (le_upd (le_top _) (o1 (.own rfl))) (ac (.cells id (ac (.ref rfl) (ac .same (ac (.own rfl) (ac .sc an))))) (ac (qs rfl) (ac (.cells id (all2_row _)) (ac .map (ac (.cells (fun _ => rfl) (all2_row _)) an))))))⟩
def vdisk_Disk_Fuse.f (k : Nat) (p0 : vdisk_Disk) (a1 : Int) : Option (Int × vdisk_Disk × Int) := (vdisk_Disk_none.f k p0).bind fun r1 => if (decide (a1 < 0)) = true then (none) else (some (0, p0, a1))
theorem vdisk_Disk_Fuse.meets (k : Nat) (p0 : vdisk_Disk) (a1 : Int) (r : Int × vdisk_Disk × Int) (h : vdisk_Disk_Fuse.f k p0 a1 = some r) : Meets Try.prog 15 [(rf 0 0), (si a1)] [(o_vdisk_Disk_03 false (C.mp 1) np p0), (om_ e_vdisk_file p0.files)] (si r.1) [(o_vdisk_Disk_03 false (C.mp 1) (C.ref 2 0) r.2.1), (om_ e_vdisk_file r.2.1.files), (bx r.2.2)] := by
 unfold vdisk_Disk_Fuse.f at h
 refine Meets.of_body (n := 14) Try.func15 rfl rfl (nl rfl) fun x hx => ?_
 replace hx : x.k = 2 := hx
 show AW _ x _ _ ⟨14, fr0 [(rf 0 0), (si a1)], [(o_vdisk_Disk_03 false (C.mp 1) np p0), (om_ e_vdisk_file p0.files)]⟩
 refine AW.seq (AW.region ?_)
 refine s_box (cs := [(ci a1)]) rfl (List.cons_ne_nil _ _) rfl (s_assign (d := (si 0)) rfl (AWops.nil (AW.seq (AW.block (AW.seq (AW.region (s_move (d := (rf 0 0)) rfl ?_)))))))
 obtain ⟨r1, er1, h⟩ := bnd h
 have kr1 := vdisk_Disk_none.const er1
 subst kr1
 refine cc [0, 1] [(o_vdisk_Disk_03 false (C.mp 1) np p0), (om_ e_vdisk_file p0.files), (some (AObj.cells true [(ci a1)]))] (sb false) F.ca_34 rfl rfl (ac (.one (.ref rfl)) an) (ac (.cells (ac (.mp rfl) (ac .sc (ac .sc (ac .sc (ac .sc an)))))) (ac .map an)) (vdisk_Disk_none.meets _ p0 false er1) (s_assign (d := (sb false)) rfl (AWops.nil ?_))
 refine AW.cond_no rfl rfl (AW.seq (AW.region ?_))
 refine s_load1 (c' := (ci a1)) F.ag_3 rfl rfl (s_binI (v := (.bool (decide (a1 < 0)))) rfl rfl rfl (s_assign (d := (sb (decide (a1 < 0)))) rfl (AWops.nil ?_)))
 rcases itH h with ⟨c2, h⟩ | ⟨c2, h⟩
 ·refine AW.cond_yes rfl c2 (AW.seq (AW.region ?_))
  refine s_assign (d := (si 1)) rfl (AWops.nil (AW.ret ?_))
  cases h
 ·refine AW.cond_no rfl c2 (AW.skip (AW.seq (AW.region ?_)))
  refine s_move (d := (rf 0 0)) rfl (s_nilCheck (d := (rf 0 0)) rfl (.inl ⟨_, _, rfl⟩) (s_fieldRef F.fo_37_3 (by decide) rfl (s_store (cs' := [(C.mp 1), (ci p0.room), (ci p0.used), (C.ref 2 0), (cb p0.dead)]) rfl rfl rfl (List.cons_ne_nil _ _) rfl F.sz_35 (nl rfl) rfl (AWops.nil (AW.seq (AW.region (s_assign (d := (si 0)) rfl (AWops.nil (AW.ret ?_)))))))))
  obtain rfl := Option.some.inj h
  exact ⟨_, rfl, (wg 2 [0, 1, 2] [] rfl (le_upd (le_top _) (o1 .sc)) (ac (qr rfl rfl) (ac .map (ac (.cells (fun _ => rfl) (ac .sc an)) an))))⟩
def journal_Journal_none_fresh_30.f (k : Nat) (p0 : journal_Journal) (p1 : vdisk_Disk) (p4 : Int) : Option (Bool × journal_Journal) := some (false, (⟨(), p0.snap, p0.l, p0.stopped⟩ : journal_Journal))
theorem journal_Journal_none_fresh_30.meets (k : Nat) (p0 : journal_Journal) (p1 : vdisk_Disk) (p4 : Int) (r : Bool × journal_Journal) (h : journal_Journal_none_fresh_30.f k p0 p1 p4 = some r) : Meets Try.prog 30 [(rf 0 0)] [(o_journal_Journal_02 false (C.ref 1 0) (C.own 2 0 p0.l.length 1) p0), (o_vdisk_Disk_03 false (C.mp 3) (C.ref 4 0) p1), (some (AObj.cells false (rowC (e_sl e_u8) p0.l))), (om_ e_vdisk_file p1.files), (bx p4)] (sb r.1) [(o_journal_Journal_02 false (C.ref 1 0) (C.own 2 0 r.2.l.length 1) r.2), (o_vdisk_Disk_03 false (C.mp 3) (C.ref 4 0) p1), (some (AObj.cells false (rowC (e_sl e_u8) r.2.l))), (om_ e_vdisk_file p1.files), (bx p4)] := by
 unfold journal_Journal_none_fresh_30.f at h
 refine Meets.of_body (n := 12) Try.func30 rfl rfl (nl rfl) fun x hx => ?_
 replace hx : x.k = 5 := hx
 show AW _ x _ _ ⟨12, fr0 [(rf 0 0)], [(o_journal_Journal_02 false (C.ref 1 0) (C.own 2 0 p0.l.length 1) p0), (o_vdisk_Disk_03 false (C.mp 3) (C.ref 4 0) p1), (some (AObj.cells false (rowC (e_sl e_u8) p0.l))), (om_ e_vdisk_file p1.files), (bx p4)]⟩
 refine AW.seq (AW.region ?_)
 refine s_assign (d := (sb false)) rfl (AWops.nil (AW.seq (AW.region ?_)))
 refine s_move (d := (rf 0 0)) rfl (s_ptrNil (b := false) F.u_23 rfl (.inl ⟨⟨_, _, rfl⟩, rfl⟩) (.inl rfl) (s_move (d := (sb false)) rfl ?_))
 refine AWops.guard_yes rfl (nl rfl) rfl rfl ?_
 refine s_move (d := (rf 0 0)) rfl ?_
 refine AWops.guard_yes rfl (nl rfl) rfl rfl ?_
 refine s_nilCheck (d := (rf 0 0)) rfl (.inl ⟨_, _, rfl⟩) ?_
 refine AWops.guard_yes rfl (nl rfl) rfl rfl ?_
 refine s_fieldRef F.fo_27_0 (by decide) rfl ?_
 refine AWops.guard_yes rfl (nl rfl) rfl rfl ?_
 refine s_load1 (c' := (C.ref 1 0)) F.ag_24 rfl rfl ?_
 refine AWops.guard_yes rfl (nl rfl) rfl rfl ?_
 refine s_ptrNil (b := false) F.u_24 rfl (.inl ⟨⟨_, _, rfl⟩, rfl⟩) (.inl rfl) (s_pick_no (d := (sb false)) rfl rfl rfl (s_assign (d := (sb false)) rfl (AWops.nil (AW.ret ?_))))
 obtain rfl := Option.some.inj h
 exact ⟨_, rfl, (wg 5 [0, 1, 2, 3, 4] [] rfl (le_upd (le_top _) (o1 .sc)) (ac (.cells id (ac (.ref rfl) (ac .same (ac (.own rfl) (ac .sc an))))) (ac (qr rfl rfl) (ac (.cells id (all2_row _)) (ac .map (ac qb an))))))⟩
def journal_Journal_may_fresh_24.f (k : Nat) (p0 : journal_Journal) (a1 : Bool) (p1 : vdisk_Disk) (p4 : Int) : Option (Int × journal_Journal) := (journal_Journal_none_fresh_30.f k (⟨(), p0.snap, p0.l, p0.stopped⟩ : journal_Journal) p1 p4).bind fun r1 => if r1.1 = true then (some (2, (⟨(), r1.2.snap, r1.2.l, r1.2.stopped⟩ : journal_Journal))) else (if a1 = true then (if r1.2.stopped = true then (some (70, (⟨(), r1.2.snap, r1.2.l, r1.2.stopped⟩ : journal_Journal))) else (some (0, (⟨(), r1.2.snap, r1.2.l, r1.2.stopped⟩ : journal_Journal)))) else (some (1, (⟨(), r1.2.snap, r1.2.l, r1.2.stopped⟩ : journal_Journal))))
theorem journal_Journal_may_fresh_24.meets (k : Nat) (p0 : journal_Journal) (a1 : Bool) (p1 : vdisk_Disk) (p4 : Int) (r : Int × journal_Journal) (h : journal_Journal_may_fresh_24.f k p0 a1 p1 p4 = some r) : Meets Try.prog 24 [(rf 0 0), (sb a1)] [(o_journal_Journal_02 false (C.ref 1 0) (C.own 2 0 p0.l.length 1) p0), (o_vdisk_Disk_03 false (C.mp 3) (C.ref 4 0) p1), (some (AObj.cells false (rowC (e_sl e_u8) p0.l))), (om_ e_vdisk_file p1.files), (bx p4)] (si r.1) [(o_journal_Journal_02 false (C.ref 1 0) (C.own 2 0 r.2.l.length 1) r.2), (o_vdisk_Disk_03 false (C.mp 3) (C.ref 4 0) p1), (some (AObj.cells false (rowC (e_sl e_u8) r.2.l))), (om_ e_vdisk_file p1.files), (bx p4)] := by
 unfold journal_Journal_may_fresh_24.f at h
 refine Meets.of_body (n := 16) Try.func24 rfl rfl (nl rfl) fun x hx => ?_
 replace hx : x.k = 5 := hx
 show AW _ x _ _ ⟨16, fr0 [(rf 0 0), (sb a1)], [(o_journal_Journal_02 false (C.ref 1 0) (C.own 2 0 p0.l.length 1) p0), (o_vdisk_Disk_03 false (C.mp 3) (C.ref 4 0) p1), (some (AObj.cells false (rowC (e_sl e_u8) p0.l))), (om_ e_vdisk_file p1.files), (bx p4)]⟩
 refine AW.seq (AW.region ?_)
 refine s_assign (d := (si 0)) rfl (AWops.nil (AW.seq (AW.block (AW.seq (AW.region ?_)))))
 refine s_move (d := (rf 0 0)) rfl ?_
 obtain ⟨r1, er1, h⟩ := bnd h
 refine cc [0, 1, 2, 3, 4] [(o_journal_Journal_02 false (C.ref 1 0) (C.own 2 0 r1.2.l.length 1) r1.2), (o_vdisk_Disk_03 false (C.mp 3) (C.ref 4 0) p1), (some (AObj.cells false (rowC (e_sl e_u8) r1.2.l))), (om_ e_vdisk_file p1.files), (bx p4)] (sb r1.1) F.ca_30 rfl rfl (ac (.one (.ref rfl)) an) (ac (.cells (ac (.ref rfl) (ac .imm (ac (.own rfl) (ac .sc an))))) (ac (.cells (ac (.mp rfl) (ac .sc (ac .sc (ac (.ref rfl) (ac .sc an)))))) (ac (.cells (lend_row _)) (ac .map (ac (.cells (ac .sc an)) an))))) (journal_Journal_none_fresh_30.meets _ (⟨(), p0.snap, p0.l, p0.stopped⟩ : journal_Journal) p1 p4 r1 er1) (s_assign (d := (sb r1.1)) rfl (AWops.nil ?_))
 rcases itH h with ⟨c2, h⟩ | ⟨c2, h⟩
 ·refine AW.cond_yes rfl c2 (AW.seq (AW.region ?_))
  refine s_assign (d := (si 2)) rfl (AWops.nil (AW.ret ?_))
  obtain rfl := Option.some.inj h
  exact ⟨_, rfl, (wg 5 [0, 1, 2, 3, 4] [] rfl (le_upd (le_top _) (o1 .sc)) (ac (.cells id (ac (.ref rfl) (ac .same (ac (.own rfl) (ac .sc an))))) (ac (qr rfl rfl) (ac (.cells id (all2_row _)) (ac .map (ac qb an))))))⟩
 ·refine AW.cond_no rfl c2 (AW.seq (AW.region ?_))
  refine s_move (d := (sb a1)) rfl (s_not rfl (s_assign (d := (sb (!a1))) rfl (AWops.nil ?_)))
  rcases itH h with ⟨c3, h⟩ | ⟨c3, h⟩
  ·refine AW.cond_no rfl (by rw [c3] <;> rfl) (AW.seq (AW.region ?_))
   refine s_move (d := (rf 0 0)) rfl (s_nilCheck (d := (rf 0 0)) rfl (.inl ⟨_, _, rfl⟩) (s_fieldRef F.fo_27_3 (by decide) rfl (s_load1 (c' := (cb r1.2.stopped)) F.ag_4 rfl rfl (s_assign (d := (sb r1.2.stopped)) rfl (AWops.nil ?_)))))
   rcases itH h with ⟨c4, h⟩ | ⟨c4, h⟩
   ·refine AW.cond_yes rfl c4 (AW.seq (AW.region ?_))
    refine s_assign (d := (si 70)) rfl (AWops.nil (AW.ret ?_))
    obtain rfl := Option.some.inj h
    exact ⟨_, rfl, (wg 5 [0, 1, 2, 3, 4] [] rfl (le_upd (le_top _) (o1 .sc)) (ac (.cells id (ac (.ref rfl) (ac .same (ac (.own rfl) (ac .sc an))))) (ac (qr rfl rfl) (ac (.cells id (all2_row _)) (ac .map (ac qb an))))))⟩
   ·refine AW.cond_no rfl c4 (AW.skip (AW.seq (AW.region ?_)))
    refine s_assign (d := (si 0)) rfl (AWops.nil (AW.ret ?_))
    obtain rfl := Option.some.inj h
    exact ⟨_, rfl, (wg 5 [0, 1, 2, 3, 4] [] rfl (le_upd (le_top _) (o1 .sc)) (ac (.cells id (ac (.ref rfl) (ac .same (ac (.own rfl) (ac .sc an))))) (ac (qr rfl rfl) (ac (.cells id (all2_row _)) (ac .map (ac qb an))))))⟩
  ·refine AW.cond_yes rfl (by rw [c3] <;> rfl) (AW.seq (AW.region ?_))
   refine s_assign (d := (si 1)) rfl (AWops.nil (AW.ret ?_))
   obtain rfl := Option.some.inj h
   exact ⟨_, rfl, (wg 5 [0, 1, 2, 3, 4] [] rfl (le_upd (le_top _) (o1 .sc)) (ac (.cells id (ac (.ref rfl) (ac .same (ac (.own rfl) (ac .sc an))))) (ac (qr rfl rfl) (ac (.cells id (all2_row _)) (ac .map (ac qb an))))))⟩
def vdisk_Disk_none_34.f (k : Nat) (p0 : vdisk_Disk) (p2 : Int) : Option Bool := some false
theorem vdisk_Disk_none_34.meets (k : Nat) (p0 : vdisk_Disk) (p2 : Int) (r : Bool) (h : vdisk_Disk_none_34.f k p0 p2 = some r) : Meets Try.prog 34 [(rf 0 0)] [(o_vdisk_Disk_03 false (C.mp 1) (C.ref 2 0) p0), (om_ e_vdisk_file p0.files), (bx p2)] (sb r) [(o_vdisk_Disk_03 false (C.mp 1) (C.ref 2 0) p0), (om_ e_vdisk_file p0.files), (bx p2)] := by
 unfold vdisk_Disk_none_34.f at h
 refine Meets.of_body (n := 12) Try.func34 rfl rfl (nl rfl) fun x hx => ?_
 replace hx : x.k = 3 := hx
 show AW _ x _ _ ⟨12, fr0 [(rf 0 0)], [(o_vdisk_Disk_03 false (C.mp 1) (C.ref 2 0) p0), (om_ e_vdisk_file p0.files), (bx p2)]⟩
 refine AW.seq (AW.region ?_)
 refine s_assign (d := (sb false)) rfl (AWops.nil (AW.seq (AW.region ?_)))
 refine s_move (d := (rf 0 0)) rfl (s_ptrNil (b := false) F.u_24 rfl (.inl ⟨⟨_, _, rfl⟩, rfl⟩) (.inl rfl) (s_move (d := (sb false)) rfl ?_))
 refine AWops.guard_yes rfl (nl rfl) rfl rfl ?_
 refine s_move (d := (rf 0 0)) rfl ?_
 refine AWops.guard_yes rfl (nl rfl) rfl rfl ?_
 refine s_nilCheck (d := (rf 0 0)) rfl (.inl ⟨_, _, rfl⟩) ?_
 refine AWops.guard_yes rfl (nl rfl) rfl rfl ?_
 refine s_fieldRef F.fo_37_0 (by decide) rfl ?_
 refine AWops.guard_yes rfl (nl rfl) rfl rfl ?_
 refine s_load1 (c' := (C.mp 1)) F.ag_34 rfl rfl ?_
 refine AWops.guard_yes rfl (nl rfl) rfl rfl ?_
 refine s_mapNil (b := false) F.u_34 rfl (.inr ⟨rfl, _, rfl⟩) (.inl ⟨rfl, rfl⟩) (s_pick_no (d := (sb false)) rfl rfl rfl (s_assign (d := (sb false)) rfl (AWops.nil (AW.ret ?_))))
 obtain rfl := Option.some.inj h
 exact ⟨_, rfl, (wg 3 [0, 1, 2] [] rfl (le_upd (le_top _) (o1 .sc)) (ac (qr rfl rfl) (ac .map (ac qb an))))⟩
theorem vdisk_Disk_none_34.const {k : Nat} {p0 : vdisk_Disk} {p2 : Int} {r : Bool} (h : vdisk_Disk_none_34.f k p0 p2 = some r) : r = false := by
 unfold vdisk_Disk_none_34.f at h
 exact (Option.some.inj h).symm
def vdisk_Disk_change_55.f (k : Nat) (p0 : vdisk_Disk) (a1 : Bool) (a2 : ByteArray) (a3 : Bool) (a4 : Int) (p2 : Int) : Option (Int × vdisk_Disk × Int) := (vdisk_Disk_none_34.f k p0 p2).bind fun r1 => if a1 = true then (if p0.dead = true then (some (70, p0, p2)) else (if ((mget a2 p0.files).isSome) = true then (if (decide (a4 > 0)) = true then (if (decide (a4 > (IntKind.i64.wrap (p0.room - p0.used)))) = true then (some (71, p0, p2)) else (if (p2 == 0) = true then (some (70, (⟨p0.files, p0.room, p0.used, (), true⟩ : vdisk_Disk), p2)) else (some (0, p0, IntKind.i64.wrap (p2 - 1))))) else (if (p2 == 0) = true then (some (70, (⟨p0.files, p0.room, p0.used, (), true⟩ : vdisk_Disk), p2)) else (some (0, p0, IntKind.i64.wrap (p2 - 1))))) else (if a3 = true then (if (decide (a4 > 0)) = true then (if (decide (a4 > (IntKind.i64.wrap (p0.room - p0.used)))) = true then (some (71, p0, p2)) else (if (p2 == 0) = true then (some (70, (⟨p0.files, p0.room, p0.used, (), true⟩ : vdisk_Disk), p2)) else (some (0, p0, IntKind.i64.wrap (p2 - 1))))) else (if (p2 == 0) = true then (some (70, (⟨p0.files, p0.room, p0.used, (), true⟩ : vdisk_Disk), p2)) else (some (0, p0, IntKind.i64.wrap (p2 - 1))))) else (some (33, p0, p2))))) else (some (1, p0, p2))
theorem vdisk_Disk_change_55.meets (k : Nat) (p0 : vdisk_Disk) (a1 : Bool) (a2 : ByteArray) (a3 : Bool) (a4 : Int) (p2 : Int) (r : Int × vdisk_Disk × Int) (h : vdisk_Disk_change_55.f k p0 a1 a2 a3 a4 p2 = some r) : Meets Try.prog 55 [(rf 0 0), (sb a1), (st_ a2), (sb a3), (si a4)] [(o_vdisk_Disk_03 false (C.mp 1) (C.ref 2 0) p0), (om_ e_vdisk_file p0.files), (bx p2)] (si r.1) [(o_vdisk_Disk_03 false (C.mp 1) (C.ref 2 0) r.2.1), (om_ e_vdisk_file r.2.1.files), (bx r.2.2)] := by
 unfold vdisk_Disk_change_55.f at h
 refine Meets.of_body (n := 77) Try.func55 rfl rfl (nl rfl) fun x hx => ?_
 replace hx : x.k = 3 := hx
 show AW _ x _ _ ⟨77, fr0 [(rf 0 0), (sb a1), (st_ a2), (sb a3), (si a4)], [(o_vdisk_Disk_03 false (C.mp 1) (C.ref 2 0) p0), (om_ e_vdisk_file p0.files), (bx p2)]⟩
 refine AW.seq (AW.region ?_)
 refine s_assign (d := (si 0)) rfl (AWops.nil (AW.seq (AW.block (AW.seq (AW.region ?_)))))
 refine s_move (d := (rf 0 0)) rfl ?_
 obtain ⟨r1, er1, h⟩ := bnd h
 have kr1 := vdisk_Disk_none_34.const er1
 subst kr1
 refine cc [0, 1, 2] [(o_vdisk_Disk_03 false (C.mp 1) (C.ref 2 0) p0), (om_ e_vdisk_file p0.files), (bx p2)] (sb false) F.ca_34 rfl rfl (ac (.one (.ref rfl)) an) (ac (.cells (ac (.mp rfl) (ac .sc (ac .sc (ac (.ref rfl) (ac .sc an)))))) (ac .map (ac (.cells (ac .sc an)) an))) (vdisk_Disk_none_34.meets _ p0 p2 false er1) (s_assign (d := (sb false)) rfl (AWops.nil ?_))
 refine AW.cond_no rfl rfl (AW.seq (AW.region ?_))
 refine s_move (d := (sb a1)) rfl (s_not rfl (s_assign (d := (sb (!a1))) rfl (AWops.nil ?_)))
 rcases itH h with ⟨c2, h⟩ | ⟨c2, h⟩
 ·refine AW.cond_no rfl (by rw [c2] <;> rfl) (AW.seq (AW.region ?_))
  refine s_move (d := (rf 0 0)) rfl (s_nilCheck (d := (rf 0 0)) rfl (.inl ⟨_, _, rfl⟩) (s_fieldRef F.fo_37_4 (by decide) rfl (s_load1 (c' := (cb p0.dead)) F.ag_4 rfl rfl (s_assign (d := (sb p0.dead)) rfl (AWops.nil ?_)))))
  rcases itH h with ⟨c3, h⟩ | ⟨c3, h⟩
  ·refine AW.cond_yes rfl c3 (AW.seq (AW.region ?_))
   refine s_assign (d := (si 70)) rfl (AWops.nil (AW.ret ?_))
   obtain rfl := Option.some.inj h
   exact ⟨_, rfl, (wg 3 [0, 1, 2] [] rfl (le_upd (le_top _) (o1 .sc)) (ac (qr rfl rfl) (ac .map (ac qb an))))⟩
  ·refine AW.cond_no rfl c3 (AW.skip (AW.seq (AW.seq (AW.region ?_))))
   refine s_move (d := (rf 0 0)) rfl (s_nilCheck (d := (rf 0 0)) rfl (.inl ⟨_, _, rfl⟩) (s_fieldRef F.fo_37_0 (by decide) rfl (s_load1 (c' := (C.mp 1)) F.ag_34 rfl rfl (s_move (d := (st_ a2)) rfl (t_lookupOk (b := true) F.u_34 F.u_9 F.z_79 (z := ((⟨([] : List Int), 0⟩ : vdisk_file) : vdisk_file)) (zs := [(.slice none 0 0), (.int .i64 0)]) rfl (fun h => by cases h) (ac ZRel.n (ac (ZRel.v _ rfl) an)) rfl rfl rfl rfl ?_)))))
   refine s_move (d := (D.tup [(D.agg (c_vdisk_file (lk_vdisk_file a2 p0.files))), (sb ((mget a2 p0.files).isSome))])) rfl (s_extract (d := (D.agg (c_vdisk_file (lk_vdisk_file a2 p0.files)))) rfl rfl (s_extract (d := (sb ((mget a2 p0.files).isSome))) rfl rfl (s_alloc (cs := [(C.p true (.v (.slice none 0 0))), (ci 0)]) F.z_79 rfl rfl (s_store (cs' := (c_vdisk_file (lk_vdisk_file a2 p0.files))) rfl rfl rfl (List.cons_ne_nil _ _) rfl F.sz_79 (nl rfl) rfl (s_assign (d := (sb ((mget a2 p0.files).isSome))) rfl (AWops.nil (AW.seq (AW.region ?_))))))))
   refine s_move (d := (sb ((mget a2 p0.files).isSome))) rfl (s_not rfl (s_move (d := (sb (!((mget a2 p0.files).isSome)))) rfl ?_))
   rcases itH h with ⟨c4, h⟩ | ⟨c4, h⟩
   ·refine AWops.guard_no rfl (nl rfl) rfl (by rw [c4] <;> rfl) ?_
    refine AWops.guard_no rfl (nl rfl) rfl (by rw [c4] <;> rfl) ?_
    refine s_pick_no (d := (sb false)) rfl (by rw [c4] <;> rfl) rfl (AWops.nil ?_)
    refine AW.cond_no rfl rfl (AW.skip (AW.seq (AW.seq ?_)))
    refine AW.weak (st' := ⟨77, (upd 77 (upd 77 topF 0 (rf 0 0)) 4 (si a4)), [(o_vdisk_Disk_03 false (C.mp 1) (C.ref 2 0) p0), (om_ e_vdisk_file p0.files), (bx p2)]⟩) (wg 3 [0, 1, 2] [] hx (le_upd (le_upd (le_top _) (o1 (.ref rfl))) (o1 .sc)) (ac (qr rfl rfl) (ac .map (ac qb an)))) ?_
    rcases itH h with ⟨c5, h⟩ | ⟨c5, h⟩
    ·refine AW.draw (n := 77) (L := 3) [(ft 0 39 (si a4) [(4, (si a4))]), (ft 1 40 (sb (decide (a4 > 0))) [(39, (si a4))]), (ft 2 41 (sb (decide (a4 > 0))) [(40, (sb (decide (a4 > 0))))]), (ft 3 42 (si a4) [(4, (si a4)), (41, (sb (decide (a4 > 0))))]), (ft 4 43 (rf 0 0) [(0, (rf 0 0)), (41, (sb (decide (a4 > 0))))]), (ft 5 44 (rf 0 0) [(41, (sb (decide (a4 > 0)))), (43, (rf 0 0))]), (ft 6 45 (rf 0 1) [(41, (sb (decide (a4 > 0)))), (44, (rf 0 0))]), (7, ⟨some 46, (si p0.room), [(41, (sb (decide (a4 > 0)))), (45, (rf 0 1))], [(0, (o_vdisk_Disk_03 false (C.mp 1) (C.ref 2 0) p0))], [], none⟩), (ft 8 47 (rf 0 0) [(0, (rf 0 0)), (41, (sb (decide (a4 > 0))))]), (ft 9 48 (rf 0 0) [(41, (sb (decide (a4 > 0)))), (47, (rf 0 0))]), (ft 10 49 (rf 0 2) [(41, (sb (decide (a4 > 0)))), (48, (rf 0 0))]), (11, ⟨some 50, (si p0.used), [(41, (sb (decide (a4 > 0)))), (49, (rf 0 2))], [(0, (o_vdisk_Disk_03 false (C.mp 1) (C.ref 2 0) p0))], [], none⟩), (ft 12 51 (si (IntKind.i64.wrap (p0.room - p0.used))) [(41, (sb (decide (a4 > 0)))), (46, (si p0.room)), (50, (si p0.used))]), (ft 13 52 (sb (decide (a4 > (IntKind.i64.wrap (p0.room - p0.used))))) [(41, (sb (decide (a4 > 0)))), (42, (si a4)), (51, (si (IntKind.i64.wrap (p0.room - p0.used))))]), (ft 14 53 (sb (decide (a4 > (IntKind.i64.wrap (p0.room - p0.used))))) [(41, (sb (decide (a4 > 0)))), (52, (sb (decide (a4 > (IntKind.i64.wrap (p0.room - p0.used))))))])] [[], [0], [0, 1], [0, 1, 2], [0, 1, 2], [0, 1, 2, 4], [0, 1, 2, 4, 5], [0, 1, 2, 4, 5, 6], [0, 1, 2], [0, 1, 2, 8], [0, 1, 2, 8, 9], [0, 1, 2, 8, 9, 10], [0, 1, 2, 4, 5, 6, 7, 8, 9, 10, 11], (.range 13), (.range 14)] (nl rfl) [0, 1, 2, 3, 3, 4, 5, 6, 3, 4, 5, 6, 7, 8, 9] rfl (TK := []) rfl AllK.nil' (by repeat (first | refine fC ⟨?_, ?_⟩ ?_ | refine sC rfl ?_ | refine hC rfl ?_ | trivial)) ?_ ?_
     ·refine y8 ?_ ?_ ?_ ?_ ?_ ?_ ?_ ?_ (y4 ?_ ?_ ?_ ?_ (y2 ?_ ?_ (pC ?_ yN)))
      ·intro K _ f w u k
       show Wp K ⟨77, (upd 77 f 4 (si a4)), _⟩
       refine s_move (d := (si a4)) rfl k
      ·intro K _ f w u k
       show Wp K ⟨77, (upd 77 f 39 (si a4)), _⟩
       refine s_binI (v := (.bool (decide (a4 > 0)))) rfl rfl rfl k
      ·intro K _ f w u k
       show Wp K ⟨77, (upd 77 f 40 (sb (decide (a4 > 0)))), _⟩
       refine s_move (d := (sb (decide (a4 > 0)))) rfl k
      ·intro K _ f w u k
       show Wp K ⟨77, (upd 77 (upd 77 f 41 (sb (decide (a4 > 0)))) 4 (si a4)), _⟩
       refine AWops.guard_yes rfl (nl rfl) rfl c5 ?_
       refine s_move (d := (si a4)) rfl k
      ·intro K _ f w u k
       show Wp K ⟨77, (upd 77 (upd 77 f 41 (sb (decide (a4 > 0)))) 0 (rf 0 0)), _⟩
       refine AWops.guard_yes rfl (nl rfl) rfl c5 ?_
       refine s_move (d := (rf 0 0)) rfl k
      ·intro K _ f w u k
       show Wp K ⟨77, (upd 77 (upd 77 f 43 (rf 0 0)) 41 (sb (decide (a4 > 0)))), [_, _, _]⟩
       refine AWops.guard_yes rfl (nl rfl) rfl c5 ?_
       refine s_nilCheck (d := (rf 0 0)) rfl (.inl ⟨_, _, rfl⟩) k
      ·intro K _ f w u k
       show Wp K ⟨77, (upd 77 (upd 77 f 44 (rf 0 0)) 41 (sb (decide (a4 > 0)))), [_, _, _]⟩
       refine AWops.guard_yes rfl (nl rfl) rfl c5 ?_
       refine s_fieldRef F.fo_37_1 (by decide) rfl k
      ·intro K _ f w u k
       show Wp K ⟨77, (upd 77 (upd 77 f 45 (rf 0 1)) 41 (sb (decide (a4 > 0)))), [(o_vdisk_Disk_03 false (C.mp 1) (C.ref 2 0) p0), _, _]⟩
       refine AWops.guard_yes rfl (nl rfl) rfl c5 ?_
       refine s_load1 (c' := (ci p0.room)) F.ag_3 rfl rfl k
      ·intro K _ f w u k
       show Wp K ⟨77, (upd 77 (upd 77 f 41 (sb (decide (a4 > 0)))) 0 (rf 0 0)), _⟩
       refine AWops.guard_yes rfl (nl rfl) rfl c5 ?_
       refine s_move (d := (rf 0 0)) rfl k
      ·intro K _ f w u k
       show Wp K ⟨77, (upd 77 (upd 77 f 47 (rf 0 0)) 41 (sb (decide (a4 > 0)))), [_, _, _]⟩
       refine AWops.guard_yes rfl (nl rfl) rfl c5 ?_
       refine s_nilCheck (d := (rf 0 0)) rfl (.inl ⟨_, _, rfl⟩) k
      ·intro K _ f w u k
       show Wp K ⟨77, (upd 77 (upd 77 f 48 (rf 0 0)) 41 (sb (decide (a4 > 0)))), [_, _, _]⟩
       refine AWops.guard_yes rfl (nl rfl) rfl c5 ?_
       refine s_fieldRef F.fo_37_2 (by decide) rfl k
      ·intro K _ f w u k
       show Wp K ⟨77, (upd 77 (upd 77 f 49 (rf 0 2)) 41 (sb (decide (a4 > 0)))), [(o_vdisk_Disk_03 false (C.mp 1) (C.ref 2 0) p0), _, _]⟩
       refine AWops.guard_yes rfl (nl rfl) rfl c5 ?_
       refine s_load1 (c' := (ci p0.used)) F.ag_3 rfl rfl k
      ·intro K _ f w u k
       show Wp K ⟨77, (upd 77 (upd 77 (upd 77 f 50 (si p0.used)) 46 (si p0.room)) 41 (sb (decide (a4 > 0)))), _⟩
       refine AWops.guard_yes rfl (nl rfl) rfl c5 ?_
       refine s_binI (v := (.int .i64 (IntKind.i64.wrap (p0.room - p0.used)))) rfl rfl rfl k
      ·intro K _ f w u k
       show Wp K ⟨77, (upd 77 (upd 77 (upd 77 f 51 (si (IntKind.i64.wrap (p0.room - p0.used)))) 42 (si a4)) 41 (sb (decide (a4 > 0)))), _⟩
       refine AWops.guard_yes rfl (nl rfl) rfl c5 ?_
       refine s_binI (v := (.bool (decide (a4 > (IntKind.i64.wrap (p0.room - p0.used)))))) rfl rfl rfl k
      ·intro K _ f w u k
       show Wp K ⟨77, (upd 77 (upd 77 f 52 (sb (decide (a4 > (IntKind.i64.wrap (p0.room - p0.used)))))) 41 (sb (decide (a4 > 0)))), _⟩
       refine s_pick_yes (d := (sb (decide (a4 > (IntKind.i64.wrap (p0.room - p0.used)))))) rfl c5 rfl k
     ·refine AWops.weak (st' := ⟨77, (upd 77 (upd 77 topF 0 (rf 0 0)) 53 (sb (decide (a4 > (IntKind.i64.wrap (p0.room - p0.used)))))), [(o_vdisk_Disk_03 false (C.mp 1) (C.ref 2 0) p0), (om_ e_vdisk_file p0.files), (bx p2)]⟩) (wg 3 [0, 1, 2] [] hx (le_upd (le_upd (le_top _) (o1 (.ref rfl))) (o1 .sc)) (ac (qr rfl rfl) (ac .map (ac qb an)))) (AWops.nil ?_)
      rcases itH h with ⟨c6, h⟩ | ⟨c6, h⟩
      ·refine AW.cond_yes rfl c6 (AW.seq (AW.region ?_))
       refine s_assign (d := (si 71)) rfl (AWops.nil (AW.ret ?_))
       obtain rfl := Option.some.inj h
       exact ⟨_, rfl, (wg 3 [0, 1, 2] [] rfl (le_upd (le_top _) (o1 .sc)) (ac (qr rfl rfl) (ac .map (ac qb an))))⟩
      ·refine AW.cond_no rfl c6 (AW.skip (AW.seq (AW.seq (AW.region ?_))))
       refine s_move (d := (rf 0 0)) rfl (s_nilCheck (d := (rf 0 0)) rfl (.inl ⟨_, _, rfl⟩) (s_fieldRef F.fo_37_3 (by decide) rfl (s_load1 (c' := (C.ref 2 0)) F.ag_35 rfl rfl (s_ptrNil (b := false) F.u_35 rfl (.inl ⟨⟨_, _, rfl⟩, rfl⟩) (.inr rfl) (AWops.nil ?_)))))
       refine AW.cond_yes rfl rfl (AW.seq (AW.seq (AW.region ?_)))
       refine s_move (d := (rf 0 0)) rfl (s_nilCheck (d := (rf 0 0)) rfl (.inl ⟨_, _, rfl⟩) (s_fieldRef F.fo_37_3 (by decide) rfl (s_load1 (c' := (C.ref 2 0)) F.ag_35 rfl rfl (s_nilCheck (d := (rf 2 0)) rfl (.inl ⟨_, _, rfl⟩) (s_load1 (c' := (ci p2)) F.ag_3 rfl rfl ?_)))))
       refine s_binI (v := (.bool (p2 == 0))) rfl rfl rfl (AWops.nil ?_)
       rcases itH h with ⟨c7, h⟩ | ⟨c7, h⟩
       ·refine AW.cond_yes rfl c7 (AW.seq (AW.region ?_))
        refine s_move (d := (rf 0 0)) rfl (s_nilCheck (d := (rf 0 0)) rfl (.inl ⟨_, _, rfl⟩) (s_fieldRef F.fo_37_4 (by decide) rfl (s_store (cs' := [(C.mp 1), (ci p0.room), (ci p0.used), (C.ref 2 0), (cb true)]) rfl rfl rfl (List.cons_ne_nil _ _) rfl F.sz_4 (nl rfl) rfl (AWops.nil (AW.seq (AW.region (s_assign (d := (si 70)) rfl (AWops.nil (AW.ret ?_)))))))))
        obtain rfl := Option.some.inj h
        exact ⟨_, rfl, (wg 3 [0, 1, 2] [] rfl (le_upd (le_top _) (o1 .sc)) (ac (qr rfl rfl) (ac .map (ac qb an))))⟩
       ·refine AW.cond_no rfl c7 (AW.skip (AW.region ?_))
        refine s_move (d := (rf 0 0)) rfl (s_nilCheck (d := (rf 0 0)) rfl (.inl ⟨_, _, rfl⟩) (s_fieldRef F.fo_37_3 (by decide) rfl (s_load1 (c' := (C.ref 2 0)) F.ag_35 rfl rfl (s_nilCheck (d := (rf 2 0)) rfl (.inl ⟨_, _, rfl⟩) (s_load1 (c' := (ci p2)) F.ag_3 rfl rfl ?_)))))
        refine s_binI (v := (.int .i64 (IntKind.i64.wrap (p2 - 1)))) rfl rfl rfl (s_nilCheck (d := (rf 2 0)) rfl (.inl ⟨_, _, rfl⟩) (s_store (cs' := [(ci (IntKind.i64.wrap (p2 - 1)))]) rfl rfl rfl (List.cons_ne_nil _ _) rfl F.sz_3 (nl rfl) rfl (AWops.nil (AW.seq (AW.region (s_assign (d := (si 0)) rfl (AWops.nil (AW.ret ?_))))))))
        obtain rfl := Option.some.inj h
        exact ⟨_, rfl, (wg 3 [0, 1, 2] [] rfl (le_upd (le_top _) (o1 .sc)) (ac (qr rfl rfl) (ac .map (ac qb an))))⟩
    ·refine AW.draw (n := 77) (L := 3) [(ft 0 39 (si a4) [(4, (si a4))]), (ft 1 40 (sb (decide (a4 > 0))) [(39, (si a4))]), (ft 2 41 (sb (decide (a4 > 0))) [(40, (sb (decide (a4 > 0))))]), (ft 3 42 (D.tup []) [(4, (si a4)), (41, (sb (decide (a4 > 0))))]), (ft 4 43 (D.tup []) [(41, (sb (decide (a4 > 0))))]), (ft 5 44 (D.tup []) [(41, (sb (decide (a4 > 0))))]), (ft 6 45 (D.tup []) [(41, (sb (decide (a4 > 0))))]), (ft 7 46 (D.tup []) [(41, (sb (decide (a4 > 0))))]), (ft 8 47 (D.tup []) [(41, (sb (decide (a4 > 0))))]), (ft 9 48 (D.tup []) [(41, (sb (decide (a4 > 0))))]), (ft 10 49 (D.tup []) [(41, (sb (decide (a4 > 0))))]), (ft 11 50 (D.tup []) [(41, (sb (decide (a4 > 0))))]), (ft 12 51 (D.tup []) [(41, (sb (decide (a4 > 0))))]), (ft 13 52 (D.tup []) [(41, (sb (decide (a4 > 0))))]), (ft 14 53 (sb false) [(41, (sb (decide (a4 > 0))))])] [[], [0], [0, 1], [0, 1, 2], [0, 1, 2], [0, 1, 2, 4], [0, 1, 2, 4, 5], [0, 1, 2, 4, 5, 6], [0, 1, 2], [0, 1, 2, 8], [0, 1, 2, 8, 9], [0, 1, 2, 8, 9, 10], [0, 1, 2, 4, 5, 6, 7, 8, 9, 10, 11], (.range 13), (.range 14)] (nl rfl) [0, 1, 2, 3, 3, 4, 5, 6, 3, 4, 5, 6, 7, 8, 9] rfl (TK := []) rfl AllK.nil' (by repeat (first | refine fC ⟨?_, ?_⟩ ?_ | refine sC rfl ?_ | refine hC rfl ?_ | trivial)) ?_ ?_
     ·refine y8 ?_ ?_ ?_ ?_ ?_ ?_ ?_ ?_ (y4 ?_ ?_ ?_ ?_ (y2 ?_ ?_ (pC ?_ yN)))
      ·intro K _ f w u k
       show Wp K ⟨77, (upd 77 f 4 (si a4)), _⟩
       refine s_move (d := (si a4)) rfl k
      ·intro K _ f w u k
       show Wp K ⟨77, (upd 77 f 39 (si a4)), _⟩
       refine s_binI (v := (.bool (decide (a4 > 0)))) rfl rfl rfl k
      ·intro K _ f w u k
       show Wp K ⟨77, (upd 77 f 40 (sb (decide (a4 > 0)))), _⟩
       refine s_move (d := (sb (decide (a4 > 0)))) rfl k
      ·intro K _ f w u k
       show Wp K ⟨77, (upd 77 (upd 77 f 41 (sb (decide (a4 > 0)))) 4 (si a4)), _⟩
       refine AWops.guard_no rfl (nl rfl) rfl c5 k
      ·intro K _ f w u k
       show Wp K ⟨77, (upd 77 f 41 (sb (decide (a4 > 0)))), _⟩
       refine AWops.guard_no rfl (nl rfl) rfl c5 k
      ·intro K _ f w u k
       show Wp K ⟨77, (upd 77 f 41 (sb (decide (a4 > 0)))), _⟩
       refine AWops.guard_no rfl (nl rfl) rfl c5 k
      ·intro K _ f w u k
       show Wp K ⟨77, (upd 77 f 41 (sb (decide (a4 > 0)))), _⟩
       refine AWops.guard_no rfl (nl rfl) rfl c5 k
      ·intro K _ f w u k
       show Wp K ⟨77, (upd 77 f 41 (sb (decide (a4 > 0)))), _⟩
       refine AWops.guard_no rfl (nl rfl) rfl c5 k
      ·intro K _ f w u k
       show Wp K ⟨77, (upd 77 f 41 (sb (decide (a4 > 0)))), _⟩
       refine AWops.guard_no rfl (nl rfl) rfl c5 k
      ·intro K _ f w u k
       show Wp K ⟨77, (upd 77 f 41 (sb (decide (a4 > 0)))), _⟩
       refine AWops.guard_no rfl (nl rfl) rfl c5 k
      ·intro K _ f w u k
       show Wp K ⟨77, (upd 77 f 41 (sb (decide (a4 > 0)))), _⟩
       refine AWops.guard_no rfl (nl rfl) rfl c5 k
      ·intro K _ f w u k
       show Wp K ⟨77, (upd 77 f 41 (sb (decide (a4 > 0)))), _⟩
       refine AWops.guard_no rfl (nl rfl) rfl c5 k
      ·intro K _ f w u k
       show Wp K ⟨77, (upd 77 f 41 (sb (decide (a4 > 0)))), _⟩
       refine AWops.guard_no rfl (nl rfl) rfl c5 k
      ·intro K _ f w u k
       show Wp K ⟨77, (upd 77 f 41 (sb (decide (a4 > 0)))), _⟩
       refine AWops.guard_no rfl (nl rfl) rfl c5 k
      ·intro K _ f w u k
       show Wp K ⟨77, (upd 77 f 41 (sb (decide (a4 > 0)))), _⟩
       refine s_pick_no (d := (sb false)) rfl c5 rfl k
     ·refine AWops.weak (st' := ⟨77, (upd 77 (upd 77 topF 0 (rf 0 0)) 53 (sb false)), [(o_vdisk_Disk_03 false (C.mp 1) (C.ref 2 0) p0), (om_ e_vdisk_file p0.files), (bx p2)]⟩) (wg 3 [0, 1, 2] [] hx (le_upd (le_upd (le_top _) (o1 (.ref rfl))) (o1 .sc)) (ac (qr rfl rfl) (ac .map (ac qb an)))) (AWops.nil ?_)
      refine AW.cond_no rfl rfl (AW.skip (AW.seq (AW.seq (AW.region ?_))))
      refine s_move (d := (rf 0 0)) rfl (s_nilCheck (d := (rf 0 0)) rfl (.inl ⟨_, _, rfl⟩) (s_fieldRef F.fo_37_3 (by decide) rfl (s_load1 (c' := (C.ref 2 0)) F.ag_35 rfl rfl (s_ptrNil (b := false) F.u_35 rfl (.inl ⟨⟨_, _, rfl⟩, rfl⟩) (.inr rfl) (AWops.nil ?_)))))
      refine AW.cond_yes rfl rfl (AW.seq (AW.seq (AW.region ?_)))
      refine s_move (d := (rf 0 0)) rfl (s_nilCheck (d := (rf 0 0)) rfl (.inl ⟨_, _, rfl⟩) (s_fieldRef F.fo_37_3 (by decide) rfl (s_load1 (c' := (C.ref 2 0)) F.ag_35 rfl rfl (s_nilCheck (d := (rf 2 0)) rfl (.inl ⟨_, _, rfl⟩) (s_load1 (c' := (ci p2)) F.ag_3 rfl rfl ?_)))))
      refine s_binI (v := (.bool (p2 == 0))) rfl rfl rfl (AWops.nil ?_)
      rcases itH h with ⟨c8, h⟩ | ⟨c8, h⟩
      ·refine AW.cond_yes rfl c8 (AW.seq (AW.region ?_))
       refine s_move (d := (rf 0 0)) rfl (s_nilCheck (d := (rf 0 0)) rfl (.inl ⟨_, _, rfl⟩) (s_fieldRef F.fo_37_4 (by decide) rfl (s_store (cs' := [(C.mp 1), (ci p0.room), (ci p0.used), (C.ref 2 0), (cb true)]) rfl rfl rfl (List.cons_ne_nil _ _) rfl F.sz_4 (nl rfl) rfl (AWops.nil (AW.seq (AW.region (s_assign (d := (si 70)) rfl (AWops.nil (AW.ret ?_)))))))))
       obtain rfl := Option.some.inj h
       exact ⟨_, rfl, (wg 3 [0, 1, 2] [] rfl (le_upd (le_top _) (o1 .sc)) (ac (qr rfl rfl) (ac .map (ac qb an))))⟩
      ·refine AW.cond_no rfl c8 (AW.skip (AW.region ?_))
       refine s_move (d := (rf 0 0)) rfl (s_nilCheck (d := (rf 0 0)) rfl (.inl ⟨_, _, rfl⟩) (s_fieldRef F.fo_37_3 (by decide) rfl (s_load1 (c' := (C.ref 2 0)) F.ag_35 rfl rfl (s_nilCheck (d := (rf 2 0)) rfl (.inl ⟨_, _, rfl⟩) (s_load1 (c' := (ci p2)) F.ag_3 rfl rfl ?_)))))
       refine s_binI (v := (.int .i64 (IntKind.i64.wrap (p2 - 1)))) rfl rfl rfl (s_nilCheck (d := (rf 2 0)) rfl (.inl ⟨_, _, rfl⟩) (s_store (cs' := [(ci (IntKind.i64.wrap (p2 - 1)))]) rfl rfl rfl (List.cons_ne_nil _ _) rfl F.sz_3 (nl rfl) rfl (AWops.nil (AW.seq (AW.region (s_assign (d := (si 0)) rfl (AWops.nil (AW.ret ?_))))))))
       obtain rfl := Option.some.inj h
       exact ⟨_, rfl, (wg 3 [0, 1, 2] [] rfl (le_upd (le_top _) (o1 .sc)) (ac (qr rfl rfl) (ac .map (ac qb an))))⟩
   ·refine AWops.guard_yes rfl (nl rfl) rfl (by rw [c4] <;> rfl) ?_
    refine s_move (d := (sb a3)) rfl ?_
    refine AWops.guard_yes rfl (nl rfl) rfl (by rw [c4] <;> rfl) ?_
    refine s_not rfl (s_pick_yes (d := (sb (!a3))) rfl (by rw [c4] <;> rfl) rfl (AWops.nil ?_))
    rcases itH h with ⟨c9, h⟩ | ⟨c9, h⟩
    ·refine AW.cond_no rfl (by rw [c9] <;> rfl) (AW.skip (AW.seq (AW.seq ?_)))
     refine AW.weak (st' := ⟨77, (upd 77 (upd 77 topF 0 (rf 0 0)) 4 (si a4)), [(o_vdisk_Disk_03 false (C.mp 1) (C.ref 2 0) p0), (om_ e_vdisk_file p0.files), (bx p2)]⟩) (wg 3 [0, 1, 2] [] hx (le_upd (le_upd (le_top _) (o1 (.ref rfl))) (o1 .sc)) (ac (qr rfl rfl) (ac .map (ac qb an)))) ?_
     rcases itH h with ⟨c10, h⟩ | ⟨c10, h⟩
     ·refine AW.draw (n := 77) (L := 3) [(ft 0 39 (si a4) [(4, (si a4))]), (ft 1 40 (sb (decide (a4 > 0))) [(39, (si a4))]), (ft 2 41 (sb (decide (a4 > 0))) [(40, (sb (decide (a4 > 0))))]), (ft 3 42 (si a4) [(4, (si a4)), (41, (sb (decide (a4 > 0))))]), (ft 4 43 (rf 0 0) [(0, (rf 0 0)), (41, (sb (decide (a4 > 0))))]), (ft 5 44 (rf 0 0) [(41, (sb (decide (a4 > 0)))), (43, (rf 0 0))]), (ft 6 45 (rf 0 1) [(41, (sb (decide (a4 > 0)))), (44, (rf 0 0))]), (7, ⟨some 46, (si p0.room), [(41, (sb (decide (a4 > 0)))), (45, (rf 0 1))], [(0, (o_vdisk_Disk_03 false (C.mp 1) (C.ref 2 0) p0))], [], none⟩), (ft 8 47 (rf 0 0) [(0, (rf 0 0)), (41, (sb (decide (a4 > 0))))]), (ft 9 48 (rf 0 0) [(41, (sb (decide (a4 > 0)))), (47, (rf 0 0))]), (ft 10 49 (rf 0 2) [(41, (sb (decide (a4 > 0)))), (48, (rf 0 0))]), (11, ⟨some 50, (si p0.used), [(41, (sb (decide (a4 > 0)))), (49, (rf 0 2))], [(0, (o_vdisk_Disk_03 false (C.mp 1) (C.ref 2 0) p0))], [], none⟩), (ft 12 51 (si (IntKind.i64.wrap (p0.room - p0.used))) [(41, (sb (decide (a4 > 0)))), (46, (si p0.room)), (50, (si p0.used))]), (ft 13 52 (sb (decide (a4 > (IntKind.i64.wrap (p0.room - p0.used))))) [(41, (sb (decide (a4 > 0)))), (42, (si a4)), (51, (si (IntKind.i64.wrap (p0.room - p0.used))))]), (ft 14 53 (sb (decide (a4 > (IntKind.i64.wrap (p0.room - p0.used))))) [(41, (sb (decide (a4 > 0)))), (52, (sb (decide (a4 > (IntKind.i64.wrap (p0.room - p0.used))))))])] [[], [0], [0, 1], [0, 1, 2], [0, 1, 2], [0, 1, 2, 4], [0, 1, 2, 4, 5], [0, 1, 2, 4, 5, 6], [0, 1, 2], [0, 1, 2, 8], [0, 1, 2, 8, 9], [0, 1, 2, 8, 9, 10], [0, 1, 2, 4, 5, 6, 7, 8, 9, 10, 11], (.range 13), (.range 14)] (nl rfl) [0, 1, 2, 3, 3, 4, 5, 6, 3, 4, 5, 6, 7, 8, 9] rfl (TK := []) rfl AllK.nil' (by repeat (first | refine fC ⟨?_, ?_⟩ ?_ | refine sC rfl ?_ | refine hC rfl ?_ | trivial)) ?_ ?_
      ·refine y8 ?_ ?_ ?_ ?_ ?_ ?_ ?_ ?_ (y4 ?_ ?_ ?_ ?_ (y2 ?_ ?_ (pC ?_ yN)))
       ·intro K _ f w u k
        show Wp K ⟨77, (upd 77 f 4 (si a4)), _⟩
        refine s_move (d := (si a4)) rfl k
       ·intro K _ f w u k
        show Wp K ⟨77, (upd 77 f 39 (si a4)), _⟩
        refine s_binI (v := (.bool (decide (a4 > 0)))) rfl rfl rfl k
       ·intro K _ f w u k
        show Wp K ⟨77, (upd 77 f 40 (sb (decide (a4 > 0)))), _⟩
        refine s_move (d := (sb (decide (a4 > 0)))) rfl k
       ·intro K _ f w u k
        show Wp K ⟨77, (upd 77 (upd 77 f 41 (sb (decide (a4 > 0)))) 4 (si a4)), _⟩
        refine AWops.guard_yes rfl (nl rfl) rfl c10 ?_
        refine s_move (d := (si a4)) rfl k
       ·intro K _ f w u k
        show Wp K ⟨77, (upd 77 (upd 77 f 41 (sb (decide (a4 > 0)))) 0 (rf 0 0)), _⟩
        refine AWops.guard_yes rfl (nl rfl) rfl c10 ?_
        refine s_move (d := (rf 0 0)) rfl k
       ·intro K _ f w u k
        show Wp K ⟨77, (upd 77 (upd 77 f 43 (rf 0 0)) 41 (sb (decide (a4 > 0)))), [_, _, _]⟩
        refine AWops.guard_yes rfl (nl rfl) rfl c10 ?_
        refine s_nilCheck (d := (rf 0 0)) rfl (.inl ⟨_, _, rfl⟩) k
       ·intro K _ f w u k
        show Wp K ⟨77, (upd 77 (upd 77 f 44 (rf 0 0)) 41 (sb (decide (a4 > 0)))), [_, _, _]⟩
        refine AWops.guard_yes rfl (nl rfl) rfl c10 ?_
        refine s_fieldRef F.fo_37_1 (by decide) rfl k
       ·intro K _ f w u k
        show Wp K ⟨77, (upd 77 (upd 77 f 45 (rf 0 1)) 41 (sb (decide (a4 > 0)))), [(o_vdisk_Disk_03 false (C.mp 1) (C.ref 2 0) p0), _, _]⟩
        refine AWops.guard_yes rfl (nl rfl) rfl c10 ?_
        refine s_load1 (c' := (ci p0.room)) F.ag_3 rfl rfl k
       ·intro K _ f w u k
        show Wp K ⟨77, (upd 77 (upd 77 f 41 (sb (decide (a4 > 0)))) 0 (rf 0 0)), _⟩
        refine AWops.guard_yes rfl (nl rfl) rfl c10 ?_
        refine s_move (d := (rf 0 0)) rfl k
       ·intro K _ f w u k
        show Wp K ⟨77, (upd 77 (upd 77 f 47 (rf 0 0)) 41 (sb (decide (a4 > 0)))), [_, _, _]⟩
        refine AWops.guard_yes rfl (nl rfl) rfl c10 ?_
        refine s_nilCheck (d := (rf 0 0)) rfl (.inl ⟨_, _, rfl⟩) k
       ·intro K _ f w u k
        show Wp K ⟨77, (upd 77 (upd 77 f 48 (rf 0 0)) 41 (sb (decide (a4 > 0)))), [_, _, _]⟩
        refine AWops.guard_yes rfl (nl rfl) rfl c10 ?_
        refine s_fieldRef F.fo_37_2 (by decide) rfl k
       ·intro K _ f w u k
        show Wp K ⟨77, (upd 77 (upd 77 f 49 (rf 0 2)) 41 (sb (decide (a4 > 0)))), [(o_vdisk_Disk_03 false (C.mp 1) (C.ref 2 0) p0), _, _]⟩
        refine AWops.guard_yes rfl (nl rfl) rfl c10 ?_
        refine s_load1 (c' := (ci p0.used)) F.ag_3 rfl rfl k
       ·intro K _ f w u k
        show Wp K ⟨77, (upd 77 (upd 77 (upd 77 f 50 (si p0.used)) 46 (si p0.room)) 41 (sb (decide (a4 > 0)))), _⟩
        refine AWops.guard_yes rfl (nl rfl) rfl c10 ?_
        refine s_binI (v := (.int .i64 (IntKind.i64.wrap (p0.room - p0.used)))) rfl rfl rfl k
       ·intro K _ f w u k
        show Wp K ⟨77, (upd 77 (upd 77 (upd 77 f 51 (si (IntKind.i64.wrap (p0.room - p0.used)))) 42 (si a4)) 41 (sb (decide (a4 > 0)))), _⟩
        refine AWops.guard_yes rfl (nl rfl) rfl c10 ?_
        refine s_binI (v := (.bool (decide (a4 > (IntKind.i64.wrap (p0.room - p0.used)))))) rfl rfl rfl k
       ·intro K _ f w u k
        show Wp K ⟨77, (upd 77 (upd 77 f 52 (sb (decide (a4 > (IntKind.i64.wrap (p0.room - p0.used)))))) 41 (sb (decide (a4 > 0)))), _⟩
        refine s_pick_yes (d := (sb (decide (a4 > (IntKind.i64.wrap (p0.room - p0.used)))))) rfl c10 rfl k
      ·refine AWops.weak (st' := ⟨77, (upd 77 (upd 77 topF 0 (rf 0 0)) 53 (sb (decide (a4 > (IntKind.i64.wrap (p0.room - p0.used)))))), [(o_vdisk_Disk_03 false (C.mp 1) (C.ref 2 0) p0), (om_ e_vdisk_file p0.files), (bx p2)]⟩) (wg 3 [0, 1, 2] [] hx (le_upd (le_upd (le_top _) (o1 (.ref rfl))) (o1 .sc)) (ac (qr rfl rfl) (ac .map (ac qb an)))) (AWops.nil ?_)
       rcases itH h with ⟨c11, h⟩ | ⟨c11, h⟩
       ·refine AW.cond_yes rfl c11 (AW.seq (AW.region ?_))
        refine s_assign (d := (si 71)) rfl (AWops.nil (AW.ret ?_))
        obtain rfl := Option.some.inj h
        exact ⟨_, rfl, (wg 3 [0, 1, 2] [] rfl (le_upd (le_top _) (o1 .sc)) (ac (qr rfl rfl) (ac .map (ac qb an))))⟩
       ·refine AW.cond_no rfl c11 (AW.skip (AW.seq (AW.seq (AW.region ?_))))
        refine s_move (d := (rf 0 0)) rfl (s_nilCheck (d := (rf 0 0)) rfl (.inl ⟨_, _, rfl⟩) (s_fieldRef F.fo_37_3 (by decide) rfl (s_load1 (c' := (C.ref 2 0)) F.ag_35 rfl rfl (s_ptrNil (b := false) F.u_35 rfl (.inl ⟨⟨_, _, rfl⟩, rfl⟩) (.inr rfl) (AWops.nil ?_)))))
        refine AW.cond_yes rfl rfl (AW.seq (AW.seq (AW.region ?_)))
        refine s_move (d := (rf 0 0)) rfl (s_nilCheck (d := (rf 0 0)) rfl (.inl ⟨_, _, rfl⟩) (s_fieldRef F.fo_37_3 (by decide) rfl (s_load1 (c' := (C.ref 2 0)) F.ag_35 rfl rfl (s_nilCheck (d := (rf 2 0)) rfl (.inl ⟨_, _, rfl⟩) (s_load1 (c' := (ci p2)) F.ag_3 rfl rfl ?_)))))
        refine s_binI (v := (.bool (p2 == 0))) rfl rfl rfl (AWops.nil ?_)
        rcases itH h with ⟨c12, h⟩ | ⟨c12, h⟩
        ·refine AW.cond_yes rfl c12 (AW.seq (AW.region ?_))
         refine s_move (d := (rf 0 0)) rfl (s_nilCheck (d := (rf 0 0)) rfl (.inl ⟨_, _, rfl⟩) (s_fieldRef F.fo_37_4 (by decide) rfl (s_store (cs' := [(C.mp 1), (ci p0.room), (ci p0.used), (C.ref 2 0), (cb true)]) rfl rfl rfl (List.cons_ne_nil _ _) rfl F.sz_4 (nl rfl) rfl (AWops.nil (AW.seq (AW.region (s_assign (d := (si 70)) rfl (AWops.nil (AW.ret ?_)))))))))
         obtain rfl := Option.some.inj h
         exact ⟨_, rfl, (wg 3 [0, 1, 2] [] rfl (le_upd (le_top _) (o1 .sc)) (ac (qr rfl rfl) (ac .map (ac qb an))))⟩
        ·refine AW.cond_no rfl c12 (AW.skip (AW.region ?_))
         refine s_move (d := (rf 0 0)) rfl (s_nilCheck (d := (rf 0 0)) rfl (.inl ⟨_, _, rfl⟩) (s_fieldRef F.fo_37_3 (by decide) rfl (s_load1 (c' := (C.ref 2 0)) F.ag_35 rfl rfl (s_nilCheck (d := (rf 2 0)) rfl (.inl ⟨_, _, rfl⟩) (s_load1 (c' := (ci p2)) F.ag_3 rfl rfl ?_)))))
         refine s_binI (v := (.int .i64 (IntKind.i64.wrap (p2 - 1)))) rfl rfl rfl (s_nilCheck (d := (rf 2 0)) rfl (.inl ⟨_, _, rfl⟩) (s_store (cs' := [(ci (IntKind.i64.wrap (p2 - 1)))]) rfl rfl rfl (List.cons_ne_nil _ _) rfl F.sz_3 (nl rfl) rfl (AWops.nil (AW.seq (AW.region (s_assign (d := (si 0)) rfl (AWops.nil (AW.ret ?_))))))))
         obtain rfl := Option.some.inj h
         exact ⟨_, rfl, (wg 3 [0, 1, 2] [] rfl (le_upd (le_top _) (o1 .sc)) (ac (qr rfl rfl) (ac .map (ac qb an))))⟩
     ·refine AW.draw (n := 77) (L := 3) [(ft 0 39 (si a4) [(4, (si a4))]), (ft 1 40 (sb (decide (a4 > 0))) [(39, (si a4))]), (ft 2 41 (sb (decide (a4 > 0))) [(40, (sb (decide (a4 > 0))))]), (ft 3 42 (D.tup []) [(4, (si a4)), (41, (sb (decide (a4 > 0))))]), (ft 4 43 (D.tup []) [(41, (sb (decide (a4 > 0))))]), (ft 5 44 (D.tup []) [(41, (sb (decide (a4 > 0))))]), (ft 6 45 (D.tup []) [(41, (sb (decide (a4 > 0))))]), (ft 7 46 (D.tup []) [(41, (sb (decide (a4 > 0))))]), (ft 8 47 (D.tup []) [(41, (sb (decide (a4 > 0))))]), (ft 9 48 (D.tup []) [(41, (sb (decide (a4 > 0))))]), (ft 10 49 (D.tup []) [(41, (sb (decide (a4 > 0))))]), (ft 11 50 (D.tup []) [(41, (sb (decide (a4 > 0))))]), (ft 12 51 (D.tup []) [(41, (sb (decide (a4 > 0))))]), (ft 13 52 (D.tup []) [(41, (sb (decide (a4 > 0))))]), (ft 14 53 (sb false) [(41, (sb (decide (a4 > 0))))])] [[], [0], [0, 1], [0, 1, 2], [0, 1, 2], [0, 1, 2, 4], [0, 1, 2, 4, 5], [0, 1, 2, 4, 5, 6], [0, 1, 2], [0, 1, 2, 8], [0, 1, 2, 8, 9], [0, 1, 2, 8, 9, 10], [0, 1, 2, 4, 5, 6, 7, 8, 9, 10, 11], (.range 13), (.range 14)] (nl rfl) [0, 1, 2, 3, 3, 4, 5, 6, 3, 4, 5, 6, 7, 8, 9] rfl (TK := []) rfl AllK.nil' (by repeat (first | refine fC ⟨?_, ?_⟩ ?_ | refine sC rfl ?_ | refine hC rfl ?_ | trivial)) ?_ ?_
      ·refine y8 ?_ ?_ ?_ ?_ ?_ ?_ ?_ ?_ (y4 ?_ ?_ ?_ ?_ (y2 ?_ ?_ (pC ?_ yN)))
       ·intro K _ f w u k
        show Wp K ⟨77, (upd 77 f 4 (si a4)), _⟩
        refine s_move (d := (si a4)) rfl k
       ·intro K _ f w u k
        show Wp K ⟨77, (upd 77 f 39 (si a4)), _⟩
        refine s_binI (v := (.bool (decide (a4 > 0)))) rfl rfl rfl k
       ·intro K _ f w u k
        show Wp K ⟨77, (upd 77 f 40 (sb (decide (a4 > 0)))), _⟩
        refine s_move (d := (sb (decide (a4 > 0)))) rfl k
       ·intro K _ f w u k
        show Wp K ⟨77, (upd 77 (upd 77 f 41 (sb (decide (a4 > 0)))) 4 (si a4)), _⟩
        refine AWops.guard_no rfl (nl rfl) rfl c10 k
       ·intro K _ f w u k
        show Wp K ⟨77, (upd 77 f 41 (sb (decide (a4 > 0)))), _⟩
        refine AWops.guard_no rfl (nl rfl) rfl c10 k
       ·intro K _ f w u k
        show Wp K ⟨77, (upd 77 f 41 (sb (decide (a4 > 0)))), _⟩
        refine AWops.guard_no rfl (nl rfl) rfl c10 k
       ·intro K _ f w u k
        show Wp K ⟨77, (upd 77 f 41 (sb (decide (a4 > 0)))), _⟩
        refine AWops.guard_no rfl (nl rfl) rfl c10 k
       ·intro K _ f w u k
        show Wp K ⟨77, (upd 77 f 41 (sb (decide (a4 > 0)))), _⟩
        refine AWops.guard_no rfl (nl rfl) rfl c10 k
       ·intro K _ f w u k
        show Wp K ⟨77, (upd 77 f 41 (sb (decide (a4 > 0)))), _⟩
        refine AWops.guard_no rfl (nl rfl) rfl c10 k
       ·intro K _ f w u k
        show Wp K ⟨77, (upd 77 f 41 (sb (decide (a4 > 0)))), _⟩
        refine AWops.guard_no rfl (nl rfl) rfl c10 k
       ·intro K _ f w u k
        show Wp K ⟨77, (upd 77 f 41 (sb (decide (a4 > 0)))), _⟩
        refine AWops.guard_no rfl (nl rfl) rfl c10 k
       ·intro K _ f w u k
        show Wp K ⟨77, (upd 77 f 41 (sb (decide (a4 > 0)))), _⟩
        refine AWops.guard_no rfl (nl rfl) rfl c10 k
       ·intro K _ f w u k
        show Wp K ⟨77, (upd 77 f 41 (sb (decide (a4 > 0)))), _⟩
        refine AWops.guard_no rfl (nl rfl) rfl c10 k
       ·intro K _ f w u k
        show Wp K ⟨77, (upd 77 f 41 (sb (decide (a4 > 0)))), _⟩
        refine AWops.guard_no rfl (nl rfl) rfl c10 k
       ·intro K _ f w u k
        show Wp K ⟨77, (upd 77 f 41 (sb (decide (a4 > 0)))), _⟩
        refine s_pick_no (d := (sb false)) rfl c10 rfl k
      ·refine AWops.weak (st' := ⟨77, (upd 77 (upd 77 topF 0 (rf 0 0)) 53 (sb false)), [(o_vdisk_Disk_03 false (C.mp 1) (C.ref 2 0) p0), (om_ e_vdisk_file p0.files), (bx p2)]⟩) (wg 3 [0, 1, 2] [] hx (le_upd (le_upd (le_top _) (o1 (.ref rfl))) (o1 .sc)) (ac (qr rfl rfl) (ac .map (ac qb an)))) (AWops.nil ?_)
       refine AW.cond_no rfl rfl (AW.skip (AW.seq (AW.seq (AW.region ?_))))
       refine s_move (d := (rf 0 0)) rfl (s_nilCheck (d := (rf 0 0)) rfl (.inl ⟨_, _, rfl⟩) (s_fieldRef F.fo_37_3 (by decide) rfl (s_load1 (c' := (C.ref 2 0)) F.ag_35 rfl rfl (s_ptrNil (b := false) F.u_35 rfl (.inl ⟨⟨_, _, rfl⟩, rfl⟩) (.inr rfl) (AWops.nil ?_)))))
       refine AW.cond_yes rfl rfl (AW.seq (AW.seq (AW.region ?_)))
       refine s_move (d := (rf 0 0)) rfl (s_nilCheck (d := (rf 0 0)) rfl (.inl ⟨_, _, rfl⟩) (s_fieldRef F.fo_37_3 (by decide) rfl (s_load1 (c' := (C.ref 2 0)) F.ag_35 rfl rfl (s_nilCheck (d := (rf 2 0)) rfl (.inl ⟨_, _, rfl⟩) (s_load1 (c' := (ci p2)) F.ag_3 rfl rfl ?_)))))
       refine s_binI (v := (.bool (p2 == 0))) rfl rfl rfl (AWops.nil ?_)
       rcases itH h with ⟨c13, h⟩ | ⟨c13, h⟩
       ·refine AW.cond_yes rfl c13 (AW.seq (AW.region ?_))
        refine s_move (d := (rf 0 0)) rfl (s_nilCheck (d := (rf 0 0)) rfl (.inl ⟨_, _, rfl⟩) (s_fieldRef F.fo_37_4 (by decide) rfl (s_store (cs' := [(C.mp 1), (ci p0.room), (ci p0.used), (C.ref 2 0), (cb true)]) rfl rfl rfl (List.cons_ne_nil _ _) rfl F.sz_4 (nl rfl) rfl (AWops.nil (AW.seq (AW.region (s_assign (d := (si 70)) rfl (AWops.nil (AW.ret ?_)))))))))
        obtain rfl := Option.some.inj h
        exact ⟨_, rfl, (wg 3 [0, 1, 2] [] rfl (le_upd (le_top _) (o1 .sc)) (ac (qr rfl rfl) (ac .map (ac qb an))))⟩
       ·refine AW.cond_no rfl c13 (AW.skip (AW.region ?_))
        refine s_move (d := (rf 0 0)) rfl (s_nilCheck (d := (rf 0 0)) rfl (.inl ⟨_, _, rfl⟩) (s_fieldRef F.fo_37_3 (by decide) rfl (s_load1 (c' := (C.ref 2 0)) F.ag_35 rfl rfl (s_nilCheck (d := (rf 2 0)) rfl (.inl ⟨_, _, rfl⟩) (s_load1 (c' := (ci p2)) F.ag_3 rfl rfl ?_)))))
        refine s_binI (v := (.int .i64 (IntKind.i64.wrap (p2 - 1)))) rfl rfl rfl (s_nilCheck (d := (rf 2 0)) rfl (.inl ⟨_, _, rfl⟩) (s_store (cs' := [(ci (IntKind.i64.wrap (p2 - 1)))]) rfl rfl rfl (List.cons_ne_nil _ _) rfl F.sz_3 (nl rfl) rfl (AWops.nil (AW.seq (AW.region (s_assign (d := (si 0)) rfl (AWops.nil (AW.ret ?_))))))))
        obtain rfl := Option.some.inj h
        exact ⟨_, rfl, (wg 3 [0, 1, 2] [] rfl (le_upd (le_top _) (o1 .sc)) (ac (qr rfl rfl) (ac .map (ac qb an))))⟩
    ·refine AW.cond_yes rfl (by rw [c9] <;> rfl) (AW.seq (AW.region ?_))
     refine s_assign (d := (si 33)) rfl (AWops.nil (AW.ret ?_))
     obtain rfl := Option.some.inj h
     exact ⟨_, rfl, (wg 3 [0, 1, 2] [] rfl (le_upd (le_top _) (o1 .sc)) (ac (qr rfl rfl) (ac .map (ac qb an))))⟩
 ·refine AW.cond_yes rfl (by rw [c2] <;> rfl) (AW.seq (AW.region ?_))
  refine s_assign (d := (si 1)) rfl (AWops.nil (AW.ret ?_))
  obtain rfl := Option.some.inj h
  exact ⟨_, rfl, (wg 3 [0, 1, 2] [] rfl (le_upd (le_top _) (o1 .sc)) (ac (qr rfl rfl) (ac .map (ac qb an))))⟩
def vdisk_Disk_set_36.f (k : Nat) (p0 : vdisk_Disk) (a1 : ByteArray) (a2 : vdisk_file) (p2 : Int) : Option vdisk_Disk := some (⟨mset a1 a2 p0.files, p0.room, IntKind.i64.wrap (p0.used + (IntKind.i64.wrap ((a2.b.length : Int) - (((lk_vdisk_file a1 p0.files).b).length : Int)))), (), p0.dead⟩ : vdisk_Disk)
theorem vdisk_Disk_set_36.meets (k : Nat) (p0 : vdisk_Disk) (a1 : ByteArray) (a2 : vdisk_file) (p2 : Int) (r : vdisk_Disk) (h : vdisk_Disk_set_36.f k p0 a1 a2 p2 = some r) : Meets Try.prog 36 [(rf 0 0), (st_ a1), (D.agg (c_vdisk_file a2))] [(o_vdisk_Disk_03 false (C.mp 1) (C.ref 2 0) p0), (om_ e_vdisk_file p0.files), (bx p2)] (D.tup []) [(o_vdisk_Disk_03 false (C.mp 1) (C.ref 2 0) r), (om_ e_vdisk_file r.files), (bx p2)] := by
 unfold vdisk_Disk_set_36.f at h
 refine Meets.of_body (n := 31) Try.func36 rfl rfl (nl rfl) fun x hx => ?_
 replace hx : x.k = 3 := hx
 show AW _ x _ _ ⟨31, fr0 [(rf 0 0), (st_ a1), (D.agg (c_vdisk_file a2))], [(o_vdisk_Disk_03 false (C.mp 1) (C.ref 2 0) p0), (om_ e_vdisk_file p0.files), (bx p2)]⟩
 refine AW.seq (AW.region ?_)
 refine s_box (cs := (c_vdisk_file a2)) rfl (List.cons_ne_nil _ _) rfl (AWops.nil (AW.seq ?_))
 refine AW.weak (st' := ⟨31, (upd 31 (upd 31 (upd 31 topF 0 (rf 0 0)) 1 (st_ a1)) 5 (rf 3 0)), [(o_vdisk_Disk_03 false (C.mp 1) (C.ref 2 0) p0), (om_ e_vdisk_file p0.files), (bx p2), (some (AObj.cells true (c_vdisk_file a2)))]⟩) (wg 3 [0, 1, 2, 3] [] hx (le_upd (le_upd (le_upd (le_top _) (o1 (.ref rfl))) (o1 .sc)) (o1 (.ref rfl))) (ac (qr rfl rfl) (ac .map (ac qb (ac (.cells (fun _ => rfl) (ac .same (ac .sc an))) an))))) ?_
 refine AW.draw (n := 31) (L := 4) [(ft 0 6 (rf 0 0) [(0, (rf 0 0))]), (ft 1 7 (rf 0 0) [(6, (rf 0 0))]), (ft 2 8 (rf 0 2) [(7, (rf 0 0))]), (3, ⟨some 9, (si p0.used), [(8, (rf 0 2))], [(0, (o_vdisk_Disk_03 false (C.mp 1) (C.ref 2 0) p0))], [], none⟩), (ft 4 10 (rf 3 0) [(5, (rf 3 0))]), (5, ⟨some 11, (ds_ e_u8 a2.b), [(10, (rf 3 0))], [(3, (some (AObj.cells true (c_vdisk_file a2))))], [], none⟩), (ft 6 12 (si (a2.b.length : Int)) [(11, (ds_ e_u8 a2.b))]), (ft 7 13 (rf 0 0) [(0, (rf 0 0))]), (ft 8 14 (rf 0 0) [(13, (rf 0 0))]), (ft 9 15 (rf 0 0) [(14, (rf 0 0))]), (10, ⟨some 16, (D.one (C.mp 1)), [(15, (rf 0 0))], [(0, (o_vdisk_Disk_03 false (C.mp 1) (C.ref 2 0) p0))], [], none⟩), (ft 11 17 (st_ a1) [(1, (st_ a1))]), (12, ⟨some 18, (D.agg (c_vdisk_file (lk_vdisk_file a1 p0.files))), [(16, (D.one (C.mp 1))), (17, (st_ a1))], [(1, (om_ e_vdisk_file p0.files))], [], none⟩), (ft 13 19 (D.one (C.p false (.sl ((lk_vdisk_file a1 p0.files).b).length (((lk_vdisk_file a1 p0.files).b).flatMap e_u8)))) [(18, (D.agg (c_vdisk_file (lk_vdisk_file a1 p0.files))))]), (ft 14 20 (si (((lk_vdisk_file a1 p0.files).b).length : Int)) [(19, (D.one (C.p false (.sl ((lk_vdisk_file a1 p0.files).b).length (((lk_vdisk_file a1 p0.files).b).flatMap e_u8)))))]), (ft 15 21 (si (IntKind.i64.wrap ((a2.b.length : Int) - (((lk_vdisk_file a1 p0.files).b).length : Int)))) [(12, (si (a2.b.length : Int))), (20, (si (((lk_vdisk_file a1 p0.files).b).length : Int)))]), (ft 16 22 (si (IntKind.i64.wrap (p0.used + (IntKind.i64.wrap ((a2.b.length : Int) - (((lk_vdisk_file a1 p0.files).b).length : Int)))))) [(9, (si p0.used)), (21, (si (IntKind.i64.wrap ((a2.b.length : Int) - (((lk_vdisk_file a1 p0.files).b).length : Int)))))]), (ft 17 23 (rf 0 0) [(6, (rf 0 0))]), (ft 18 24 (rf 0 2) [(23, (rf 0 0))]), (19, ⟨none, (D.one C.top), [(22, (si (IntKind.i64.wrap (p0.used + (IntKind.i64.wrap ((a2.b.length : Int) - (((lk_vdisk_file a1 p0.files).b).length : Int))))))), (24, (rf 0 2))], [(0, (o_vdisk_Disk_03 false (C.mp 1) (C.ref 2 0) p0))], [(0, (some (AObj.cells false [(C.mp 1), (ci p0.room), (ci (IntKind.i64.wrap (p0.used + (IntKind.i64.wrap ((a2.b.length : Int) - (((lk_vdisk_file a1 p0.files).b).length : Int)))))), (C.ref 2 0), (cb p0.dead)])))], none⟩)] [[], [0], [0, 1], [0, 1, 2], [], [4], [4, 5], [], [7], [7, 8], [7, 8, 9], [], [7, 8, 9, 10, 11], [7, 8, 9, 10, 11, 12], [7, 8, 9, 10, 11, 12, 13], [4, 5, 6, 7, 8, 9, 10, 11, 12, 13, 14], (.range 16), (.range 17), (.range 18), (.range 19)] (nl rfl) [0, 1, 2, 3, 0, 1, 2, 0, 1, 2, 3, 0, 4, 5, 6, 7, 8, 9, 10, 11] rfl (TK := []) rfl AllK.nil' (by repeat (first | refine fC ⟨?_, ?_⟩ ?_ | refine sC rfl ?_ | refine hC rfl ?_ | trivial)) ?_ ?_
 ·refine y8 ?_ ?_ ?_ ?_ ?_ ?_ ?_ ?_ (y8 ?_ ?_ ?_ ?_ ?_ ?_ ?_ ?_ (y4 ?_ ?_ ?_ ?_ yN))
  ·intro K _ f w u k
   show Wp K ⟨31, (upd 31 f 0 (rf 0 0)), _⟩
   refine s_move (d := (rf 0 0)) rfl k
  ·intro K _ f w u k
   show Wp K ⟨31, (upd 31 f 6 (rf 0 0)), [_, _, _, _]⟩
   refine s_nilCheck (d := (rf 0 0)) rfl (.inl ⟨_, _, rfl⟩) k
  ·intro K _ f w u k
   show Wp K ⟨31, (upd 31 f 7 (rf 0 0)), [_, _, _, _]⟩
   refine s_fieldRef F.fo_37_2 (by decide) rfl k
  ·intro K _ f w u k
   show Wp K ⟨31, (upd 31 f 8 (rf 0 2)), [(o_vdisk_Disk_03 false (C.mp 1) (C.ref 2 0) p0), _, _, _]⟩
   refine s_load1 (c' := (ci p0.used)) F.ag_3 rfl rfl k
  ·intro K _ f w u k
   show Wp K ⟨31, (upd 31 f 5 (rf 3 0)), [_, _, _, _]⟩
   refine s_fieldRef F.fo_79_0 (by decide) rfl k
  ·intro K _ f w u k
   show Wp K ⟨31, (upd 31 f 10 (rf 3 0)), [_, _, _, (some (AObj.cells true (c_vdisk_file a2)))]⟩
   refine s_load1 (c' := (cl_ e_u8 a2.b)) F.ag_22 rfl rfl k
  ·intro K _ f w u k
   show Wp K ⟨31, (upd 31 f 11 (ds_ e_u8 a2.b)), [_, _, _, _]⟩
   refine s_len (n := a2.b.length) F.u_22 rfl (.inr ⟨(fun _ _ h => by cases h), ⟨_, rfl⟩⟩) k
  ·intro K _ f w u k
   show Wp K ⟨31, (upd 31 f 0 (rf 0 0)), _⟩
   refine s_move (d := (rf 0 0)) rfl k
  ·intro K _ f w u k
   show Wp K ⟨31, (upd 31 f 13 (rf 0 0)), [_, _, _, _]⟩
   refine s_nilCheck (d := (rf 0 0)) rfl (.inl ⟨_, _, rfl⟩) k
  ·intro K _ f w u k
   show Wp K ⟨31, (upd 31 f 14 (rf 0 0)), [_, _, _, _]⟩
   refine s_fieldRef F.fo_37_0 (by decide) rfl k
  ·intro K _ f w u k
   show Wp K ⟨31, (upd 31 f 15 (rf 0 0)), [(o_vdisk_Disk_03 false (C.mp 1) (C.ref 2 0) p0), _, _, _]⟩
   refine s_load1 (c' := (C.mp 1)) F.ag_34 rfl rfl k
  ·intro K _ f w u k
   show Wp K ⟨31, (upd 31 f 1 (st_ a1)), _⟩
   refine s_move (d := (st_ a1)) rfl k
  ·intro K _ f w u k
   show Wp K ⟨31, (upd 31 (upd 31 f 17 (st_ a1)) 16 (D.one (C.mp 1))), [_, (om_ e_vdisk_file p0.files), _, _]⟩
   refine t_lookup (b := true) F.u_34 F.u_9 F.z_79 (z := ((⟨([] : List Int), 0⟩ : vdisk_file) : vdisk_file)) (zs := [(.slice none 0 0), (.int .i64 0)]) rfl (fun h => by cases h) (ac ZRel.n (ac (ZRel.v _ rfl) an)) rfl rfl rfl rfl k
  ·intro K _ f w u k
   show Wp K ⟨31, (upd 31 f 18 (D.agg (c_vdisk_file (lk_vdisk_file a1 p0.files)))), [_, _, _, _]⟩
   refine s_field1 (c := (C.p false (.sl ((lk_vdisk_file a1 p0.files).b).length (((lk_vdisk_file a1 p0.files).b).flatMap e_u8)))) F.fo_79_0 rfl rfl k
  ·intro K _ f w u k
   show Wp K ⟨31, (upd 31 f 19 (D.one (C.p false (.sl ((lk_vdisk_file a1 p0.files).b).length (((lk_vdisk_file a1 p0.files).b).flatMap e_u8))))), [_, _, _, _]⟩
   refine s_len (n := ((lk_vdisk_file a1 p0.files).b).length) F.u_22 rfl (.inr ⟨(fun _ _ h => by cases h), ⟨_, rfl⟩⟩) k
  ·intro K _ f w u k
   show Wp K ⟨31, (upd 31 (upd 31 f 20 (si (((lk_vdisk_file a1 p0.files).b).length : Int))) 12 (si (a2.b.length : Int))), _⟩
   refine s_binI (v := (.int .i64 (IntKind.i64.wrap ((a2.b.length : Int) - (((lk_vdisk_file a1 p0.files).b).length : Int))))) rfl rfl rfl k
  ·intro K _ f w u k
   show Wp K ⟨31, (upd 31 (upd 31 f 21 (si (IntKind.i64.wrap ((a2.b.length : Int) - (((lk_vdisk_file a1 p0.files).b).length : Int))))) 9 (si p0.used)), _⟩
   refine s_binI (v := (.int .i64 (IntKind.i64.wrap (p0.used + (IntKind.i64.wrap ((a2.b.length : Int) - (((lk_vdisk_file a1 p0.files).b).length : Int))))))) rfl rfl rfl k
  ·intro K _ f w u k
   show Wp K ⟨31, (upd 31 f 6 (rf 0 0)), [_, _, _, _]⟩
   refine s_nilCheck (d := (rf 0 0)) rfl (.inl ⟨_, _, rfl⟩) k
  ·intro K _ f w u k
   show Wp K ⟨31, (upd 31 f 23 (rf 0 0)), [_, _, _, _]⟩
   refine s_fieldRef F.fo_37_2 (by decide) rfl k
  ·intro K _ f w u k
   show Wp K ⟨31, (upd 31 (upd 31 f 24 (rf 0 2)) 22 (si (IntKind.i64.wrap (p0.used + (IntKind.i64.wrap ((a2.b.length : Int) - (((lk_vdisk_file a1 p0.files).b).length : Int))))))), [(o_vdisk_Disk_03 false (C.mp 1) (C.ref 2 0) p0), _, _, _]⟩
   refine s_store (cs' := [(C.mp 1), (ci p0.room), (ci (IntKind.i64.wrap (p0.used + (IntKind.i64.wrap ((a2.b.length : Int) - (((lk_vdisk_file a1 p0.files).b).length : Int)))))), (C.ref 2 0), (cb p0.dead)]) rfl rfl rfl (List.cons_ne_nil _ _) rfl F.sz_3 (nl rfl) rfl k
 ·refine AWops.weak (st' := ⟨31, (upd 31 (upd 31 (upd 31 topF 0 (rf 0 0)) 1 (st_ a1)) 5 (rf 3 0)), [(some (AObj.cells false [(C.mp 1), (ci p0.room), (ci (IntKind.i64.wrap (p0.used + (IntKind.i64.wrap ((a2.b.length : Int) - (((lk_vdisk_file a1 p0.files).b).length : Int)))))), (C.ref 2 0), (cb p0.dead)])), (om_ e_vdisk_file p0.files), (bx p2), (some (AObj.cells true (c_vdisk_file a2)))]⟩) (wg 3 [0, 1, 2, 3] [] hx (le_upd (le_upd (le_upd (le_top _) (o1 (.ref rfl))) (o1 .sc)) (o1 (.ref rfl))) (ac (qr rfl rfl) (ac .map (ac qb (ac (.cells (fun _ => rfl) (ac .same (ac .sc an))) an))))) (AWops.nil ?_)
  refine AW.weak (st' := ⟨31, (upd 31 (upd 31 (upd 31 topF 0 (rf 0 0)) 1 (st_ a1)) 5 (rf 3 0)), [(some (AObj.cells false [(C.mp 1), (ci p0.room), (ci (IntKind.i64.wrap (p0.used + (IntKind.i64.wrap ((a2.b.length : Int) - (((lk_vdisk_file a1 p0.files).b).length : Int)))))), (C.ref 2 0), (cb p0.dead)])), (om_ e_vdisk_file p0.files), (bx p2), (some (AObj.cells true (c_vdisk_file a2)))]⟩) (wg 3 [0, 1, 2, 3] [] hx (le_upd (le_upd (le_upd (le_top _) (o1 (.ref rfl))) (o1 .sc)) (o1 (.ref rfl))) (ac (qr rfl rfl) (ac .map (ac qb (ac (.cells (fun _ => rfl) (ac .same (ac .sc an))) an))))) ?_
  refine AW.draw (n := 31) (L := 4) [(ft 0 25 (rf 0 0) [(0, (rf 0 0))]), (ft 1 26 (rf 0 0) [(25, (rf 0 0))]), (ft 2 27 (rf 0 0) [(26, (rf 0 0))]), (3, ⟨some 28, (D.one (C.mp 1)), [(27, (rf 0 0))], [(0, (some (AObj.cells false [(C.mp 1), (ci p0.room), (ci (IntKind.i64.wrap (p0.used + (IntKind.i64.wrap ((a2.b.length : Int) - (((lk_vdisk_file a1 p0.files).b).length : Int)))))), (C.ref 2 0), (cb p0.dead)])))], [], none⟩), (ft 4 29 (st_ a1) [(1, (st_ a1))]), (5, ⟨some 30, (D.agg (c_vdisk_file a2)), [(5, (rf 3 0))], [(3, (some (AObj.cells true (c_vdisk_file a2))))], [], none⟩), (6, ⟨none, (D.one C.top), [(28, (D.one (C.mp 1))), (29, (st_ a1)), (30, (D.agg (c_vdisk_file a2)))], [(1, (om_ e_vdisk_file p0.files))], [(1, (some (AObj.map false (mapE true e_vdisk_file (mset a1 a2 p0.files)))))], none⟩)] [[], [0], [0, 1], [0, 1, 2], [], [], (.range 6)] (nl rfl) [0, 1, 2, 3, 0, 0, 4] rfl (TK := []) rfl AllK.nil' (by repeat (first | refine fC ⟨?_, ?_⟩ ?_ | refine sC rfl ?_ | refine hC rfl ?_ | trivial)) ?_ ?_
  ·refine y4 ?_ ?_ ?_ ?_ (y2 ?_ ?_ (pC ?_ yN))
   ·intro K _ f w u k
    show Wp K ⟨31, (upd 31 f 0 (rf 0 0)), _⟩
    refine s_move (d := (rf 0 0)) rfl k
   ·intro K _ f w u k
    show Wp K ⟨31, (upd 31 f 25 (rf 0 0)), [_, _, _, _]⟩
    refine s_nilCheck (d := (rf 0 0)) rfl (.inl ⟨_, _, rfl⟩) k
   ·intro K _ f w u k
    show Wp K ⟨31, (upd 31 f 26 (rf 0 0)), [_, _, _, _]⟩
    refine s_fieldRef F.fo_37_0 (by decide) rfl k
   ·intro K _ f w u k
    show Wp K ⟨31, (upd 31 f 27 (rf 0 0)), [(some (AObj.cells false [(C.mp 1), (ci p0.room), (ci (IntKind.i64.wrap (p0.used + (IntKind.i64.wrap ((a2.b.length : Int) - (((lk_vdisk_file a1 p0.files).b).length : Int)))))), (C.ref 2 0), (cb p0.dead)])), _, _, _]⟩
    refine s_load1 (c' := (C.mp 1)) F.ag_34 rfl rfl k
   ·intro K _ f w u k
    show Wp K ⟨31, (upd 31 f 1 (st_ a1)), _⟩
    refine s_move (d := (st_ a1)) rfl k
   ·intro K _ f w u k
    show Wp K ⟨31, (upd 31 f 5 (rf 3 0)), [_, _, _, (some (AObj.cells true (c_vdisk_file a2)))]⟩
    refine s_loadN (ds := (c_vdisk_file a2)) F.ag_79 F.sz_79 rfl rfl rfl k
   ·intro K _ f w u k
    show Wp K ⟨31, (upd 31 (upd 31 (upd 31 f 30 (D.agg (c_vdisk_file a2))) 29 (st_ a1)) 28 (D.one (C.mp 1))), [_, (om_ e_vdisk_file p0.files), _, _]⟩
    refine t_mapSet (b := true) (u := a2) F.u_34 F.u_9 (fun h => by cases h) rfl rfl rfl rfl rfl k
  ·refine AWops.weak (st' := ⟨31, topF, [(some (AObj.cells false [(C.mp 1), (ci p0.room), (ci (IntKind.i64.wrap (p0.used + (IntKind.i64.wrap ((a2.b.length : Int) - (((lk_vdisk_file a1 p0.files).b).length : Int)))))), (C.ref 2 0), (cb p0.dead)])), (some (AObj.map false (mapE true e_vdisk_file (mset a1 a2 p0.files)))), (bx p2)]⟩) (wg 3 [0, 1, 2] [] hx (le_top _) (ac (qr rfl rfl) (ac .map (ac qb an)))) (AWops.nil ?_)
   obtain rfl := Option.some.inj h
   exact ⟨_, rfl, (wg 3 [0, 1, 2] [] rfl (le_upd (le_top _) (DLe.tup an)) (ac (qr rfl rfl) (ac .map (ac qb an))))⟩
def vdisk_Disk_Append_25.f (k : Nat) (p0 : vdisk_Disk) (a1 : ByteArray) (p1 : List Int) (p3 : Int) : Option (Int × vdisk_Disk × Int) := (vdisk_named.f k a1).bind fun r1 => (vdisk_Disk_change_55.f k p0 r1 a1 true (p1.length : Int) p3).bind fun r2 => if (r2.1 == 0) = true then ((slices_Concat_byte_byte_57.f k ((lk_vdisk_file a1 r2.2.1.files).b) p1).bind fun r4 => (vdisk_Disk_set_36.f k r2.2.1 a1 (⟨r4, (lk_vdisk_file a1 r2.2.1.files).sure⟩ : vdisk_file) r2.2.2).bind fun r5 => some (r2.1, r5, r2.2.2)) else (some (r2.1, r2.2.1, r2.2.2))
theorem vdisk_Disk_Append_25.meets (k : Nat) (p0 : vdisk_Disk) (a1 : ByteArray) (p1 : List Int) (p3 : Int) (r : Int × vdisk_Disk × Int) (h : vdisk_Disk_Append_25.f k p0 a1 p1 p3 = some r) : Meets Try.prog 25 [(rf 0 0), (st_ a1), (D.one (C.own 1 0 p1.length 1))] [(o_vdisk_Disk_03 false (C.mp 2) (C.ref 3 0) p0), (or_ e_u8 p1), (om_ e_vdisk_file p0.files), (bx p3)] (si r.1) [(o_vdisk_Disk_03 false (C.mp 2) (C.ref 3 0) r.2.1), (or_ e_u8 p1), (om_ e_vdisk_file r.2.1.files), (bx r.2.2)] := by
 unfold vdisk_Disk_Append_25.f at h
 refine Meets.of_body (n := 36) Try.func25 rfl rfl (nl rfl) fun x hx => ?_
 replace hx : x.k = 4 := hx
 show AW _ x _ _ ⟨36, fr0 [(rf 0 0), (st_ a1), (D.one (C.own 1 0 p1.length 1))], [(o_vdisk_Disk_03 false (C.mp 2) (C.ref 3 0) p0), (or_ e_u8 p1), (om_ e_vdisk_file p0.files), (bx p3)]⟩
 refine AW.seq (AW.region ?_)
 refine s_assign (d := (si 0)) rfl (AWops.nil (AW.seq (AW.region ?_)))
 refine s_move (d := (rf 0 0)) rfl (s_move (d := (st_ a1)) rfl ?_)
 obtain ⟨r1, er1, h⟩ := bnd h
 refine cc [] [(o_vdisk_Disk_03 false (C.mp 2) (C.ref 3 0) p0), (or_ e_u8 p1), (om_ e_vdisk_file p0.files), (bx p3)] (sb r1) F.ca_56 rfl rfl (ac (.one .sc) an) an (vdisk_named.meets _ a1 r1 er1) (s_move (d := (st_ a1)) rfl (s_move (d := (D.one (C.own 1 0 p1.length 1))) rfl (s_len (n := p1.length) F.u_22 rfl (.inr ⟨(fun _ _ h => by cases h), ⟨_, rfl⟩⟩) ?_)))
 obtain ⟨r2, er2, h⟩ := bnd h
 refine cc [0, 2, 3] [(o_vdisk_Disk_03 false (C.mp 2) (C.ref 3 0) r2.2.1), (or_ e_u8 p1), (om_ e_vdisk_file r2.2.1.files), (bx r2.2.2)] (si r2.1) F.ca_55 rfl rfl (ac (.one (.ref rfl)) (ac (.one .sc) (ac (.one .sc) (ac (.one .sc) (ac (.one .sc) an))))) (ac (.cells (ac (.mp rfl) (ac .sc (ac .sc (ac (.ref rfl) (ac .sc an)))))) (ac .map (ac (.cells (ac .sc an)) an))) (vdisk_Disk_change_55.meets _ p0 r1 a1 true (p1.length : Int) p3 r2 er2) (s_assign (d := (si r2.1)) rfl (AWops.nil (AW.seq (AW.seq (AW.region (s_move (d := (si r2.1)) rfl (s_binI (v := (.bool (r2.1 == 0))) rfl rfl rfl (AWops.nil ?_))))))))
 rcases itH h with ⟨c3, h⟩ | ⟨c3, h⟩
 ·refine AW.cond_yes rfl c3 (AW.seq (AW.region ?_))
  refine s_move (d := (rf 0 0)) rfl (s_nilCheck (d := (rf 0 0)) rfl (.inl ⟨_, _, rfl⟩) (s_fieldRef F.fo_37_0 (by decide) rfl (s_load1 (c' := (C.mp 2)) F.ag_34 rfl rfl (s_move (d := (st_ a1)) rfl (t_lookup (b := true) F.u_34 F.u_9 F.z_79 (z := ((⟨([] : List Int), 0⟩ : vdisk_file) : vdisk_file)) (zs := [(.slice none 0 0), (.int .i64 0)]) rfl (fun h => by cases h) (ac ZRel.n (ac (ZRel.v _ rfl) an)) rfl rfl rfl rfl ?_)))))
  refine s_alloc (cs := [(C.p true (.v (.slice none 0 0))), (ci 0)]) F.z_79 rfl rfl (s_store (cs' := (c_vdisk_file (lk_vdisk_file a1 r2.2.1.files))) rfl rfl rfl (List.cons_ne_nil _ _) rfl F.sz_79 (nl rfl) rfl (AWops.nil ?_))
  refine AW.weak (st' := ⟨36, (upd 36 (upd 36 (upd 36 (upd 36 (upd 36 topF 0 (rf 0 0)) 1 (st_ a1)) 2 (D.one (C.own 1 0 p1.length 1))) 7 (si r2.1)) 8 (rf 4 0)), [(o_vdisk_Disk_03 false (C.mp 2) (C.ref 3 0) r2.2.1), (or_ e_u8 p1), (om_ e_vdisk_file r2.2.1.files), (bx r2.2.2), (some (AObj.cells true (c_vdisk_file (lk_vdisk_file a1 r2.2.1.files))))]⟩) (wg 4 [0, 1, 2, 3, 4] [] hx (le_upd (le_upd (le_upd (le_upd (le_upd (le_top _) (o1 (.ref rfl))) (o1 .sc)) (o1 (.own rfl))) (o1 .sc)) (o1 (.ref rfl))) (ac (qr rfl rfl) (ac (.cells id (all2_row _)) (ac .map (ac qb (ac (.cells (fun _ => rfl) (ac .same (ac .sc an))) an)))))) ?_
  obtain ⟨r4, er4, h⟩ := bnd h
  obtain ⟨r5, er5, h⟩ := bnd h
  refine AW.draw (n := 36) (L := 8) [(ft 0 24 (rf 0 0) [(0, (rf 0 0))]), (ft 1 25 (st_ a1) [(1, (st_ a1))]), (ft 2 26 (rf 4 0) [(8, (rf 4 0))]), (3, ⟨some 27, (D.one (C.p false (.sl ((lk_vdisk_file a1 r2.2.1.files).b).length (((lk_vdisk_file a1 r2.2.1.files).b).flatMap e_u8)))), [(26, (rf 4 0))], [(4, (some (AObj.cells true (c_vdisk_file (lk_vdisk_file a1 r2.2.1.files)))))], [], none⟩), (ft 4 28 (D.one (C.own 1 0 p1.length 1)) [(2, (D.one (C.own 1 0 p1.length 1)))]), (5, ⟨some 29, (D.one (C.own 5 0 2 1)), [(27, (D.one (C.p false (.sl ((lk_vdisk_file a1 r2.2.1.files).b).length (((lk_vdisk_file a1 r2.2.1.files).b).flatMap e_u8))))), (28, (D.one (C.own 1 0 p1.length 1)))], [], [(5, (some (AObj.cells true [(C.p false (.sl ((lk_vdisk_file a1 r2.2.1.files).b).length (((lk_vdisk_file a1 r2.2.1.files).b).flatMap e_u8))), (C.own 1 0 p1.length 1)])))], some 5⟩), (6, ⟨some 30, (ds_ e_u8 r4), [(29, (D.one (C.own 5 0 2 1)))], [(1, (or_ e_u8 p1)), (5, (some (AObj.cells true [(C.p false (.sl ((lk_vdisk_file a1 r2.2.1.files).b).length (((lk_vdisk_file a1 r2.2.1.files).b).flatMap e_u8))), (C.own 1 0 p1.length 1)])))], [(5, (some (AObj.cells true [(C.p false (.sl ((lk_vdisk_file a1 r2.2.1.files).b).length (((lk_vdisk_file a1 r2.2.1.files).b).flatMap e_u8))), (C.own 1 0 p1.length 1)])))], some 6⟩), (ft 7 31 (rf 4 1) [(8, (rf 4 0))]), (8, ⟨some 32, (si ((lk_vdisk_file a1 r2.2.1.files).sure)), [(31, (rf 4 1))], [(4, (some (AObj.cells true (c_vdisk_file (lk_vdisk_file a1 r2.2.1.files)))))], [], none⟩), (ft 9 33 (D.agg [(cl_ e_u8 r4), (ci ((lk_vdisk_file a1 r2.2.1.files).sure))]) [(30, (ds_ e_u8 r4)), (32, (si ((lk_vdisk_file a1 r2.2.1.files).sure)))]), (10, ⟨some 34, (D.tup []), [(24, (rf 0 0)), (25, (st_ a1)), (33, (D.agg [(cl_ e_u8 r4), (ci ((lk_vdisk_file a1 r2.2.1.files).sure))]))], [(0, (o_vdisk_Disk_03 false (C.mp 2) (C.ref 3 0) r2.2.1)), (2, (om_ e_vdisk_file r2.2.1.files)), (3, (bx r2.2.2))], [(0, (o_vdisk_Disk_03 false (C.mp 2) (C.ref 3 0) r5)), (2, (om_ e_vdisk_file r5.files))], none⟩)] [[], [], [], [2], [], [2, 3, 4], [2, 3, 4, 5], [], [7], [2, 3, 4, 5, 6, 7, 8], (.range 10)] (nl rfl) [0, 0, 0, 1, 0, 2, 3, 0, 1, 4, 5] rfl (TK := [(5, 5), (6, 6)]) rfl (AllK.cons' ⟨(tk_upd (tk_upd (tk_upd (tk_upd (tk_upd tk_top rfl) rfl) rfl) rfl) rfl), (tC rfl (tC (tkO_row _) (tC rfl (tC rfl (tC rfl AllT.nil'))))), (fC (.inr rfl) (fC (.inr rfl) (fC (.inr rfl) (fC (.inr rfl) (fC (.inr rfl) (fC (.inl rfl) (fC (.inl rfl) (fC (.inr rfl) (fC (.inr rfl) (fC (.inl rfl) (fC (.inl rfl) AllF.nil')))))))))))⟩ (AllK.cons' ⟨(tk_upd (tk_upd (tk_upd (tk_upd (tk_upd tk_top rfl) rfl) rfl) rfl) rfl), (tC rfl (tC (tkO_row _) (tC rfl (tC rfl (tC rfl AllT.nil'))))), (fC (.inr rfl) (fC (.inr rfl) (fC (.inr rfl) (fC (.inr rfl) (fC (.inr rfl) (fC (.inr rfl) (fC (.inl rfl) (fC (.inr rfl) (fC (.inr rfl) (fC (.inl rfl) (fC (.inl rfl) AllF.nil')))))))))))⟩ AllK.nil')) (by repeat (first | refine fC ⟨?_, ?_⟩ ?_ | refine sC rfl ?_ | refine hC rfl ?_ | trivial)) ?_ ?_
  ·refine y8 ?_ ?_ ?_ ?_ ?_ ?_ ?_ ?_ (y2 ?_ ?_ (pC ?_ yN))
   ·intro K _ f w u k
    show Wp K ⟨36, (upd 36 f 0 (rf 0 0)), _⟩
    refine s_move (d := (rf 0 0)) rfl k
   ·intro K _ f w u k
    show Wp K ⟨36, (upd 36 f 1 (st_ a1)), _⟩
    refine s_move (d := (st_ a1)) rfl k
   ·intro K _ f w u k
    show Wp K ⟨36, (upd 36 f 8 (rf 4 0)), [_, _, _, _, _, _, _, _]⟩
    refine s_fieldRef F.fo_79_0 (by decide) rfl k
   ·intro K _ f w u k
    show Wp K ⟨36, (upd 36 f 26 (rf 4 0)), [_, _, _, _, (some (AObj.cells true (c_vdisk_file (lk_vdisk_file a1 r2.2.1.files)))), _, _, _]⟩
    refine s_load1 (c' := (C.p false (.sl ((lk_vdisk_file a1 r2.2.1.files).b).length (((lk_vdisk_file a1 r2.2.1.files).b).flatMap e_u8)))) F.ag_22 rfl rfl k
   ·intro K _ f w u k
    show Wp K ⟨36, (upd 36 f 2 (D.one (C.own 1 0 p1.length 1))), _⟩
    refine s_move (d := (D.one (C.own 1 0 p1.length 1))) rfl k
   ·intro K _ f w u k
    show Wp K ⟨36, (upd 36 (upd 36 f 28 (D.one (C.own 1 0 p1.length 1))) 27 (D.one (C.p false (.sl ((lk_vdisk_file a1 r2.2.1.files).b).length (((lk_vdisk_file a1 r2.2.1.files).b).flatMap e_u8))))), [_, _, _, _, _, _, _, _]⟩
    refine s_buildSlice (n := 2) (ps := [(0, (D.one (C.p false (.sl ((lk_vdisk_file a1 r2.2.1.files).b).length (((lk_vdisk_file a1 r2.2.1.files).b).flatMap e_u8))))), (1, (D.one (C.own 1 0 p1.length 1)))]) (cs := [(C.p false (.sl ((lk_vdisk_file a1 r2.2.1.files).b).length (((lk_vdisk_file a1 r2.2.1.files).b).flatMap e_u8))), (C.own 1 0 p1.length 1)]) F.u_25 F.sz_22 F.z_22 rfl rfl (by decide) (by decide) rfl rfl ?_
    refine AWops.weak (st' := ⟨36, (upd 36 (upd 36 (upd 36 f 28 (D.one (C.own 1 0 p1.length 1))) 27 (D.one (C.p false (.sl ((lk_vdisk_file a1 r2.2.1.files).b).length (((lk_vdisk_file a1 r2.2.1.files).b).flatMap e_u8))))) 29 (D.one (C.own 5 0 2 1))), [(w 0), (w 1), (w 2), (w 3), (w 4), (some (AObj.cells true [(C.p false (.sl ((lk_vdisk_file a1 r2.2.1.files).b).length (((lk_vdisk_file a1 r2.2.1.files).b).flatMap e_u8))), (C.own 1 0 p1.length 1)])), (w 6), (w 7)]⟩) (wg 4 [0, 1, 2, 3, 4, 8, 6, 7] [] hx (le_upd2 (le_ok (p := 5) (L := 8) rfl (u 5 rfl).1) (o1 (.own rfl))) (ac (oq 5 8 (u 5 rfl) 0) (ac (oq 5 8 (u 5 rfl) 1) (ac (oq 5 8 (u 5 rfl) 2) (ac (oq 5 8 (u 5 rfl) 3) (ac (oq 5 8 (u 5 rfl) 4) (ac (.cells (fun _ => rfl) (ac .same (ac (.own rfl) an))) (ac (oq 5 8 (u 5 rfl) 6) (ac (oq 5 8 (u 5 rfl) 7) an))))))))) k
   ·intro K _ f w u k
    show Wp K ⟨36, (upd 36 f 29 (D.one (C.own 5 0 2 1))), [_, (or_ e_u8 p1), _, _, _, (some (AObj.cells true [(C.p false (.sl ((lk_vdisk_file a1 r2.2.1.files).b).length (((lk_vdisk_file a1 r2.2.1.files).b).flatMap e_u8))), (C.own 1 0 p1.length 1)])), _, _]⟩
    refine cc [5, 1] [(w 0), (or_ e_u8 p1), (w 2), (w 3), (w 4), (some (AObj.cells true [(C.p false (.sl ((lk_vdisk_file a1 r2.2.1.files).b).length (((lk_vdisk_file a1 r2.2.1.files).b).flatMap e_u8))), (C.own 1 0 p1.length 1)])), (w 6), (w 7), (ow_ e_u8 r4)] (D.one (C.own 8 0 r4.length 1)) F.ca_57 rfl rfl (ac (.one (.own rfl)) an) (ac (.cells (ac .imm (ac (.own rfl) an))) (ac (.cells (lend_row _)) an)) (slices_Concat_byte_byte_57.meets _ ((lk_vdisk_file a1 r2.2.1.files).b) p1 r4 er4) ?_
    refine AWops.weak (st' := ⟨36, (upd 36 (upd 36 f 29 (D.one (C.own 5 0 2 1))) 30 (ds_ e_u8 r4)), [(w 0), (or_ e_u8 p1), (w 2), (w 3), (w 4), (some (AObj.cells true [(C.p false (.sl ((lk_vdisk_file a1 r2.2.1.files).b).length (((lk_vdisk_file a1 r2.2.1.files).b).flatMap e_u8))), (C.own 1 0 p1.length 1)])), (w 6), (w 7)]⟩) (wg 4 [0, 1, 2, 3, 4, 5, 6, 7] [8] hx (le_upd2 (le_ok (p := 6) (L := 8) rfl (u 6 rfl).1) (o1 (CLe.frz e_u8_len rfl rfl rfl))) (ac (oq 6 8 (u 6 rfl) 0) (ac (.cells id (all2_row _)) (ac (oq 6 8 (u 6 rfl) 2) (ac (oq 6 8 (u 6 rfl) 3) (ac (oq 6 8 (u 6 rfl) 4) (ac (.cells (fun _ => rfl) (ac .same (ac (.own rfl) an))) (ac (oq 6 8 (u 6 rfl) 6) (ac (oq 6 8 (u 6 rfl) 7) an))))))))) k
   ·intro K _ f w u k
    show Wp K ⟨36, (upd 36 f 8 (rf 4 0)), [_, _, _, _, _, _, _, _]⟩
    refine s_fieldRef F.fo_79_1 (by decide) rfl k
   ·intro K _ f w u k
    show Wp K ⟨36, (upd 36 f 31 (rf 4 1)), [_, _, _, _, (some (AObj.cells true (c_vdisk_file (lk_vdisk_file a1 r2.2.1.files)))), _, _, _]⟩
    refine s_load1 (c' := (ci ((lk_vdisk_file a1 r2.2.1.files).sure))) F.ag_3 rfl rfl k
   ·intro K _ f w u k
    show Wp K ⟨36, (upd 36 (upd 36 f 32 (si ((lk_vdisk_file a1 r2.2.1.files).sure))) 30 (ds_ e_u8 r4)), [_, _, _, _, _, _, _, _]⟩
    refine s_build (ps := [(0, (ds_ e_u8 r4)), (1, (si ((lk_vdisk_file a1 r2.2.1.files).sure)))]) (cs := [(cl_ e_u8 r4), (ci ((lk_vdisk_file a1 r2.2.1.files).sure))]) F.z_79 rfl F.so_79 rfl rfl k
   ·intro K _ f w u k
    show Wp K ⟨36, (upd 36 (upd 36 (upd 36 f 33 (D.agg [(cl_ e_u8 r4), (ci ((lk_vdisk_file a1 r2.2.1.files).sure))])) 25 (st_ a1)) 24 (rf 0 0)), [(o_vdisk_Disk_03 false (C.mp 2) (C.ref 3 0) r2.2.1), _, (om_ e_vdisk_file r2.2.1.files), (bx r2.2.2), _, _, _, _]⟩
    refine cc [0, 2, 3] [(o_vdisk_Disk_03 false (C.mp 2) (C.ref 3 0) r5), (w 1), (om_ e_vdisk_file r5.files), (bx r2.2.2), (w 4), (w 5), (w 6), (w 7)] (D.tup []) F.ca_36 rfl rfl (ac (.one (.ref rfl)) (ac (.one .sc) (ac (LendT.aggL (ac .imm (ac .sc an))) an))) (ac (.cells (ac (.mp rfl) (ac .sc (ac .sc (ac (.ref rfl) (ac .sc an)))))) (ac .map (ac (.cells (ac .sc an)) an))) (vdisk_Disk_set_36.meets _ r2.2.1 a1 (⟨r4, (lk_vdisk_file a1 r2.2.1.files).sure⟩ : vdisk_file) r2.2.2 r5 er5) k
  ·refine AWops.weak (st' := ⟨36, (upd 36 topF 7 (si r2.1)), [(o_vdisk_Disk_03 false (C.mp 2) (C.ref 3 0) r5), (or_ e_u8 p1), (om_ e_vdisk_file r5.files), (bx r2.2.2)]⟩) (wg 4 [0, 1, 2, 3] [] hx (le_upd (le_top _) (o1 .sc)) (ac (qr rfl rfl) (ac (.cells id (all2_row _)) (ac .map (ac qb an))))) (AWops.nil (AW.seq (AW.region ?_)))
   refine s_move (d := (si r2.1)) rfl (s_assign (d := (si r2.1)) rfl (AWops.nil (AW.ret ?_)))
   obtain rfl := Option.some.inj h
   exact ⟨_, rfl, (wg 4 [0, 1, 2, 3] [] rfl (le_upd (le_top _) (o1 .sc)) (ac (qr rfl rfl) (ac (.cells id (all2_row _)) (ac .map (ac qb an)))))⟩
 ·refine AW.cond_no rfl c3 (AW.skip (AW.seq (AW.region ?_)))
  refine s_move (d := (si r2.1)) rfl (s_assign (d := (si r2.1)) rfl (AWops.nil (AW.ret ?_)))
  obtain rfl := Option.some.inj h
  exact ⟨_, rfl, (wg 4 [0, 1, 2, 3] [] rfl (le_upd (le_top _) (o1 .sc)) (ac (qr rfl rfl) (ac (.cells id (all2_row _)) (ac .map (ac qb an)))))⟩
def vdisk_Disk_Sync_27.f (k : Nat) (p0 : vdisk_Disk) (a1 : ByteArray) (p2 : Int) : Option (Int × vdisk_Disk × Int) := (vdisk_Disk_change_55.f k p0 true a1 false 0 p2).bind fun r1 => if (r1.1 == 0) = true then ((vdisk_Disk_set_36.f k r1.2.1 a1 (⟨(lk_vdisk_file a1 r1.2.1.files).b, (((lk_vdisk_file a1 r1.2.1.files).b).length : Int)⟩ : vdisk_file) r1.2.2).bind fun r3 => some (r1.1, r3, r1.2.2)) else (some (r1.1, r1.2.1, r1.2.2))
theorem vdisk_Disk_Sync_27.meets (k : Nat) (p0 : vdisk_Disk) (a1 : ByteArray) (p2 : Int) (r : Int × vdisk_Disk × Int) (h : vdisk_Disk_Sync_27.f k p0 a1 p2 = some r) : Meets Try.prog 27 [(rf 0 0), (st_ a1)] [(o_vdisk_Disk_03 false (C.mp 1) (C.ref 2 0) p0), (om_ e_vdisk_file p0.files), (bx p2)] (si r.1) [(o_vdisk_Disk_03 false (C.mp 1) (C.ref 2 0) r.2.1), (om_ e_vdisk_file r.2.1.files), (bx r.2.2)] := by
 unfold vdisk_Disk_Sync_27.f at h
 refine Meets.of_body (n := 27) Try.func27 rfl rfl (nl rfl) fun x hx => ?_
 replace hx : x.k = 3 := hx
 show AW _ x _ _ ⟨27, fr0 [(rf 0 0), (st_ a1)], [(o_vdisk_Disk_03 false (C.mp 1) (C.ref 2 0) p0), (om_ e_vdisk_file p0.files), (bx p2)]⟩
 refine AW.seq (AW.region ?_)
 refine s_assign (d := (si 0)) rfl (AWops.nil (AW.seq (AW.region ?_)))
 refine s_move (d := (rf 0 0)) rfl (s_move (d := (st_ a1)) rfl ?_)
 obtain ⟨r1, er1, h⟩ := bnd h
 refine cc [0, 1, 2] [(o_vdisk_Disk_03 false (C.mp 1) (C.ref 2 0) r1.2.1), (om_ e_vdisk_file r1.2.1.files), (bx r1.2.2)] (si r1.1) F.ca_55 rfl rfl (ac (.one (.ref rfl)) (ac (.one .sc) (ac (.one .sc) (ac (.one .sc) (ac (.one .sc) an))))) (ac (.cells (ac (.mp rfl) (ac .sc (ac .sc (ac (.ref rfl) (ac .sc an)))))) (ac .map (ac (.cells (ac .sc an)) an))) (vdisk_Disk_change_55.meets _ p0 true a1 false 0 p2 r1 er1) (s_assign (d := (si r1.1)) rfl (AWops.nil (AW.seq (AW.seq (AW.region (s_move (d := (si r1.1)) rfl (s_binI (v := (.bool (r1.1 == 0))) rfl rfl rfl (AWops.nil ?_))))))))
 rcases itH h with ⟨c2, h⟩ | ⟨c2, h⟩
 ·refine AW.cond_yes rfl c2 (AW.seq (AW.region ?_))
  refine s_move (d := (rf 0 0)) rfl (s_nilCheck (d := (rf 0 0)) rfl (.inl ⟨_, _, rfl⟩) (s_fieldRef F.fo_37_0 (by decide) rfl (s_load1 (c' := (C.mp 1)) F.ag_34 rfl rfl (s_move (d := (st_ a1)) rfl (t_lookup (b := true) F.u_34 F.u_9 F.z_79 (z := ((⟨([] : List Int), 0⟩ : vdisk_file) : vdisk_file)) (zs := [(.slice none 0 0), (.int .i64 0)]) rfl (fun h => by cases h) (ac ZRel.n (ac (ZRel.v _ rfl) an)) rfl rfl rfl rfl ?_)))))
  refine s_field1 (c := (C.p false (.sl ((lk_vdisk_file a1 r1.2.1.files).b).length (((lk_vdisk_file a1 r1.2.1.files).b).flatMap e_u8)))) F.fo_79_0 rfl rfl (s_assign (d := (D.one (C.p false (.sl ((lk_vdisk_file a1 r1.2.1.files).b).length (((lk_vdisk_file a1 r1.2.1.files).b).flatMap e_u8))))) rfl (AWops.nil (AW.region (s_move (d := (rf 0 0)) rfl (s_move (d := (st_ a1)) rfl (s_move (d := (D.one (C.p false (.sl ((lk_vdisk_file a1 r1.2.1.files).b).length (((lk_vdisk_file a1 r1.2.1.files).b).flatMap e_u8))))) rfl (s_move (d := (D.one (C.p false (.sl ((lk_vdisk_file a1 r1.2.1.files).b).length (((lk_vdisk_file a1 r1.2.1.files).b).flatMap e_u8))))) rfl ?_)))))))
  refine s_len (n := ((lk_vdisk_file a1 r1.2.1.files).b).length) F.u_22 rfl (.inr ⟨(fun _ _ h => by cases h), ⟨_, rfl⟩⟩) (s_build (ps := [(0, (D.one (C.p false (.sl ((lk_vdisk_file a1 r1.2.1.files).b).length (((lk_vdisk_file a1 r1.2.1.files).b).flatMap e_u8))))), (1, (si (((lk_vdisk_file a1 r1.2.1.files).b).length : Int)))]) (cs := [(C.p false (.sl ((lk_vdisk_file a1 r1.2.1.files).b).length (((lk_vdisk_file a1 r1.2.1.files).b).flatMap e_u8))), (ci (((lk_vdisk_file a1 r1.2.1.files).b).length : Int))]) F.z_79 rfl F.so_79 rfl rfl ?_)
  obtain ⟨r3, er3, h⟩ := bnd h
  refine cc [0, 1, 2] [(o_vdisk_Disk_03 false (C.mp 1) (C.ref 2 0) r3), (om_ e_vdisk_file r3.files), (bx r1.2.2)] (D.tup []) F.ca_36 rfl rfl (ac (.one (.ref rfl)) (ac (.one .sc) (ac (LendT.aggL (ac .imm (ac .sc an))) an))) (ac (.cells (ac (.mp rfl) (ac .sc (ac .sc (ac (.ref rfl) (ac .sc an)))))) (ac .map (ac (.cells (ac .sc an)) an))) (vdisk_Disk_set_36.meets _ r1.2.1 a1 (⟨(lk_vdisk_file a1 r1.2.1.files).b, (((lk_vdisk_file a1 r1.2.1.files).b).length : Int)⟩ : vdisk_file) r1.2.2 r3 er3) (AWops.nil (AW.seq (AW.region ?_)))
  refine s_move (d := (si r1.1)) rfl (s_assign (d := (si r1.1)) rfl (AWops.nil (AW.ret ?_)))
  obtain rfl := Option.some.inj h
  exact ⟨_, rfl, (wg 3 [0, 1, 2] [] rfl (le_upd (le_top _) (o1 .sc)) (ac (qr rfl rfl) (ac .map (ac qb an))))⟩
 ·refine AW.cond_no rfl c2 (AW.skip (AW.seq (AW.region ?_)))
  refine s_move (d := (si r1.1)) rfl (s_assign (d := (si r1.1)) rfl (AWops.nil (AW.ret ?_)))
  obtain rfl := Option.some.inj h
  exact ⟨_, rfl, (wg 3 [0, 1, 2] [] rfl (le_upd (le_top _) (o1 .sc)) (ac (qr rfl rfl) (ac .map (ac qb an))))⟩
end Go.Abs.GenK
