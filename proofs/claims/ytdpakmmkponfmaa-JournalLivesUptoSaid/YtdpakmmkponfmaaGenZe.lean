import Derived.Test.YtdpakmmkponfmaaGenZd
set_option linter.unusedVariables false
set_option linter.unusedSimpArgs false
set_option maxRecDepth 100000
set_option maxHeartbeats 4000000
namespace Go.Abs.GenZ
open Go.Abs Go.Proofs
mutual
def journal_Journal_Append_15.j0 : Nat → (Option Int) → Int → Int → Bool → (List (ByteArray × vdisk_file)) → Int → journal_Journal → (List Int) → Option (Int × journal_Journal × vdisk_Disk)
 | 0, _, _, _, _, _, _, _, _ => none
 | k + 1, x9, x10, x11, x12, x13, x14, p0, a1 => if (x14 != 0) = true then (some (x14, (⟨(), p0.snap, p0.l, true⟩ : journal_Journal), (⟨x13, x10, x11, x9, x12⟩ : vdisk_Disk))) else ((slices_Clone_byte_byte.f k a1).bind fun r16 => if (decide (p0.l.length + ([r16] : List (List Int)).length ≤ 5864062014805)) = true then (some (0, (⟨(), p0.snap, p0.l ++ ([r16] : List (List Int)), p0.stopped⟩ : journal_Journal), (⟨x13, x10, x11, x9, x12⟩ : vdisk_Disk))) else none)
def journal_Journal_Append_15.j1 : Nat → (Option Int) → Int → Int → Bool → (List (ByteArray × vdisk_file)) → Int → journal_Journal → (List Int) → Option (Int × journal_Journal × vdisk_Disk)
 | 0, _, _, _, _, _, _, _, _ => none
 | k + 1, x25, x26, x27, x28, x29, x30, p0, a1 => if (x30 != 0) = true then (some (x30, (⟨(), p0.snap, p0.l, true⟩ : journal_Journal), (⟨x29, x26, x27, x25, x28⟩ : vdisk_Disk))) else ((slices_Clone_byte_byte.f k a1).bind fun r32 => if (decide (p0.l.length + ([r32] : List (List Int)).length ≤ 5864062014805)) = true then (some (0, (⟨(), p0.snap, p0.l ++ ([r32] : List (List Int)), p0.stopped⟩ : journal_Journal), (⟨x29, x26, x27, x25, x28⟩ : vdisk_Disk))) else none)
end
def journal_Journal_Append_15.f (k : Nat) (p0 : journal_Journal) (a1 : List Int) (p1 : vdisk_Disk) : Option (Int × journal_Journal × vdisk_Disk) := if (decide ((a1.length : Int) > 0)) = true then ((journal_Journal_may.f k p0 (decide ((a1.length : Int) ≤ 4194304)) p1).bind fun r2 => if (r2 != 0) = true then (some (r2, p0, p1)) else ((journal_frame.f k a1).bind fun r4 => (vdisk_Disk_Append.f k p1 (⟨#[106, 111, 117, 114, 110, 97, 108]⟩ : ByteArray) r4).bind fun r5 => if (r5.1 == 71) = true then (some (r5.1, p0, r5.2)) else (if (r5.1 == 0) = true then ((vdisk_Disk_Sync.f k r5.2 (⟨#[106, 111, 117, 114, 110, 97, 108]⟩ : ByteArray)).bind fun r8 => journal_Journal_Append_15.j0 k r8.2.fuse r8.2.room r8.2.used r8.2.dead r8.2.files r8.1 p0 a1) else (journal_Journal_Append_15.j0 k r5.2.fuse r5.2.room r5.2.used r5.2.dead r5.2.files r5.1 p0 a1)))) else ((journal_Journal_may.f k p0 false p1).bind fun r18 => if (r18 != 0) = true then (some (r18, p0, p1)) else ((journal_frame.f k a1).bind fun r20 => (vdisk_Disk_Append.f k p1 (⟨#[106, 111, 117, 114, 110, 97, 108]⟩ : ByteArray) r20).bind fun r21 => if (r21.1 == 71) = true then (some (r21.1, p0, r21.2)) else (if (r21.1 == 0) = true then ((vdisk_Disk_Sync.f k r21.2 (⟨#[106, 111, 117, 114, 110, 97, 108]⟩ : ByteArray)).bind fun r24 => journal_Journal_Append_15.j1 k r24.2.fuse r24.2.room r24.2.used r24.2.dead r24.2.files r24.1 p0 a1) else (journal_Journal_Append_15.j1 k r21.2.fuse r21.2.room r21.2.used r21.2.dead r21.2.files r21.1 p0 a1))))
theorem journal_Journal_Append_15.meets (k : Nat) (p0 : journal_Journal) (a1 : List Int) (p1 : vdisk_Disk) (r : Int × journal_Journal × vdisk_Disk) (h : journal_Journal_Append_15.f k p0 a1 p1 = some r) : Meets Try.prog 15 [(rf 0 0), (D.one (C.p false (.sl a1.length (a1.flatMap e_u8))))] [(o_journal_Journal_02 false (C.ref 1 0) (C.own 3 0 p0.l.length 1) p0), (o_vdisk_Disk_03 false (C.mp 2) (C.opt p1.fuse.isSome 4 0) p1), (om_ e_vdisk_file p1.files), (some (AObj.cells false (rowC (e_sl e_u8) p0.l))), (some (AObj.cells false [(ci (p1.fuse.getD default))]))] (si r.1) [(o_journal_Journal_02 false (C.ref 1 0) (C.own 5 0 r.2.1.l.length 1) r.2.1), (o_vdisk_Disk_03 false (C.mp 2) (C.opt r.2.2.fuse.isSome 6 0) r.2.2), (om_ e_vdisk_file r.2.2.files), none, none, (some (AObj.cells false (rowC (e_sl e_u8) r.2.1.l))), (some (AObj.cells false [(ci (r.2.2.fuse.getD default))]))] := by
 unfold journal_Journal_Append_15.f at h
 refine Meets.of_body (n := 54) Try.func15 rfl rfl (nl rfl) fun x hx => ?_
 replace hx : x.k = 5 := hx
 show AW _ x _ _ ⟨54, fr0 [(rf 0 0), (D.one (C.p false (.sl a1.length (a1.flatMap e_u8))))], [(o_journal_Journal_02 false (C.ref 1 0) (C.own 3 0 p0.l.length 1) p0), (o_vdisk_Disk_03 false (C.mp 2) (C.opt p1.fuse.isSome 4 0) p1), (om_ e_vdisk_file p1.files), (some (AObj.cells false (rowC (e_sl e_u8) p0.l))), (some (AObj.cells false [(ci (p1.fuse.getD default))]))]⟩
 refine AW.weak (st' := ⟨54, (upd 54 (upd 54 topF 0 (rf 0 0)) 1 (D.one (C.p false (.sl a1.length (a1.flatMap e_u8))))), [(o_journal_Journal_02 false (C.ref 1 0) (C.own 5 0 p0.l.length 1) p0), (o_vdisk_Disk_03 false (C.mp 2) (C.opt p1.fuse.isSome 6 0) p1), (om_ e_vdisk_file p1.files), none, none, (some (AObj.cells false (rowC (e_sl e_u8) p0.l))), (some (AObj.cells false [(ci (p1.fuse.getD default))]))]⟩) (Weak.genL (kk := 5) [0, 1, 2, 3, 4, 3, 4] [] hx rfl (by decide) rfl rfl rfl rfl (le_upd (le_upd (le_top _) (o1 (.ref rfl))) (o1 .same)) (ac (.cells id (ac (.ref rfl) (ac .same (ac (.own rfl) (ac .sc an))))) (ac (.cells id (ac (.mp rfl) (ac .sc (ac .sc (ac (.opt rfl) (ac .sc an)))))) (ac .map (ac (.none _) (ac (.none _) (ac (.cells id (all2_row _)) (ac (.cells id (ac .sc an)) an)))))))) (AW.seq (AW.region ?_))
 refine s_assign (d := (si 0)) rfl (AWops.nil (AW.seq (AW.seq (AW.region ?_))))
 refine s_move (d := (rf 0 0)) rfl (s_move (d := (D.one (C.p false (.sl a1.length (a1.flatMap e_u8))))) rfl (s_len (n := a1.length) F.u_22 rfl (.inr ⟨(fun _ _ h => by cases h), ⟨_, rfl⟩⟩) (s_binI (v := (.bool (decide ((a1.length : Int) > 0)))) rfl rfl rfl (s_move (d := (sb (decide ((a1.length : Int) > 0)))) rfl ?_))))
 rcases itH h with ⟨c1, h⟩ | ⟨c1, h⟩
 ·refine AWops.guard_yes rfl (nl rfl) rfl c1 ?_
  refine s_move (d := (D.one (C.p false (.sl a1.length (a1.flatMap e_u8))))) rfl ?_
  refine AWops.guard_yes rfl (nl rfl) rfl c1 ?_
  refine s_len (n := a1.length) F.u_22 rfl (.inr ⟨(fun _ _ h => by cases h), ⟨_, rfl⟩⟩) ?_
  refine AWops.guard_yes rfl (nl rfl) rfl c1 ?_
  refine s_binI (v := (.bool (decide ((a1.length : Int) ≤ 4194304)))) rfl rfl rfl (s_pick_yes (d := (sb (decide ((a1.length : Int) ≤ 4194304)))) rfl c1 rfl ?_)
  obtain ⟨r2, er2, h⟩ := bnd h
  refine cc [0, 1, 5, 2, 6] [(o_journal_Journal_02 false (C.ref 1 0) (C.own 5 0 p0.l.length 1) p0), (o_vdisk_Disk_03 false (C.mp 2) (C.opt p1.fuse.isSome 7 0) p1), (om_ e_vdisk_file p1.files), none, none, (some (AObj.cells false (rowC (e_sl e_u8) p0.l))), none, (some (AObj.cells false [(ci (p1.fuse.getD default))]))] (si r2) F.ca_48 rfl rfl (ac (.one (.ref rfl)) (ac (.one .sc) an)) (ac (.cells (ac (.ref rfl) (ac .imm (ac (.own rfl) (ac .sc an))))) (ac (.cells (ac (.mp rfl) (ac .sc (ac .sc (ac (.opt rfl) (ac .sc an)))))) (ac (.cells (lend_row _)) (ac .map (ac (.cells (ac .sc an)) an))))) (journal_Journal_may.meets _ p0 (decide ((a1.length : Int) ≤ 4194304)) p1 r2 er2) (s_assign (d := (si r2)) rfl (AWops.nil (AW.seq (AW.region (s_move (d := (si r2)) rfl (s_binI (v := (.bool (r2 != 0))) rfl rfl rfl (AWops.nil ?_)))))))
  rcases itH h with ⟨c3, h⟩ | ⟨c3, h⟩
  ·refine AW.cond_yes rfl c3 (AW.seq (AW.region ?_))
   refine s_move (d := (si r2)) rfl (s_assign (d := (si r2)) rfl (AWops.nil (AW.ret ?_)))
   obtain rfl := Option.some.inj h
   exact ⟨_, rfl, (wG 5 [0, 1, 2, 3, 4, 5, 7] [])⟩
  ·refine AW.cond_no rfl c3 (AW.skip (AW.seq ?_))
   refine AW.weak (st' := ⟨54, (upd 54 (upd 54 topF 0 (rf 0 0)) 1 (D.one (C.p false (.sl a1.length (a1.flatMap e_u8))))), [(o_journal_Journal_02 false (C.ref 1 0) (C.own 5 0 p0.l.length 1) p0), (o_vdisk_Disk_03 false (C.mp 2) (C.opt p1.fuse.isSome 6 0) p1), (om_ e_vdisk_file p1.files), none, none, (some (AObj.cells false (rowC (e_sl e_u8) p0.l))), (some (AObj.cells false [(ci (p1.fuse.getD default))]))]⟩) (wG 5 [0, 1, 2, 3, 4, 5, 7] []) ?_
   obtain ⟨r4, er4, h⟩ := bnd h
   obtain ⟨r5, er5, h⟩ := bnd h
   refine AW.draw2 9 [kf 20 (rf 0 0) [0], kf 21 (rf 0 0) [20], kf 22 (rf 0 0) [21], ⟨some 23, (rf 1 0), [22], [0], [], none⟩, kf 24 (D.one (C.p false (.sl a1.length (a1.flatMap e_u8)))) [1], ⟨some 25, (D.one (C.own 7 0 r4.length 1)), [24], [], [(7, (ow_ e_u8 r4))], some (7, 1)⟩, ⟨some 26, (si r5.1), [23, 25], [1, 2, 6, 7], [(1, (o_vdisk_Disk_03 false (C.mp 2) (C.opt r5.2.fuse.isSome 8 0) r5.2)), (2, (om_ e_vdisk_file r5.2.files)), (6, none), (8, (some (AObj.cells false [(ci (r5.2.fuse.getD default))])))], some (8, 1)⟩, kf 6 (si r5.1) [26]] ⟨?_, ?_⟩
   ·refine (pA (pA (pE F.fo_68_0 (pE F.ag_25 (pA (pC ?_ (pC ?_ (pA AllStep.nil'))))))))
    ·intro K rest fr hv htk k
     show AWops _ x _ _ K ⟨54, (upd 54 fr 24 (D.one (C.p false (.sl a1.length (a1.flatMap e_u8))))), [(hv 0), (hv 1), (hv 2), (hv 3), (hv 4), (hv 5), (hv 6), (hv 7), (hv 8)]⟩
     refine cc [] [(hv 0), (hv 1), (hv 2), (hv 3), (hv 4), (hv 5), (hv 6), (hv 7), (hv 8), (ow_ e_u8 r4)] (D.one (C.own 9 0 r4.length 1)) F.ca_49 rfl rfl (ac (.one .imm) an) an (journal_frame.meets _ a1 r4 er4) ?_
     refine AWops.weak (wD 5 (7, 1) 9 [0, 1, 2, 3, 4, 5, 6, 9, 8] [] (htk (7, 1) rfl)) k
    ·intro K rest fr hv htk k
     show AWops _ x _ _ K ⟨54, (upd 54 (upd 54 fr 25 (D.one (C.own 7 0 r4.length 1))) 23 (rf 1 0)), [(hv 0), (o_vdisk_Disk_03 false (C.mp 2) (C.opt p1.fuse.isSome 6 0) p1), (om_ e_vdisk_file p1.files), (hv 3), (hv 4), (hv 5), (some (AObj.cells false [(ci (p1.fuse.getD default))])), (ow_ e_u8 r4), (hv 8)]⟩
     refine cc [1, 7, 2, 6] [(hv 0), (o_vdisk_Disk_03 false (C.mp 2) (C.opt r5.2.fuse.isSome 9 0) r5.2), (om_ e_vdisk_file r5.2.files), (hv 3), (hv 4), (hv 5), none, (ow_ e_u8 r4), (hv 8), (some (AObj.cells false [(ci (r5.2.fuse.getD default))]))] (si r5.1) F.ca_34 rfl rfl (ac (.one (.ref rfl)) (ac (.one .sc) (ac (.one (.own rfl)) an))) (ac (.cells (ac (.mp rfl) (ac .sc (ac .sc (ac (.opt rfl) (ac .sc an)))))) (ac (.cells (lend_row _)) (ac .map (ac (.cells (ac .sc an)) an)))) (vdisk_Disk_Append.meets _ p1 (⟨#[106, 111, 117, 114, 110, 97, 108]⟩ : ByteArray) r4 r5 er5) ?_
     refine AWops.weak (wD 5 (8, 1) 9 [0, 1, 2, 3, 4, 5, 6, 7, 9] [] (htk (8, 1) rfl)) k
   ·refine AWops.weak (st' := ⟨54, (upd 54 (upd 54 (upd 54 topF 0 (rf 0 0)) 1 (D.one (C.p false (.sl a1.length (a1.flatMap e_u8))))) 6 (si r5.1)), [(o_journal_Journal_02 false (C.ref 1 0) (C.own 5 0 p0.l.length 1) p0), (o_vdisk_Disk_03 false (C.mp 2) (C.opt r5.2.fuse.isSome 6 0) r5.2), (om_ e_vdisk_file r5.2.files), none, none, (some (AObj.cells false (rowC (e_sl e_u8) p0.l))), (some (AObj.cells false [(ci (r5.2.fuse.getD default))]))]⟩) (wG 5 [0, 1, 2, 3, 4, 5, 8] []) (AWops.nil (AW.seq (AW.seq (AW.region ?_))))
    refine s_move (d := (si r5.1)) rfl (s_binI (v := (.bool (r5.1 == 71))) rfl rfl rfl (AWops.nil ?_))
    rcases itH h with ⟨c6, h⟩ | ⟨c6, h⟩
    ·refine AW.cond_yes rfl c6 (AW.seq (AW.region ?_))
     refine s_move (d := (si r5.1)) rfl (s_assign (d := (si r5.1)) rfl (AWops.nil (AW.ret ?_)))
     obtain rfl := Option.some.inj h
     exact ⟨_, rfl, (wG 5 [0, 1, 2, 3, 4, 5, 6] [])⟩
    ·refine AW.cond_no rfl c6 (AW.skip ?_)
     refine AW.seqJ (fun st => ∃ (x9 : Option Int) (x10 : Int) (x11 : Int) (x12 : Bool) (x13 : List (ByteArray × vdisk_file)) (x14 : Int), journal_Journal_Append_15.j0 k x9 x10 x11 x12 x13 x14 p0 a1 = some r ∧ st = ⟨54, (upd 54 (upd 54 (upd 54 topF 0 (rf 0 0)) 1 (D.one (C.p false (.sl a1.length (a1.flatMap e_u8))))) 6 (si x14)), [(o_journal_Journal_02 false (C.ref 1 0) (C.own 5 0 p0.l.length 1) p0), (some (AObj.cells false [(C.mp 2), (ci x10), (ci x11), (C.opt x9.isSome 6 0), (cb x12)])), (om_ e_vdisk_file x13), none, none, (some (AObj.cells false (rowC (e_sl e_u8) p0.l))), (some (AObj.cells false [(ci (x9.getD default))]))]⟩) ?_ ?_
     ·refine AW.seq (AW.region ?_)
      refine s_move (d := (si r5.1)) rfl (s_binI (v := (.bool (r5.1 == 0))) rfl rfl rfl (AWops.nil ?_))
      rcases itH h with ⟨c7, h⟩ | ⟨c7, h⟩
      ·refine AW.cond_yes rfl c7 (AW.region ?_)
       refine s_move (d := (rf 0 0)) rfl (s_nilCheck (d := (rf 0 0)) rfl (.inl ⟨_, _, rfl⟩) (s_fieldRef F.fo_68_0 (by decide) rfl (s_load1 (c' := (C.ref 1 0)) F.ag_25 rfl rfl ?_)))
       obtain ⟨r8, er8, h⟩ := bnd h
       refine cc [1, 2, 6] [(o_journal_Journal_02 false (C.ref 1 0) (C.own 5 0 p0.l.length 1) p0), (o_vdisk_Disk_03 false (C.mp 2) (C.opt r8.2.fuse.isSome 7 0) r8.2), (om_ e_vdisk_file r8.2.files), none, none, (some (AObj.cells false (rowC (e_sl e_u8) p0.l))), none, (some (AObj.cells false [(ci (r8.2.fuse.getD default))]))] (si r8.1) F.ca_37 rfl rfl (ac (.one (.ref rfl)) (ac (.one .sc) an)) (ac (.cells (ac (.mp rfl) (ac .sc (ac .sc (ac (.opt rfl) (ac .sc an)))))) (ac .map (ac (.cells (ac .sc an)) an))) (vdisk_Disk_Sync.meets _ r5.2 (⟨#[106, 111, 117, 114, 110, 97, 108]⟩ : ByteArray) r8 er8) (s_assign (d := (si r8.1)) rfl (AWops.nil ?_))
       exact ⟨⟨54, (upd 54 (upd 54 (upd 54 topF 0 (rf 0 0)) 1 (D.one (C.p false (.sl a1.length (a1.flatMap e_u8))))) 6 (si r8.1)), [(o_journal_Journal_02 false (C.ref 1 0) (C.own 5 0 p0.l.length 1) p0), (some (AObj.cells false [(C.mp 2), (ci r8.2.room), (ci r8.2.used), (C.opt r8.2.fuse.isSome 6 0), (cb r8.2.dead)])), (om_ e_vdisk_file r8.2.files), none, none, (some (AObj.cells false (rowC (e_sl e_u8) p0.l))), (some (AObj.cells false [(ci (r8.2.fuse.getD default))]))]⟩, (wG 5 [0, 1, 2, 3, 4, 5, 7] []), r8.2.fuse, r8.2.room, r8.2.used, r8.2.dead, r8.2.files, r8.1, h, rfl⟩
      ·refine AW.cond_no rfl c7 (AW.skip ?_)
       exact ⟨⟨54, (upd 54 (upd 54 (upd 54 topF 0 (rf 0 0)) 1 (D.one (C.p false (.sl a1.length (a1.flatMap e_u8))))) 6 (si r5.1)), [(o_journal_Journal_02 false (C.ref 1 0) (C.own 5 0 p0.l.length 1) p0), (some (AObj.cells false [(C.mp 2), (ci r5.2.room), (ci r5.2.used), (C.opt r5.2.fuse.isSome 6 0), (cb r5.2.dead)])), (om_ e_vdisk_file r5.2.files), none, none, (some (AObj.cells false (rowC (e_sl e_u8) p0.l))), (some (AObj.cells false [(ci (r5.2.fuse.getD default))]))]⟩, (wG 5 [0, 1, 2, 3, 4, 5, 6] []), r5.2.fuse, r5.2.room, r5.2.used, r5.2.dead, r5.2.files, r5.1, h, rfl⟩
     ·rintro st ⟨x9, x10, x11, x12, x13, x14, h, rfl⟩
      cases k with
      | zero => exact absurd h (by simp [journal_Journal_Append_15.j0])
      | succ qj0 =>
       replace h := (journal_Journal_Append_15.j0.eq_2 _ _ _ _ _ _ _ _ _).symm.trans h
       refine AW.seq (AW.seq (AW.region ?_))
       refine s_move (d := (si x14)) rfl (s_binI (v := (.bool (x14 != 0))) rfl rfl rfl (AWops.nil ?_))
       rcases itH h with ⟨c15, h⟩ | ⟨c15, h⟩
       ·refine AW.cond_yes rfl c15 (AW.seq (AW.region ?_))
        refine s_move (d := (rf 0 0)) rfl (s_nilCheck (d := (rf 0 0)) rfl (.inl ⟨_, _, rfl⟩) (s_fieldRef F.fo_68_3 (by decide) rfl (s_store (cs' := [(C.ref 1 0), (C.p false (.sl p0.snap.length (p0.snap.flatMap e_u8))), (C.own 5 0 p0.l.length 1), (cb true)]) rfl rfl rfl (List.cons_ne_nil _ _) rfl F.sz_4 (nl rfl) rfl (AWops.nil (AW.seq (AW.region (s_move (d := (si x14)) rfl (s_assign (d := (si x14)) rfl (AWops.nil (AW.ret ?_))))))))))
        obtain rfl := Option.some.inj h
        exact ⟨_, rfl, (wG 5 [0, 1, 2, 3, 4, 5, 6] [])⟩
       ·refine AW.cond_no rfl c15 (AW.skip (AW.seq ?_))
        refine AW.weak (st' := ⟨54, (upd 54 (upd 54 topF 0 (rf 0 0)) 1 (D.one (C.p false (.sl a1.length (a1.flatMap e_u8))))), [(o_journal_Journal_02 false (C.ref 1 0) (C.own 5 0 p0.l.length 1) p0), (some (AObj.cells false [(C.mp 2), (ci x10), (ci x11), (C.opt x9.isSome 6 0), (cb x12)])), (om_ e_vdisk_file x13), none, none, (some (AObj.cells false (rowC (e_sl e_u8) p0.l))), (some (AObj.cells false [(ci (x9.getD default))]))]⟩) (wG 5 [0, 1, 2, 3, 4, 5, 6] []) ?_
        obtain ⟨r16, er16, h⟩ := bnd h
        obtain ⟨c17, h⟩ := gdH h
        have dc17 := of_decide_eq_true c17
        refine AW.draw2 10 [kf 43 (rf 0 0) [0], kf 44 (rf 0 0) [0], kf 45 (rf 0 0) [44], kf 46 (rf 0 2) [45], ⟨some 47, (D.one (C.own 5 0 p0.l.length 1)), [46], [0], [], none⟩, kf 48 (D.one (C.p false (.sl a1.length (a1.flatMap e_u8)))) [1], ⟨some 49, (D.one (C.p false (.sl r16.length (r16.flatMap e_u8)))), [48], [], [], some (7, 1)⟩, ⟨some 50, (D.one (C.own 8 0 (([r16] : List (List Int)).length) 1)), [49], [], [(8, (some (AObj.cells true (rowC (e_sl e_u8) ([r16] : List (List Int))))))], some (8, 1)⟩, ⟨some 51, (D.one (C.own 9 0 ((p0.l ++ ([r16] : List (List Int))).length) 1)), [47, 50], [5, 8], [(5, none), (9, (some (AObj.cells false (rowC (e_sl e_u8) (p0.l ++ ([r16] : List (List Int)))))))], some (9, 1)⟩, kf 52 (rf 0 0) [43], kf 53 (rf 0 2) [52], ⟨none, (D.one C.top), [51, 53], [0], [(0, (o_journal_Journal_02 false (C.ref 1 0) (C.own 9 0 ((p0.l ++ ([r16] : List (List Int))).length) 1) p0))], none⟩] ⟨?_, ?_⟩
        ·refine (pA (pA (pA (pE F.fo_68_2 (pE F.ag_61 (pA (pC ?_ (pC ?_ (pC ?_ (pA (pE F.fo_68_2 (pC ?_ AllStep.nil'))))))))))))
         ·intro K rest fr hv htk k
          show AWops _ x _ _ K ⟨54, (upd 54 fr 48 (D.one (C.p false (.sl a1.length (a1.flatMap e_u8))))), [(hv 0), (hv 1), (hv 2), (hv 3), (hv 4), (hv 5), (hv 6), (hv 7), (hv 8), (hv 9)]⟩
          refine cc [] [(hv 0), (hv 1), (hv 2), (hv 3), (hv 4), (hv 5), (hv 6), (hv 7), (hv 8), (hv 9), (ow_ e_u8 r16)] (D.one (C.own 10 0 r16.length 1)) F.ca_27 rfl rfl (ac (.one .imm) an) an (slices_Clone_byte_byte.meets _ a1 r16 er16) ?_
          refine AWops.weak (wD 5 (7, 1) 10 [0, 1, 2, 3, 4, 5, 6, 7, 8, 9] [10] (htk (7, 1) rfl)) k
         ·intro K rest fr hv htk k
          refine s_buildSlice (n := 1) (ps := [(0, (D.one (C.p false (.sl r16.length (r16.flatMap e_u8)))))]) (cs := rowC (e_sl e_u8) ([r16] : List (List Int))) F.u_61 F.sz_22 F.z_22 rfl rfl (by decide) (by decide) rfl rfl ?_
          refine AWops.weak (wD 5 (8, 1) 10 [0, 1, 2, 3, 4, 5, 6, 7, 10, 9] [] (htk (8, 1) rfl)) k
         ·intro K rest fr hv htk k
          refine t_append (xs := p0.l) (ys := ([r16] : List (List Int))) (zs := p0.l ++ ([r16] : List (List Int))) (H' := [(hv 0), (hv 1), (hv 2), (hv 3), (hv 4), none, (hv 6), (hv 7), (some (AObj.cells true (rowC (e_sl e_u8) ([r16] : List (List Int))))), (hv 9), (some (AObj.cells false (rowC (e_sl e_u8) (p0.l ++ ([r16] : List (List Int))))))]) F.u_61 F.in_22 rfl (e_sl_len _) (.own rfl rfl) (.own rfl rfl) F.u_61 (by omega) (by omega) rfl rfl ?_
          refine AWops.weak (wD 5 (9, 1) 10 [0, 1, 2, 3, 4, 5, 6, 7, 8, 10] [] (htk (9, 1) rfl)) k
         ·intro K rest fr hv htk k
          refine s_store (cs' := [(C.ref 1 0), (C.p false (.sl p0.snap.length (p0.snap.flatMap e_u8))), (C.own 9 0 ((p0.l ++ ([r16] : List (List Int))).length) 1), (cb p0.stopped)]) rfl rfl rfl (List.cons_ne_nil _ _) rfl F.sz_61 (nl rfl) rfl k
        ·refine AWops.weak (st' := ⟨54, topF, [(o_journal_Journal_02 false (C.ref 1 0) (C.own 5 0 ((p0.l ++ ([r16] : List (List Int))).length) 1) p0), (some (AObj.cells false [(C.mp 2), (ci x10), (ci x11), (C.opt x9.isSome 6 0), (cb x12)])), (om_ e_vdisk_file x13), none, none, (some (AObj.cells false (rowC (e_sl e_u8) (p0.l ++ ([r16] : List (List Int)))))), (some (AObj.cells false [(ci (x9.getD default))]))]⟩) (wG 5 [0, 1, 2, 3, 4, 9, 6] []) (AWops.nil (AW.seq (AW.region ?_)))
         refine s_assign (d := (si 0)) rfl (AWops.nil (AW.ret ?_))
         obtain rfl := Option.some.inj h
         exact ⟨_, rfl, (wG 5 [0, 1, 2, 3, 4, 5, 6] [])⟩
 ·iterate 3 refine AWops.guard_no rfl (nl rfl) rfl c1 ?_
  refine s_pick_no (d := (sb false)) rfl c1 rfl ?_
  obtain ⟨r18, er18, h⟩ := bnd h
  refine cc [0, 1, 5, 2, 6] [(o_journal_Journal_02 false (C.ref 1 0) (C.own 5 0 p0.l.length 1) p0), (o_vdisk_Disk_03 false (C.mp 2) (C.opt p1.fuse.isSome 7 0) p1), (om_ e_vdisk_file p1.files), none, none, (some (AObj.cells false (rowC (e_sl e_u8) p0.l))), none, (some (AObj.cells false [(ci (p1.fuse.getD default))]))] (si r18) F.ca_48 rfl rfl (ac (.one (.ref rfl)) (ac (.one .sc) an)) (ac (.cells (ac (.ref rfl) (ac .imm (ac (.own rfl) (ac .sc an))))) (ac (.cells (ac (.mp rfl) (ac .sc (ac .sc (ac (.opt rfl) (ac .sc an)))))) (ac (.cells (lend_row _)) (ac .map (ac (.cells (ac .sc an)) an))))) (journal_Journal_may.meets _ p0 false p1 r18 er18) (s_assign (d := (si r18)) rfl (AWops.nil (AW.seq (AW.region (s_move (d := (si r18)) rfl (s_binI (v := (.bool (r18 != 0))) rfl rfl rfl (AWops.nil ?_)))))))
  rcases itH h with ⟨c19, h⟩ | ⟨c19, h⟩
  ·refine AW.cond_yes rfl c19 (AW.seq (AW.region ?_))
   refine s_move (d := (si r18)) rfl (s_assign (d := (si r18)) rfl (AWops.nil (AW.ret ?_)))
   obtain rfl := Option.some.inj h
   exact ⟨_, rfl, (wG 5 [0, 1, 2, 3, 4, 5, 7] [])⟩
  ·refine AW.cond_no rfl c19 (AW.skip (AW.seq ?_))
   refine AW.weak (st' := ⟨54, (upd 54 (upd 54 topF 0 (rf 0 0)) 1 (D.one (C.p false (.sl a1.length (a1.flatMap e_u8))))), [(o_journal_Journal_02 false (C.ref 1 0) (C.own 5 0 p0.l.length 1) p0), (o_vdisk_Disk_03 false (C.mp 2) (C.opt p1.fuse.isSome 6 0) p1), (om_ e_vdisk_file p1.files), none, none, (some (AObj.cells false (rowC (e_sl e_u8) p0.l))), (some (AObj.cells false [(ci (p1.fuse.getD default))]))]⟩) (wG 5 [0, 1, 2, 3, 4, 5, 7] []) ?_
   obtain ⟨r20, er20, h⟩ := bnd h
   obtain ⟨r21, er21, h⟩ := bnd h
   refine AW.draw2 9 [kf 20 (rf 0 0) [0], kf 21 (rf 0 0) [20], kf 22 (rf 0 0) [21], ⟨some 23, (rf 1 0), [22], [0], [], none⟩, kf 24 (D.one (C.p false (.sl a1.length (a1.flatMap e_u8)))) [1], ⟨some 25, (D.one (C.own 7 0 r20.length 1)), [24], [], [(7, (ow_ e_u8 r20))], some (7, 1)⟩, ⟨some 26, (si r21.1), [23, 25], [1, 2, 6, 7], [(1, (o_vdisk_Disk_03 false (C.mp 2) (C.opt r21.2.fuse.isSome 8 0) r21.2)), (2, (om_ e_vdisk_file r21.2.files)), (6, none), (8, (some (AObj.cells false [(ci (r21.2.fuse.getD default))])))], some (8, 1)⟩, kf 6 (si r21.1) [26]] ⟨?_, ?_⟩
   ·refine (pA (pA (pE F.fo_68_0 (pE F.ag_25 (pA (pC ?_ (pC ?_ (pA AllStep.nil'))))))))
    ·intro K rest fr hv htk k
     show AWops _ x _ _ K ⟨54, (upd 54 fr 24 (D.one (C.p false (.sl a1.length (a1.flatMap e_u8))))), [(hv 0), (hv 1), (hv 2), (hv 3), (hv 4), (hv 5), (hv 6), (hv 7), (hv 8)]⟩
     refine cc [] [(hv 0), (hv 1), (hv 2), (hv 3), (hv 4), (hv 5), (hv 6), (hv 7), (hv 8), (ow_ e_u8 r20)] (D.one (C.own 9 0 r20.length 1)) F.ca_49 rfl rfl (ac (.one .imm) an) an (journal_frame.meets _ a1 r20 er20) ?_
     refine AWops.weak (wD 5 (7, 1) 9 [0, 1, 2, 3, 4, 5, 6, 9, 8] [] (htk (7, 1) rfl)) k
    ·intro K rest fr hv htk k
     show AWops _ x _ _ K ⟨54, (upd 54 (upd 54 fr 25 (D.one (C.own 7 0 r20.length 1))) 23 (rf 1 0)), [(hv 0), (o_vdisk_Disk_03 false (C.mp 2) (C.opt p1.fuse.isSome 6 0) p1), (om_ e_vdisk_file p1.files), (hv 3), (hv 4), (hv 5), (some (AObj.cells false [(ci (p1.fuse.getD default))])), (ow_ e_u8 r20), (hv 8)]⟩
     refine cc [1, 7, 2, 6] [(hv 0), (o_vdisk_Disk_03 false (C.mp 2) (C.opt r21.2.fuse.isSome 9 0) r21.2), (om_ e_vdisk_file r21.2.files), (hv 3), (hv 4), (hv 5), none, (ow_ e_u8 r20), (hv 8), (some (AObj.cells false [(ci (r21.2.fuse.getD default))]))] (si r21.1) F.ca_34 rfl rfl (ac (.one (.ref rfl)) (ac (.one .sc) (ac (.one (.own rfl)) an))) (ac (.cells (ac (.mp rfl) (ac .sc (ac .sc (ac (.opt rfl) (ac .sc an)))))) (ac (.cells (lend_row _)) (ac .map (ac (.cells (ac .sc an)) an)))) (vdisk_Disk_Append.meets _ p1 (⟨#[106, 111, 117, 114, 110, 97, 108]⟩ : ByteArray) r20 r21 er21) ?_
     refine AWops.weak (wD 5 (8, 1) 9 [0, 1, 2, 3, 4, 5, 6, 7, 9] [] (htk (8, 1) rfl)) k
   ·refine AWops.weak (st' := ⟨54, (upd 54 (upd 54 (upd 54 topF 0 (rf 0 0)) 1 (D.one (C.p false (.sl a1.length (a1.flatMap e_u8))))) 6 (si r21.1)), [(o_journal_Journal_02 false (C.ref 1 0) (C.own 5 0 p0.l.length 1) p0), (o_vdisk_Disk_03 false (C.mp 2) (C.opt r21.2.fuse.isSome 6 0) r21.2), (om_ e_vdisk_file r21.2.files), none, none, (some (AObj.cells false (rowC (e_sl e_u8) p0.l))), (some (AObj.cells false [(ci (r21.2.fuse.getD default))]))]⟩) (wG 5 [0, 1, 2, 3, 4, 5, 8] []) (AWops.nil (AW.seq (AW.seq (AW.region ?_))))
    refine s_move (d := (si r21.1)) rfl (s_binI (v := (.bool (r21.1 == 71))) rfl rfl rfl (AWops.nil ?_))
    rcases itH h with ⟨c22, h⟩ | ⟨c22, h⟩
    ·refine AW.cond_yes rfl c22 (AW.seq (AW.region ?_))
     refine s_move (d := (si r21.1)) rfl (s_assign (d := (si r21.1)) rfl (AWops.nil (AW.ret ?_)))
     obtain rfl := Option.some.inj h
     exact ⟨_, rfl, (wG 5 [0, 1, 2, 3, 4, 5, 6] [])⟩
    ·refine AW.cond_no rfl c22 (AW.skip ?_)
     refine AW.seqJ (fun st => ∃ (x25 : Option Int) (x26 : Int) (x27 : Int) (x28 : Bool) (x29 : List (ByteArray × vdisk_file)) (x30 : Int), journal_Journal_Append_15.j1 k x25 x26 x27 x28 x29 x30 p0 a1 = some r ∧ st = ⟨54, (upd 54 (upd 54 (upd 54 topF 0 (rf 0 0)) 1 (D.one (C.p false (.sl a1.length (a1.flatMap e_u8))))) 6 (si x30)), [(o_journal_Journal_02 false (C.ref 1 0) (C.own 5 0 p0.l.length 1) p0), (some (AObj.cells false [(C.mp 2), (ci x26), (ci x27), (C.opt x25.isSome 6 0), (cb x28)])), (om_ e_vdisk_file x29), none, none, (some (AObj.cells false (rowC (e_sl e_u8) p0.l))), (some (AObj.cells false [(ci (x25.getD default))]))]⟩) ?_ ?_
     ·refine AW.seq (AW.region ?_)
      refine s_move (d := (si r21.1)) rfl (s_binI (v := (.bool (r21.1 == 0))) rfl rfl rfl (AWops.nil ?_))
      rcases itH h with ⟨c23, h⟩ | ⟨c23, h⟩
      ·refine AW.cond_yes rfl c23 (AW.region ?_)
       refine s_move (d := (rf 0 0)) rfl (s_nilCheck (d := (rf 0 0)) rfl (.inl ⟨_, _, rfl⟩) (s_fieldRef F.fo_68_0 (by decide) rfl (s_load1 (c' := (C.ref 1 0)) F.ag_25 rfl rfl ?_)))
       obtain ⟨r24, er24, h⟩ := bnd h
       refine cc [1, 2, 6] [(o_journal_Journal_02 false (C.ref 1 0) (C.own 5 0 p0.l.length 1) p0), (o_vdisk_Disk_03 false (C.mp 2) (C.opt r24.2.fuse.isSome 7 0) r24.2), (om_ e_vdisk_file r24.2.files), none, none, (some (AObj.cells false (rowC (e_sl e_u8) p0.l))), none, (some (AObj.cells false [(ci (r24.2.fuse.getD default))]))] (si r24.1) F.ca_37 rfl rfl (ac (.one (.ref rfl)) (ac (.one .sc) an)) (ac (.cells (ac (.mp rfl) (ac .sc (ac .sc (ac (.opt rfl) (ac .sc an)))))) (ac .map (ac (.cells (ac .sc an)) an))) (vdisk_Disk_Sync.meets _ r21.2 (⟨#[106, 111, 117, 114, 110, 97, 108]⟩ : ByteArray) r24 er24) (s_assign (d := (si r24.1)) rfl (AWops.nil ?_))
       exact ⟨⟨54, (upd 54 (upd 54 (upd 54 topF 0 (rf 0 0)) 1 (D.one (C.p false (.sl a1.length (a1.flatMap e_u8))))) 6 (si r24.1)), [(o_journal_Journal_02 false (C.ref 1 0) (C.own 5 0 p0.l.length 1) p0), (some (AObj.cells false [(C.mp 2), (ci r24.2.room), (ci r24.2.used), (C.opt r24.2.fuse.isSome 6 0), (cb r24.2.dead)])), (om_ e_vdisk_file r24.2.files), none, none, (some (AObj.cells false (rowC (e_sl e_u8) p0.l))), (some (AObj.cells false [(ci (r24.2.fuse.getD default))]))]⟩, (wG 5 [0, 1, 2, 3, 4, 5, 7] []), r24.2.fuse, r24.2.room, r24.2.used, r24.2.dead, r24.2.files, r24.1, h, rfl⟩
      ·refine AW.cond_no rfl c23 (AW.skip ?_)
       exact ⟨⟨54, (upd 54 (upd 54 (upd 54 topF 0 (rf 0 0)) 1 (D.one (C.p false (.sl a1.length (a1.flatMap e_u8))))) 6 (si r21.1)), [(o_journal_Journal_02 false (C.ref 1 0) (C.own 5 0 p0.l.length 1) p0), (some (AObj.cells false [(C.mp 2), (ci r21.2.room), (ci r21.2.used), (C.opt r21.2.fuse.isSome 6 0), (cb r21.2.dead)])), (om_ e_vdisk_file r21.2.files), none, none, (some (AObj.cells false (rowC (e_sl e_u8) p0.l))), (some (AObj.cells false [(ci (r21.2.fuse.getD default))]))]⟩, (wG 5 [0, 1, 2, 3, 4, 5, 6] []), r21.2.fuse, r21.2.room, r21.2.used, r21.2.dead, r21.2.files, r21.1, h, rfl⟩
     ·rintro st ⟨x25, x26, x27, x28, x29, x30, h, rfl⟩
      cases k with
      | zero => exact absurd h (by simp [journal_Journal_Append_15.j1])
      | succ qj1 =>
       replace h := (journal_Journal_Append_15.j1.eq_2 _ _ _ _ _ _ _ _ _).symm.trans h
       refine AW.seq (AW.seq (AW.region ?_))
       refine s_move (d := (si x30)) rfl (s_binI (v := (.bool (x30 != 0))) rfl rfl rfl (AWops.nil ?_))
       rcases itH h with ⟨c31, h⟩ | ⟨c31, h⟩
       ·refine AW.cond_yes rfl c31 (AW.seq (AW.region ?_))
        refine s_move (d := (rf 0 0)) rfl (s_nilCheck (d := (rf 0 0)) rfl (.inl ⟨_, _, rfl⟩) (s_fieldRef F.fo_68_3 (by decide) rfl (s_store (cs' := [(C.ref 1 0), (C.p false (.sl p0.snap.length (p0.snap.flatMap e_u8))), (C.own 5 0 p0.l.length 1), (cb true)]) rfl rfl rfl (List.cons_ne_nil _ _) rfl F.sz_4 (nl rfl) rfl (AWops.nil (AW.seq (AW.region (s_move (d := (si x30)) rfl (s_assign (d := (si x30)) rfl (AWops.nil (AW.ret ?_))))))))))
        obtain rfl := Option.some.inj h
        exact ⟨_, rfl, (wG 5 [0, 1, 2, 3, 4, 5, 6] [])⟩
       ·refine AW.cond_no rfl c31 (AW.skip (AW.seq ?_))
        refine AW.weak (st' := ⟨54, (upd 54 (upd 54 topF 0 (rf 0 0)) 1 (D.one (C.p false (.sl a1.length (a1.flatMap e_u8))))), [(o_journal_Journal_02 false (C.ref 1 0) (C.own 5 0 p0.l.length 1) p0), (some (AObj.cells false [(C.mp 2), (ci x26), (ci x27), (C.opt x25.isSome 6 0), (cb x28)])), (om_ e_vdisk_file x29), none, none, (some (AObj.cells false (rowC (e_sl e_u8) p0.l))), (some (AObj.cells false [(ci (x25.getD default))]))]⟩) (wG 5 [0, 1, 2, 3, 4, 5, 6] []) ?_
        obtain ⟨r32, er32, h⟩ := bnd h
        obtain ⟨c33, h⟩ := gdH h
        have dc33 := of_decide_eq_true c33
        refine AW.draw2 10 [kf 43 (rf 0 0) [0], kf 44 (rf 0 0) [0], kf 45 (rf 0 0) [44], kf 46 (rf 0 2) [45], ⟨some 47, (D.one (C.own 5 0 p0.l.length 1)), [46], [0], [], none⟩, kf 48 (D.one (C.p false (.sl a1.length (a1.flatMap e_u8)))) [1], ⟨some 49, (D.one (C.p false (.sl r32.length (r32.flatMap e_u8)))), [48], [], [], some (7, 1)⟩, ⟨some 50, (D.one (C.own 8 0 (([r32] : List (List Int)).length) 1)), [49], [], [(8, (some (AObj.cells true (rowC (e_sl e_u8) ([r32] : List (List Int))))))], some (8, 1)⟩, ⟨some 51, (D.one (C.own 9 0 ((p0.l ++ ([r32] : List (List Int))).length) 1)), [47, 50], [5, 8], [(5, none), (9, (some (AObj.cells false (rowC (e_sl e_u8) (p0.l ++ ([r32] : List (List Int)))))))], some (9, 1)⟩, kf 52 (rf 0 0) [43], kf 53 (rf 0 2) [52], ⟨none, (D.one C.top), [51, 53], [0], [(0, (o_journal_Journal_02 false (C.ref 1 0) (C.own 9 0 ((p0.l ++ ([r32] : List (List Int))).length) 1) p0))], none⟩] ⟨?_, ?_⟩
        ·refine (pA (pA (pA (pE F.fo_68_2 (pE F.ag_61 (pA (pC ?_ (pC ?_ (pC ?_ (pA (pE F.fo_68_2 (pC ?_ AllStep.nil'))))))))))))
         ·intro K rest fr hv htk k
          show AWops _ x _ _ K ⟨54, (upd 54 fr 48 (D.one (C.p false (.sl a1.length (a1.flatMap e_u8))))), [(hv 0), (hv 1), (hv 2), (hv 3), (hv 4), (hv 5), (hv 6), (hv 7), (hv 8), (hv 9)]⟩
          refine cc [] [(hv 0), (hv 1), (hv 2), (hv 3), (hv 4), (hv 5), (hv 6), (hv 7), (hv 8), (hv 9), (ow_ e_u8 r32)] (D.one (C.own 10 0 r32.length 1)) F.ca_27 rfl rfl (ac (.one .imm) an) an (slices_Clone_byte_byte.meets _ a1 r32 er32) ?_
          refine AWops.weak (wD 5 (7, 1) 10 [0, 1, 2, 3, 4, 5, 6, 7, 8, 9] [10] (htk (7, 1) rfl)) k
         ·intro K rest fr hv htk k
          refine s_buildSlice (n := 1) (ps := [(0, (D.one (C.p false (.sl r32.length (r32.flatMap e_u8)))))]) (cs := rowC (e_sl e_u8) ([r32] : List (List Int))) F.u_61 F.sz_22 F.z_22 rfl rfl (by decide) (by decide) rfl rfl ?_
          refine AWops.weak (wD 5 (8, 1) 10 [0, 1, 2, 3, 4, 5, 6, 7, 10, 9] [] (htk (8, 1) rfl)) k
         ·intro K rest fr hv htk k
          refine t_append (xs := p0.l) (ys := ([r32] : List (List Int))) (zs := p0.l ++ ([r32] : List (List Int))) (H' := [(hv 0), (hv 1), (hv 2), (hv 3), (hv 4), none, (hv 6), (hv 7), (some (AObj.cells true (rowC (e_sl e_u8) ([r32] : List (List Int))))), (hv 9), (some (AObj.cells false (rowC (e_sl e_u8) (p0.l ++ ([r32] : List (List Int))))))]) F.u_61 F.in_22 rfl (e_sl_len _) (.own rfl rfl) (.own rfl rfl) F.u_61 (by omega) (by omega) rfl rfl ?_
          refine AWops.weak (wD 5 (9, 1) 10 [0, 1, 2, 3, 4, 5, 6, 7, 8, 10] [] (htk (9, 1) rfl)) k
         ·intro K rest fr hv htk k
          refine s_store (cs' := [(C.ref 1 0), (C.p false (.sl p0.snap.length (p0.snap.flatMap e_u8))), (C.own 9 0 ((p0.l ++ ([r32] : List (List Int))).length) 1), (cb p0.stopped)]) rfl rfl rfl (List.cons_ne_nil _ _) rfl F.sz_61 (nl rfl) rfl k
        ·refine AWops.weak (st' := ⟨54, topF, [(o_journal_Journal_02 false (C.ref 1 0) (C.own 5 0 ((p0.l ++ ([r32] : List (List Int))).length) 1) p0), (some (AObj.cells false [(C.mp 2), (ci x26), (ci x27), (C.opt x25.isSome 6 0), (cb x28)])), (om_ e_vdisk_file x29), none, none, (some (AObj.cells false (rowC (e_sl e_u8) (p0.l ++ ([r32] : List (List Int)))))), (some (AObj.cells false [(ci (x25.getD default))]))]⟩) (wG 5 [0, 1, 2, 3, 4, 9, 6] []) (AWops.nil (AW.seq (AW.region ?_)))
         refine s_assign (d := (si 0)) rfl (AWops.nil (AW.ret ?_))
         obtain rfl := Option.some.inj h
         exact ⟨_, rfl, (wG 5 [0, 1, 2, 3, 4, 5, 6] [])⟩
mutual
def dossierref04_Journal_Append_16.j0 : Nat → Int → Int → Bool → (List dossierref03_File) → Int → dossierref04_Journal → (List Int) → Option (Int × dossierref04_Journal × dossierref03_Disk)
 | 0, _, _, _, _, _, _, _ => none
 | k + 1, x9, x10, x11, x12, x13, p0, a1 => if (x13 != 0) = true then (some (x13, (⟨(), p0.Snap, p0.L, true⟩ : dossierref04_Journal), (⟨x12, x9, x10, x11⟩ : dossierref03_Disk))) else (if (decide (([] : List Int).length + a1.length ≤ 140737488355328)) = true then (if (decide (p0.L.length + ([a1] : List (List Int)).length ≤ 5864062014805)) = true then (some (0, (⟨(), p0.Snap, p0.L ++ ([a1] : List (List Int)), p0.Stop⟩ : dossierref04_Journal), (⟨x12, x9, x10, x11⟩ : dossierref03_Disk))) else none) else none)
end
def dossierref04_Journal_Append_16.f (k : Nat) (p0 : dossierref04_Journal) (a1 : List Int) (p1 : dossierref03_Disk) : Option (Int × dossierref04_Journal × dossierref03_Disk) := if ((a1.length : Int) == 0) = true then (some (1, p0, p1)) else (if (decide ((a1.length : Int) > 4194304)) = true then (some (1, p0, p1)) else (if p0.Stop = true then (some (70, p0, p1)) else ((dossierref04_frame.f k a1).bind fun r4 => (dossierref03_Disk_Append_36.f k p1 (⟨#[106, 111, 117, 114, 110, 97, 108]⟩ : ByteArray) r4).bind fun r5 => if (r5.1 == 71) = true then (some (r5.1, p0, r5.2)) else (if (r5.1 == 0) = true then ((dossierref03_Disk_Sync_38.f k r5.2 (⟨#[106, 111, 117, 114, 110, 97, 108]⟩ : ByteArray)).bind fun r8 => dossierref04_Journal_Append_16.j0 k r8.2.Most r8.2.Burns r8.2.Off r8.2.L r8.1 p0 a1) else (dossierref04_Journal_Append_16.j0 k r5.2.Most r5.2.Burns r5.2.Off r5.2.L r5.1 p0 a1)))))
theorem dossierref04_Journal_Append_16.meets (k : Nat) (p0 : dossierref04_Journal) (a1 : List Int) (p1 : dossierref03_Disk) (r : Int × dossierref04_Journal × dossierref03_Disk) (h : dossierref04_Journal_Append_16.f k p0 a1 p1 = some r) : Meets Try.prog 16 [(rf 0 0), (D.one (C.p false (.sl a1.length (a1.flatMap e_u8))))] [(o_dossierref04_Journal_02 false (C.ref 1 0) (C.own 2 0 p0.L.length 1) p0), (o_dossierref03_Disk_0 false (C.own 3 0 p1.L.length 3) p1), (some (AObj.cells false (rowC (e_sl e_u8) p0.L))), (or_ e_dossierref03_File p1.L)] (si r.1) [(o_dossierref04_Journal_02 false (C.ref 1 0) (C.own 4 0 r.2.1.L.length 1) r.2.1), (o_dossierref03_Disk_0 false (C.own 5 0 r.2.2.L.length 3) r.2.2), none, none, (some (AObj.cells false (rowC (e_sl e_u8) r.2.1.L))), (or_ e_dossierref03_File r.2.2.L)] := by
 unfold dossierref04_Journal_Append_16.f at h
 refine Meets.of_body (n := 53) Try.func16 rfl rfl (nl rfl) fun x hx => ?_
 replace hx : x.k = 4 := hx
 show AW _ x _ _ ⟨53, fr0 [(rf 0 0), (D.one (C.p false (.sl a1.length (a1.flatMap e_u8))))], [(o_dossierref04_Journal_02 false (C.ref 1 0) (C.own 2 0 p0.L.length 1) p0), (o_dossierref03_Disk_0 false (C.own 3 0 p1.L.length 3) p1), (some (AObj.cells false (rowC (e_sl e_u8) p0.L))), (or_ e_dossierref03_File p1.L)]⟩
 refine AW.weak (st' := ⟨53, (upd 53 (upd 53 topF 0 (rf 0 0)) 1 (D.one (C.p false (.sl a1.length (a1.flatMap e_u8))))), [(o_dossierref04_Journal_02 false (C.ref 1 0) (C.own 4 0 p0.L.length 1) p0), (o_dossierref03_Disk_0 false (C.own 5 0 p1.L.length 3) p1), none, none, (some (AObj.cells false (rowC (e_sl e_u8) p0.L))), (or_ e_dossierref03_File p1.L)]⟩) (Weak.genL (kk := 4) [0, 1, 2, 3, 2, 3] [] hx rfl (by decide) rfl rfl rfl rfl (le_upd (le_upd (le_top _) (o1 (.ref rfl))) (o1 .same)) (ac (.cells id (ac (.ref rfl) (ac .same (ac (.own rfl) (ac .sc an))))) (ac (.cells id (ac (.own rfl) (ac .sc (ac .sc (ac .sc an))))) (ac (.none _) (ac (.none _) (ac (.cells id (all2_row _)) (ac (.cells id (all2_row _)) an))))))) (AW.seq (AW.region ?_))
 refine s_assign (d := (si 0)) rfl (AWops.nil (AW.seq (AW.seq (AW.region ?_))))
 refine s_move (d := (D.one (C.p false (.sl a1.length (a1.flatMap e_u8))))) rfl (s_len (n := a1.length) F.u_22 rfl (.inr ⟨(fun _ _ h => by cases h), ⟨_, rfl⟩⟩) (s_binI (v := (.bool ((a1.length : Int) == 0))) rfl rfl rfl (s_move (d := (sb ((a1.length : Int) == 0))) rfl ?_)))
 rcases itH h with ⟨c1, h⟩ | ⟨c1, h⟩
 ·iterate 3 refine AWops.guard_no rfl (nl rfl) rfl c1 ?_
  refine s_pick_yes (d := (sb true)) rfl c1 rfl (AWops.nil ?_)
  refine AW.cond_yes rfl rfl (AW.seq (AW.region ?_))
  refine s_assign (d := (si 1)) rfl (AWops.nil (AW.ret ?_))
  obtain rfl := Option.some.inj h
  exact ⟨_, rfl, (wG 4 [0, 1, 2, 3, 4, 5] [])⟩
 ·refine AWops.guard_yes rfl (nl rfl) rfl c1 ?_
  refine s_move (d := (D.one (C.p false (.sl a1.length (a1.flatMap e_u8))))) rfl ?_
  refine AWops.guard_yes rfl (nl rfl) rfl c1 ?_
  refine s_len (n := a1.length) F.u_22 rfl (.inr ⟨(fun _ _ h => by cases h), ⟨_, rfl⟩⟩) ?_
  refine AWops.guard_yes rfl (nl rfl) rfl c1 ?_
  refine s_binI (v := (.bool (decide ((a1.length : Int) > 4194304)))) rfl rfl rfl (s_pick_no (d := (sb (decide ((a1.length : Int) > 4194304)))) rfl c1 rfl (AWops.nil ?_))
  rcases itH h with ⟨c2, h⟩ | ⟨c2, h⟩
  ·refine AW.cond_yes rfl c2 (AW.seq (AW.region ?_))
   refine s_assign (d := (si 1)) rfl (AWops.nil (AW.ret ?_))
   obtain rfl := Option.some.inj h
   exact ⟨_, rfl, (wG 4 [0, 1, 2, 3, 4, 5] [])⟩
  ·refine AW.cond_no rfl c2 (AW.skip (AW.seq (AW.seq (AW.region ?_))))
   refine s_move (d := (rf 0 0)) rfl (s_nilCheck (d := (rf 0 0)) rfl (.inl ⟨_, _, rfl⟩) (s_fieldRef F.fo_63_3 (by decide) rfl (s_load1 (c' := (cb p0.Stop)) F.ag_4 rfl rfl (AWops.nil ?_))))
   rcases itH h with ⟨c3, h⟩ | ⟨c3, h⟩
   ·refine AW.cond_yes rfl c3 (AW.seq (AW.region ?_))
    refine s_assign (d := (si 70)) rfl (AWops.nil (AW.ret ?_))
    obtain rfl := Option.some.inj h
    exact ⟨_, rfl, (wG 4 [0, 1, 2, 3, 4, 5] [])⟩
   ·refine AW.cond_no rfl c3 (AW.skip (AW.seq ?_))
    refine AW.weak (st' := ⟨53, (upd 53 (upd 53 topF 0 (rf 0 0)) 1 (D.one (C.p false (.sl a1.length (a1.flatMap e_u8))))), [(o_dossierref04_Journal_02 false (C.ref 1 0) (C.own 4 0 p0.L.length 1) p0), (o_dossierref03_Disk_0 false (C.own 5 0 p1.L.length 3) p1), none, none, (some (AObj.cells false (rowC (e_sl e_u8) p0.L))), (or_ e_dossierref03_File p1.L)]⟩) (wG 4 [0, 1, 2, 3, 4, 5] []) ?_
    obtain ⟨r4, er4, h⟩ := bnd h
    obtain ⟨r5, er5, h⟩ := bnd h
    refine AW.draw2 8 [kf 18 (rf 0 0) [0], kf 19 (rf 0 0) [18], kf 20 (rf 0 0) [19], ⟨some 21, (rf 1 0), [20], [0], [], none⟩, kf 22 (D.one (C.p false (.sl a1.length (a1.flatMap e_u8)))) [1], ⟨some 23, (D.one (C.p false (.sl r4.length (r4.flatMap e_u8)))), [22], [], [], some (6, 1)⟩, ⟨some 24, (si r5.1), [21, 23], [1, 5], [(1, (o_dossierref03_Disk_0 false (C.own 7 0 r5.2.L.length 3) r5.2)), (5, none), (7, (or_ e_dossierref03_File r5.2.L))], some (7, 1)⟩, kf 5 (si r5.1) [24]] ⟨?_, ?_⟩
    ·refine (pA (pA (pE F.fo_63_0 (pE F.ag_29 (pA (pC ?_ (pC ?_ (pA AllStep.nil'))))))))
     ·intro K rest fr hv htk k
      show AWops _ x _ _ K ⟨53, (upd 53 fr 22 (D.one (C.p false (.sl a1.length (a1.flatMap e_u8))))), [(hv 0), (hv 1), (hv 2), (hv 3), (hv 4), (hv 5), (hv 6), (hv 7)]⟩
      refine cc [] [(hv 0), (hv 1), (hv 2), (hv 3), (hv 4), (hv 5), (hv 6), (hv 7), (ow_ e_u8 r4)] (D.one (C.own 8 0 r4.length 1)) F.ca_50 rfl rfl (ac (.one .imm) an) an (dossierref04_frame.meets _ a1 r4 er4) ?_
      refine AWops.weak (wD 4 (6, 1) 8 [0, 1, 2, 3, 4, 5, 6, 7] [8] (htk (6, 1) rfl)) k
     ·intro K rest fr hv htk k
      show AWops _ x _ _ K ⟨53, (upd 53 (upd 53 fr 23 (D.one (C.p false (.sl r4.length (r4.flatMap e_u8))))) 21 (rf 1 0)), [(hv 0), (o_dossierref03_Disk_0 false (C.own 5 0 p1.L.length 3) p1), (hv 2), (hv 3), (hv 4), (or_ e_dossierref03_File p1.L), (hv 6), (hv 7)]⟩
      refine cc [1, 5] [(hv 0), (o_dossierref03_Disk_0 false (C.own 8 0 r5.2.L.length 3) r5.2), (hv 2), (hv 3), (hv 4), none, (hv 6), (hv 7), (or_ e_dossierref03_File r5.2.L)] (si r5.1) F.ca_36 rfl rfl (ac (.one (.ref rfl)) (ac (.one .sc) (ac (.one .imm) an))) (ac (.cells (ac (.own rfl) (ac .sc (ac .sc (ac .sc an))))) (ac (.cells (lend_row _)) an)) (dossierref03_Disk_Append_36.meets _ p1 (⟨#[106, 111, 117, 114, 110, 97, 108]⟩ : ByteArray) r4 r5 er5) ?_
      refine AWops.weak (wD 4 (7, 1) 8 [0, 1, 2, 3, 4, 5, 6, 8] [] (htk (7, 1) rfl)) k
    ·refine AWops.weak (st' := ⟨53, (upd 53 (upd 53 (upd 53 topF 0 (rf 0 0)) 1 (D.one (C.p false (.sl a1.length (a1.flatMap e_u8))))) 5 (si r5.1)), [(o_dossierref04_Journal_02 false (C.ref 1 0) (C.own 4 0 p0.L.length 1) p0), (o_dossierref03_Disk_0 false (C.own 5 0 r5.2.L.length 3) r5.2), none, none, (some (AObj.cells false (rowC (e_sl e_u8) p0.L))), (or_ e_dossierref03_File r5.2.L)]⟩) (wG 4 [0, 1, 2, 3, 4, 7] []) (AWops.nil (AW.seq (AW.seq (AW.region ?_))))
     refine s_move (d := (si r5.1)) rfl (s_binI (v := (.bool (r5.1 == 71))) rfl rfl rfl (AWops.nil ?_))
     rcases itH h with ⟨c6, h⟩ | ⟨c6, h⟩
     ·refine AW.cond_yes rfl c6 (AW.seq (AW.region ?_))
      refine s_move (d := (si r5.1)) rfl (s_assign (d := (si r5.1)) rfl (AWops.nil (AW.ret ?_)))
      obtain rfl := Option.some.inj h
      exact ⟨_, rfl, (wG 4 [0, 1, 2, 3, 4, 5] [])⟩
     ·refine AW.cond_no rfl c6 (AW.skip ?_)
      refine AW.seqJ (fun st => ∃ (x9 : Int) (x10 : Int) (x11 : Bool) (x12 : List dossierref03_File) (x13 : Int), dossierref04_Journal_Append_16.j0 k x9 x10 x11 x12 x13 p0 a1 = some r ∧ st = ⟨53, (upd 53 (upd 53 (upd 53 topF 0 (rf 0 0)) 1 (D.one (C.p false (.sl a1.length (a1.flatMap e_u8))))) 5 (si x13)), [(o_dossierref04_Journal_02 false (C.ref 1 0) (C.own 4 0 p0.L.length 1) p0), (some (AObj.cells false [(C.own 5 0 x12.length 3), (ci x9), (ci x10), (cb x11)])), none, none, (some (AObj.cells false (rowC (e_sl e_u8) p0.L))), (or_ e_dossierref03_File x12)]⟩) ?_ ?_
      ·refine AW.seq (AW.region ?_)
       refine s_move (d := (si r5.1)) rfl (s_binI (v := (.bool (r5.1 == 0))) rfl rfl rfl (AWops.nil ?_))
       rcases itH h with ⟨c7, h⟩ | ⟨c7, h⟩
       ·refine AW.cond_yes rfl c7 (AW.region ?_)
        refine s_move (d := (rf 0 0)) rfl (s_nilCheck (d := (rf 0 0)) rfl (.inl ⟨_, _, rfl⟩) (s_fieldRef F.fo_63_0 (by decide) rfl (s_load1 (c' := (C.ref 1 0)) F.ag_29 rfl rfl ?_)))
        obtain ⟨r8, er8, h⟩ := bnd h
        refine cc [1, 5] [(o_dossierref04_Journal_02 false (C.ref 1 0) (C.own 4 0 p0.L.length 1) p0), (o_dossierref03_Disk_0 false (C.own 6 0 r8.2.L.length 3) r8.2), none, none, (some (AObj.cells false (rowC (e_sl e_u8) p0.L))), none, (or_ e_dossierref03_File r8.2.L)] (si r8.1) F.ca_38 rfl rfl (ac (.one (.ref rfl)) (ac (.one .sc) an)) (ac (.cells (ac (.own rfl) (ac .sc (ac .sc (ac .sc an))))) (ac (.cells (lend_row _)) an)) (dossierref03_Disk_Sync_38.meets _ r5.2 (⟨#[106, 111, 117, 114, 110, 97, 108]⟩ : ByteArray) r8 er8) (s_assign (d := (si r8.1)) rfl (AWops.nil ?_))
        exact ⟨⟨53, (upd 53 (upd 53 (upd 53 topF 0 (rf 0 0)) 1 (D.one (C.p false (.sl a1.length (a1.flatMap e_u8))))) 5 (si r8.1)), [(o_dossierref04_Journal_02 false (C.ref 1 0) (C.own 4 0 p0.L.length 1) p0), (some (AObj.cells false [(C.own 5 0 r8.2.L.length 3), (ci r8.2.Most), (ci r8.2.Burns), (cb r8.2.Off)])), none, none, (some (AObj.cells false (rowC (e_sl e_u8) p0.L))), (or_ e_dossierref03_File r8.2.L)]⟩, (wG 4 [0, 1, 2, 3, 4, 6] []), r8.2.Most, r8.2.Burns, r8.2.Off, r8.2.L, r8.1, h, rfl⟩
       ·refine AW.cond_no rfl c7 (AW.skip ?_)
        exact ⟨⟨53, (upd 53 (upd 53 (upd 53 topF 0 (rf 0 0)) 1 (D.one (C.p false (.sl a1.length (a1.flatMap e_u8))))) 5 (si r5.1)), [(o_dossierref04_Journal_02 false (C.ref 1 0) (C.own 4 0 p0.L.length 1) p0), (some (AObj.cells false [(C.own 5 0 r5.2.L.length 3), (ci r5.2.Most), (ci r5.2.Burns), (cb r5.2.Off)])), none, none, (some (AObj.cells false (rowC (e_sl e_u8) p0.L))), (or_ e_dossierref03_File r5.2.L)]⟩, (wG 4 [0, 1, 2, 3, 4, 5] []), r5.2.Most, r5.2.Burns, r5.2.Off, r5.2.L, r5.1, h, rfl⟩
      ·rintro st ⟨x9, x10, x11, x12, x13, h, rfl⟩
       cases k with
       | zero => exact absurd h (by simp [dossierref04_Journal_Append_16.j0])
       | succ qj0 =>
        replace h := (dossierref04_Journal_Append_16.j0.eq_2 _ _ _ _ _ _ _ _).symm.trans h
        refine AW.seq (AW.seq (AW.region ?_))
        refine s_move (d := (si x13)) rfl (s_binI (v := (.bool (x13 != 0))) rfl rfl rfl (AWops.nil ?_))
        rcases itH h with ⟨c14, h⟩ | ⟨c14, h⟩
        ·refine AW.cond_yes rfl c14 (AW.seq (AW.region ?_))
         refine s_move (d := (rf 0 0)) rfl (s_nilCheck (d := (rf 0 0)) rfl (.inl ⟨_, _, rfl⟩) (s_fieldRef F.fo_63_3 (by decide) rfl (s_store (cs' := [(C.ref 1 0), (C.p false (.sl p0.Snap.length (p0.Snap.flatMap e_u8))), (C.own 4 0 p0.L.length 1), (cb true)]) rfl rfl rfl (List.cons_ne_nil _ _) rfl F.sz_4 (nl rfl) rfl (AWops.nil (AW.seq (AW.region (s_move (d := (si x13)) rfl (s_assign (d := (si x13)) rfl (AWops.nil (AW.ret ?_))))))))))
         obtain rfl := Option.some.inj h
         exact ⟨_, rfl, (wG 4 [0, 1, 2, 3, 4, 5] [])⟩
        ·refine AW.cond_no rfl c14 (AW.skip (AW.seq ?_))
         refine AW.weak (st' := ⟨53, (upd 53 (upd 53 topF 0 (rf 0 0)) 1 (D.one (C.p false (.sl a1.length (a1.flatMap e_u8))))), [(o_dossierref04_Journal_02 false (C.ref 1 0) (C.own 4 0 p0.L.length 1) p0), (some (AObj.cells false [(C.own 5 0 x12.length 3), (ci x9), (ci x10), (cb x11)])), none, none, (some (AObj.cells false (rowC (e_sl e_u8) p0.L))), (or_ e_dossierref03_File x12)]⟩) (wG 4 [0, 1, 2, 3, 4, 5] []) ?_
         obtain ⟨c15, h⟩ := gdH h
         have dc15 := of_decide_eq_true c15
         obtain ⟨c16, h⟩ := gdH h
         have dc16 := of_decide_eq_true c16
         refine AW.draw2 10 [kf 41 (rf 0 0) [0], kf 42 (rf 0 0) [0], kf 43 (rf 0 0) [42], kf 44 (rf 0 2) [43], ⟨some 45, (D.one (C.own 4 0 p0.L.length 1)), [44], [0], [], none⟩, ⟨some 46, (D.one (C.own 6 0 (([] : List Int).length) 1)), [], [], [(6, (some (AObj.cells true (rowC e_u8 ([] : List Int)))))], some (6, 1)⟩, kf 47 (D.one (C.p false (.sl a1.length (a1.flatMap e_u8)))) [1], ⟨some 48, (D.one (C.p false (.sl a1.length (a1.flatMap e_u8)))), [46, 47], [6], [(6, none)], some (7, 1)⟩, ⟨some 49, (D.one (C.own 8 0 (([a1] : List (List Int)).length) 1)), [48], [], [(8, (some (AObj.cells true (rowC (e_sl e_u8) ([a1] : List (List Int))))))], some (8, 1)⟩, ⟨some 50, (D.one (C.own 9 0 ((p0.L ++ ([a1] : List (List Int))).length) 1)), [45, 49], [4, 8], [(4, none), (9, (some (AObj.cells false (rowC (e_sl e_u8) (p0.L ++ ([a1] : List (List Int)))))))], some (9, 1)⟩, kf 51 (rf 0 0) [41], kf 52 (rf 0 2) [51], ⟨none, (D.one C.top), [50, 52], [0], [(0, (o_dossierref04_Journal_02 false (C.ref 1 0) (C.own 9 0 ((p0.L ++ ([a1] : List (List Int))).length) 1) p0))], none⟩] ⟨?_, ?_⟩
         ·refine (pA (pA (pA (pE F.fo_63_2 (pE F.ag_61 (pC ?_ (pA (pC ?_ (pC ?_ (pC ?_ (pA (pE F.fo_63_2 (pC ?_ AllStep.nil')))))))))))))
          ·intro K rest fr hv htk k
           refine s_buildSlice (n := 0) (ps := []) (cs := rowC e_u8 ([] : List Int)) F.u_22 F.sz_5 F.z_5 rfl rfl (by decide) (by decide) rfl rfl ?_
           refine AWops.weak (wD 4 (6, 1) 10 [0, 1, 2, 3, 4, 5, 10, 7, 8, 9] [] (htk (6, 1) rfl)) k
          ·intro K rest fr hv htk k
           refine t_append (xs := ([] : List Int)) (ys := a1) (zs := a1) (H' := [(hv 0), (hv 1), (hv 2), (hv 3), (hv 4), (hv 5), none, (hv 7), (hv 8), (hv 9), (ow_ e_u8 a1)]) F.u_22 F.in_5 rfl e_u8_len (.own rfl rfl) .imm F.u_22 (by omega) (by omega) rfl rfl ?_
           refine AWops.weak (wD 4 (7, 1) 10 [0, 1, 2, 3, 4, 5, 6, 7, 8, 9] [10] (htk (7, 1) rfl)) k
          ·intro K rest fr hv htk k
           refine s_buildSlice (n := 1) (ps := [(0, (D.one (C.p false (.sl a1.length (a1.flatMap e_u8)))))]) (cs := rowC (e_sl e_u8) ([a1] : List (List Int))) F.u_61 F.sz_22 F.z_22 rfl rfl (by decide) (by decide) rfl rfl ?_
           refine AWops.weak (wD 4 (8, 1) 10 [0, 1, 2, 3, 4, 5, 6, 7, 10, 9] [] (htk (8, 1) rfl)) k
          ·intro K rest fr hv htk k
           refine t_append (xs := p0.L) (ys := ([a1] : List (List Int))) (zs := p0.L ++ ([a1] : List (List Int))) (H' := [(hv 0), (hv 1), (hv 2), (hv 3), none, (hv 5), (hv 6), (hv 7), (some (AObj.cells true (rowC (e_sl e_u8) ([a1] : List (List Int))))), (hv 9), (some (AObj.cells false (rowC (e_sl e_u8) (p0.L ++ ([a1] : List (List Int))))))]) F.u_61 F.in_22 rfl (e_sl_len _) (.own rfl rfl) (.own rfl rfl) F.u_61 (by omega) (by omega) rfl rfl ?_
           refine AWops.weak (wD 4 (9, 1) 10 [0, 1, 2, 3, 4, 5, 6, 7, 8, 10] [] (htk (9, 1) rfl)) k
          ·intro K rest fr hv htk k
           refine s_store (cs' := [(C.ref 1 0), (C.p false (.sl p0.Snap.length (p0.Snap.flatMap e_u8))), (C.own 9 0 ((p0.L ++ ([a1] : List (List Int))).length) 1), (cb p0.Stop)]) rfl rfl rfl (List.cons_ne_nil _ _) rfl F.sz_61 (nl rfl) rfl k
         ·refine AWops.weak (st' := ⟨53, topF, [(o_dossierref04_Journal_02 false (C.ref 1 0) (C.own 4 0 ((p0.L ++ ([a1] : List (List Int))).length) 1) p0), (some (AObj.cells false [(C.own 5 0 x12.length 3), (ci x9), (ci x10), (cb x11)])), none, none, (some (AObj.cells false (rowC (e_sl e_u8) (p0.L ++ ([a1] : List (List Int)))))), (or_ e_dossierref03_File x12)]⟩) (wG 4 [0, 1, 2, 3, 9, 5] []) (AWops.nil (AW.seq (AW.region ?_)))
          refine s_assign (d := (si 0)) rfl (AWops.nil (AW.ret ?_))
          obtain rfl := Option.some.inj h
          exact ⟨_, rfl, (wG 4 [0, 1, 2, 3, 4, 5] [])⟩
def dossierlaw04_pair_does_7.f (k : Nat) (p0 : dossierlaw04_pair) (a1 : dossierlaw04_Do) (p1 : vdisk_Disk) (p2 : dossierref03_Disk) : Option (Bool × dossierlaw04_pair × vdisk_Disk × dossierref03_Disk) := if ((IntKind.i64.wrap (Int.tmod (IntKind.u64.wrap a1.Op) 6)) == 4) = true then ((dossierplain_Step_Do_12.f k a1.Step p1 p2).bind fun r2 => some (r2.1, p0, r2.2.1, r2.2.2)) else (if ((IntKind.i64.wrap (Int.tmod (IntKind.u64.wrap a1.Op) 6)) == 5) = true then ((dossierlaw04_pair_open_6.f k p0 a1.B p1 p2).bind fun r4 => some (r4.1, r4.2.1, r4.2.2.1, r4.2.2.2)) else (if p0.x.isSome = true then (if ((IntKind.i64.wrap (Int.tmod (IntKind.u64.wrap a1.Op) 6)) == 3) = true then (if p0.j.isSome = true then ((journal_Journal_Compact_13.f k (p0.j.getD default) a1.B p1).bind fun r8 => (dossierref04_Journal_Compact_14.f k (p0.x.getD default) a1.B p2).bind fun r9 => some ((r8.1 == r9.1), (⟨(some r8.2.1), (some r9.2.1), (), ()⟩ : dossierlaw04_pair), r8.2.2, r9.2.2)) else (none)) else (if p0.j.isSome = true then ((journal_Journal_Append_15.f k (p0.j.getD default) a1.B p1).bind fun r11 => (dossierref04_Journal_Append_16.f k (p0.x.getD default) a1.B p2).bind fun r12 => some ((r11.1 == r12.1), (⟨(some r11.2.1), (some r12.2.1), (), ()⟩ : dossierlaw04_pair), r11.2.2, r12.2.2)) else (none))) else (some (true, p0, p1, p2))))
theorem dossierlaw04_pair_does_7.meets (k : Nat) (p0 : dossierlaw04_pair) (a1 : dossierlaw04_Do) (p1 : vdisk_Disk) (p2 : dossierref03_Disk) (r : Bool × dossierlaw04_pair × vdisk_Disk × dossierref03_Disk) (h : dossierlaw04_pair_does_7.f k p0 a1 p1 p2 = some r) : Meets Try.prog 7 [(rf 0 0), (D.agg (c_dossierlaw04_Do a1))] [(some (AObj.cells false [(C.opt p0.j.isSome 4 0), (C.opt p0.x.isSome 6 0), (C.ref 1 0), (C.ref 2 0)])), (o_vdisk_Disk_03 false (C.mp 3) (C.opt p1.fuse.isSome 8 0) p1), (o_dossierref03_Disk_0 false (C.own 9 0 p2.L.length 3) p2), (om_ e_vdisk_file p1.files), (o_journal_Journal_02 false (C.ref 1 0) (C.own 5 0 (((p0.j.getD default).l).length) 1) (p0.j.getD default)), (some (AObj.cells false (rowC (e_sl e_u8) ((p0.j.getD default).l)))), (o_dossierref04_Journal_02 false (C.ref 2 0) (C.own 7 0 (((p0.x.getD default).L).length) 1) (p0.x.getD default)), (some (AObj.cells false (rowC (e_sl e_u8) ((p0.x.getD default).L)))), (some (AObj.cells false [(ci (p1.fuse.getD default))])), (or_ e_dossierref03_File p2.L)] (sb r.1) [(some (AObj.cells false [(C.opt r.2.1.j.isSome 10 0), (C.opt r.2.1.x.isSome 12 0), (C.ref 1 0), (C.ref 2 0)])), (o_vdisk_Disk_03 false (C.mp 3) (C.opt r.2.2.1.fuse.isSome 14 0) r.2.2.1), (o_dossierref03_Disk_0 false (C.own 15 0 r.2.2.2.L.length 3) r.2.2.2), (om_ e_vdisk_file r.2.2.1.files), none, none, none, none, none, none, (o_journal_Journal_02 false (C.ref 1 0) (C.own 11 0 (((r.2.1.j.getD default).l).length) 1) (r.2.1.j.getD default)), (some (AObj.cells false (rowC (e_sl e_u8) ((r.2.1.j.getD default).l)))), (o_dossierref04_Journal_02 false (C.ref 2 0) (C.own 13 0 (((r.2.1.x.getD default).L).length) 1) (r.2.1.x.getD default)), (some (AObj.cells false (rowC (e_sl e_u8) ((r.2.1.x.getD default).L)))), (some (AObj.cells false [(ci (r.2.2.1.fuse.getD default))])), (or_ e_dossierref03_File r.2.2.2.L)] := by
 unfold dossierlaw04_pair_does_7.f at h
 refine Meets.of_body (n := 71) Try.func7 rfl rfl (nl rfl) fun x hx => ?_
 replace hx : x.k = 10 := hx
 show AW _ x _ _ ⟨71, fr0 [(rf 0 0), (D.agg (c_dossierlaw04_Do a1))], [(some (AObj.cells false [(C.opt p0.j.isSome 4 0), (C.opt p0.x.isSome 6 0), (C.ref 1 0), (C.ref 2 0)])), (o_vdisk_Disk_03 false (C.mp 3) (C.opt p1.fuse.isSome 8 0) p1), (o_dossierref03_Disk_0 false (C.own 9 0 p2.L.length 3) p2), (om_ e_vdisk_file p1.files), (o_journal_Journal_02 false (C.ref 1 0) (C.own 5 0 (((p0.j.getD default).l).length) 1) (p0.j.getD default)), (some (AObj.cells false (rowC (e_sl e_u8) ((p0.j.getD default).l)))), (o_dossierref04_Journal_02 false (C.ref 2 0) (C.own 7 0 (((p0.x.getD default).L).length) 1) (p0.x.getD default)), (some (AObj.cells false (rowC (e_sl e_u8) ((p0.x.getD default).L)))), (some (AObj.cells false [(ci (p1.fuse.getD default))])), (or_ e_dossierref03_File p2.L)]⟩
 refine AW.weak (st' := ⟨71, (upd 71 (upd 71 topF 0 (rf 0 0)) 1 (D.agg (c_dossierlaw04_Do a1))), [(some (AObj.cells false [(C.opt p0.j.isSome 10 0), (C.opt p0.x.isSome 12 0), (C.ref 1 0), (C.ref 2 0)])), (o_vdisk_Disk_03 false (C.mp 3) (C.opt p1.fuse.isSome 14 0) p1), (o_dossierref03_Disk_0 false (C.own 15 0 p2.L.length 3) p2), (om_ e_vdisk_file p1.files), none, none, none, none, none, none, (o_journal_Journal_02 false (C.ref 1 0) (C.own 11 0 (((p0.j.getD default).l).length) 1) (p0.j.getD default)), (some (AObj.cells false (rowC (e_sl e_u8) ((p0.j.getD default).l)))), (o_dossierref04_Journal_02 false (C.ref 2 0) (C.own 13 0 (((p0.x.getD default).L).length) 1) (p0.x.getD default)), (some (AObj.cells false (rowC (e_sl e_u8) ((p0.x.getD default).L)))), (some (AObj.cells false [(ci (p1.fuse.getD default))])), (or_ e_dossierref03_File p2.L)]⟩) (Weak.genL (kk := 10) [0, 1, 2, 3, 4, 5, 6, 7, 8, 9, 4, 5, 6, 7, 8, 9] [] hx rfl (by decide) rfl rfl rfl rfl (le_upd (le_upd (le_top _) (o1 (.ref rfl))) (.t (.agg (ac .sc (ac .same (ac .sc (ac .sc (ac .sc (ac .sc (ac .same (ac .same an))))))))))) (ac (.cells id (ac (.opt rfl) (ac (.opt rfl) (ac (.ref rfl) (ac (.ref rfl) an))))) (ac (.cells id (ac (.mp rfl) (ac .sc (ac .sc (ac (.opt rfl) (ac .sc an)))))) (ac (.cells id (ac (.own rfl) (ac .sc (ac .sc (ac .sc an))))) (ac .map (ac (.none _) (ac (.none _) (ac (.none _) (ac (.none _) (ac (.none _) (ac (.none _) (ac (.cells id (ac (.ref rfl) (ac .same (ac (.own rfl) (ac .sc an))))) (ac (.cells id (all2_row _)) (ac (.cells id (ac (.ref rfl) (ac .same (ac (.own rfl) (ac .sc an))))) (ac (.cells id (all2_row _)) (ac (.cells id (ac .sc an)) (ac (.cells id (all2_row _)) an))))))))))))))))) (AW.seq (AW.region ?_))
 refine s_box (cs := (c_dossierlaw04_Do a1)) rfl (List.cons_ne_nil _ _) rfl (s_assign (d := (sb false)) rfl (AWops.nil (AW.seq (AW.seq (AW.region (s_fieldRef F.fo_42_0 (by decide) rfl (s_load1 (c' := (ci a1.Op)) F.ag_3 rfl rfl (s_convI F.u_3 F.u_24 rfl (s_binI (v := (.int .u64 (Int.tmod (IntKind.u64.wrap a1.Op) 6))) rfl rfl rfl ?_)))))))))
 refine s_convI F.u_24 F.u_3 rfl (s_assign (d := (si (IntKind.i64.wrap (Int.tmod (IntKind.u64.wrap a1.Op) 6)))) rfl (AWops.nil (AW.block (AW.seq (AW.region (s_move (d := (si (IntKind.i64.wrap (Int.tmod (IntKind.u64.wrap a1.Op) 6)))) rfl (s_binI (v := (.bool ((IntKind.i64.wrap (Int.tmod (IntKind.u64.wrap a1.Op) 6)) == 4))) rfl rfl rfl (s_assign (d := (sb ((IntKind.i64.wrap (Int.tmod (IntKind.u64.wrap a1.Op) 6)) == 4))) rfl (AWops.nil ?_)))))))))
 rcases itH h with ⟨c1, h⟩ | ⟨c1, h⟩
 ·refine AW.cond_yes rfl c1 (AW.seq ?_)
  refine AW.weak (st' := ⟨71, (upd 71 (upd 71 (upd 71 topF 0 (rf 0 0)) 3 (rf 10 0)) 4 (sb false)), [(some (AObj.cells false [(C.opt p0.j.isSome 11 0), (C.opt p0.x.isSome 12 0), (C.ref 1 0), (C.ref 2 0)])), (o_vdisk_Disk_03 false (C.mp 3) (C.opt p1.fuse.isSome 13 0) p1), (o_dossierref03_Disk_0 false (C.own 14 0 p2.L.length 3) p2), (om_ e_vdisk_file p1.files), none, none, none, none, none, none, (some (AObj.cells true (c_dossierlaw04_Do a1))), (o_journal_Journal_02 false (C.ref 1 0) (C.own 15 0 (((p0.j.getD default).l).length) 1) (p0.j.getD default)), (o_dossierref04_Journal_02 false (C.ref 2 0) (C.own 16 0 (((p0.x.getD default).L).length) 1) (p0.x.getD default)), (some (AObj.cells false [(ci (p1.fuse.getD default))])), (or_ e_dossierref03_File p2.L), (some (AObj.cells false (rowC (e_sl e_u8) ((p0.j.getD default).l)))), (some (AObj.cells false (rowC (e_sl e_u8) ((p0.x.getD default).L))))]⟩) (wG 10 [0, 1, 2, 3, 4, 5, 6, 7, 8, 9, 16, 10, 12, 14, 15, 11, 13] []) ?_
  obtain ⟨r2, er2, h⟩ := bnd h
  refine AW.draw2 19 [kf 14 (rf 10 2) [3], ⟨some 15, (D.agg (c_dossierplain_Step a1.Step)), [14], [10], [], none⟩, kf 16 (rf 0 0) [0], kf 17 (rf 0 0) [16], kf 18 (rf 0 2) [17], ⟨some 19, (rf 1 0), [18], [0], [], none⟩, kf 20 (rf 0 0) [0], kf 21 (rf 0 0) [20], kf 22 (rf 0 3) [21], ⟨some 23, (rf 2 0), [22], [0], [], none⟩, ⟨some 24, (sb r2.1), [15, 19, 23], [1, 2, 3, 13, 14], [(1, (o_vdisk_Disk_03 false (C.mp 3) (C.opt r2.2.1.fuse.isSome 17 0) r2.2.1)), (2, (o_dossierref03_Disk_0 false (C.own 18 0 r2.2.2.L.length 3) r2.2.2)), (3, (om_ e_vdisk_file r2.2.1.files)), (13, none), (14, none), (17, (some (AObj.cells false [(ci (r2.2.1.fuse.getD default))]))), (18, (or_ e_dossierref03_File r2.2.2.L))], some (17, 2)⟩, kf 4 (sb r2.1) [24]] ⟨?_, ?_⟩
  ·refine (pE F.fo_42_2 (pC ?_ (pA (pA (pE F.fo_36_2 (pE F.ag_25 (pA (pA (pE F.fo_36_3 (pE F.ag_29 (pC ?_ (pA AllStep.nil'))))))))))))
   ·intro K rest fr hv htk k
    refine s_loadN (ds := (c_dossierplain_Step a1.Step)) F.ag_40 F.sz_40 rfl rfl rfl k
   ·intro K rest fr hv htk k
    show AWops _ x _ _ K ⟨71, (upd 71 (upd 71 (upd 71 fr 23 (rf 2 0)) 19 (rf 1 0)) 15 (D.agg (c_dossierplain_Step a1.Step))), [(hv 0), (o_vdisk_Disk_03 false (C.mp 3) (C.opt p1.fuse.isSome 13 0) p1), (o_dossierref03_Disk_0 false (C.own 14 0 p2.L.length 3) p2), (om_ e_vdisk_file p1.files), (hv 4), (hv 5), (hv 6), (hv 7), (hv 8), (hv 9), (hv 10), (hv 11), (hv 12), (some (AObj.cells false [(ci (p1.fuse.getD default))])), (or_ e_dossierref03_File p2.L), (hv 15), (hv 16), (hv 17), (hv 18)]⟩
    refine cc [1, 2, 3, 13, 14] [(hv 0), (o_vdisk_Disk_03 false (C.mp 3) (C.opt r2.2.1.fuse.isSome 19 0) r2.2.1), (o_dossierref03_Disk_0 false (C.own 20 0 r2.2.2.L.length 3) r2.2.2), (om_ e_vdisk_file r2.2.1.files), (hv 4), (hv 5), (hv 6), (hv 7), (hv 8), (hv 9), (hv 10), (hv 11), (hv 12), none, none, (hv 15), (hv 16), (hv 17), (hv 18), (some (AObj.cells false [(ci (r2.2.1.fuse.getD default))])), (or_ e_dossierref03_File r2.2.2.L)] (sb r2.1) F.ca_12 rfl rfl (ac (LendT.aggL (ac .sc (ac .sc (ac .sc (ac .sc (ac .imm (ac .imm an))))))) (ac (.one (.ref rfl)) (ac (.one (.ref rfl)) an))) (ac (.cells (ac (.mp rfl) (ac .sc (ac .sc (ac (.opt rfl) (ac .sc an)))))) (ac (.cells (ac (.own rfl) (ac .sc (ac .sc (ac .sc an))))) (ac .map (ac (.cells (ac .sc an)) (ac (.cells (lend_row _)) an))))) (dossierplain_Step_Do_12.meets _ a1.Step p1 p2 r2 er2) ?_
    refine AWops.weak (wD 10 (17, 2) 19 [0, 1, 2, 3, 4, 5, 6, 7, 8, 9, 10, 11, 12, 13, 14, 15, 16, 19, 20] [] (htk (17, 2) rfl)) k
  ·refine AWops.weak (st' := ⟨71, (upd 71 topF 4 (sb r2.1)), [(some (AObj.cells false [(C.opt p0.j.isSome 10 0), (C.opt p0.x.isSome 11 0), (C.ref 1 0), (C.ref 2 0)])), (o_vdisk_Disk_03 false (C.mp 3) (C.opt r2.2.1.fuse.isSome 12 0) r2.2.1), (o_dossierref03_Disk_0 false (C.own 13 0 r2.2.2.L.length 3) r2.2.2), (om_ e_vdisk_file r2.2.1.files), none, none, none, none, none, none, (o_journal_Journal_02 false (C.ref 1 0) (C.own 14 0 (((p0.j.getD default).l).length) 1) (p0.j.getD default)), (o_dossierref04_Journal_02 false (C.ref 2 0) (C.own 15 0 (((p0.x.getD default).L).length) 1) (p0.x.getD default)), (some (AObj.cells false [(ci (r2.2.1.fuse.getD default))])), (or_ e_dossierref03_File r2.2.2.L), (some (AObj.cells false (rowC (e_sl e_u8) ((p0.j.getD default).l)))), (some (AObj.cells false (rowC (e_sl e_u8) ((p0.x.getD default).L))))]⟩) (wG 10 [0, 1, 2, 3, 4, 5, 6, 7, 8, 9, 11, 12, 17, 18, 15, 16] []) (AWops.nil (AW.ret ?_))
   obtain rfl := Option.some.inj h
   exact ⟨_, rfl, (wG 10 [0, 1, 2, 3, 4, 5, 6, 7, 8, 9, 10, 14, 11, 15, 12, 13] [])⟩
 ·refine AW.cond_no rfl c1 (AW.seq (AW.region ?_))
  refine s_move (d := (si (IntKind.i64.wrap (Int.tmod (IntKind.u64.wrap a1.Op) 6)))) rfl (s_binI (v := (.bool ((IntKind.i64.wrap (Int.tmod (IntKind.u64.wrap a1.Op) 6)) == 5))) rfl rfl rfl (s_assign (d := (sb ((IntKind.i64.wrap (Int.tmod (IntKind.u64.wrap a1.Op) 6)) == 5))) rfl (AWops.nil ?_)))
  rcases itH h with ⟨c3, h⟩ | ⟨c3, h⟩
  ·refine AW.cond_yes rfl c3 (AW.seq (AW.region ?_))
   refine s_move (d := (rf 0 0)) rfl (s_fieldRef F.fo_42_1 (by decide) rfl (s_load1 (c' := (C.p false (.sl a1.B.length (a1.B.flatMap e_u8)))) F.ag_22 rfl rfl ?_))
   obtain ⟨r4, er4, h⟩ := bnd h
   refine cc [0, 1, 2, 3, 10, 11, 12, 13, 14, 15] [(some (AObj.cells false [(C.opt r4.2.1.j.isSome 17 0), (C.opt r4.2.1.x.isSome 19 0), (C.ref 1 0), (C.ref 2 0)])), (o_vdisk_Disk_03 false (C.mp 3) (C.opt r4.2.2.1.fuse.isSome 21 0) r4.2.2.1), (o_dossierref03_Disk_0 false (C.own 22 0 r4.2.2.2.L.length 3) r4.2.2.2), (om_ e_vdisk_file r4.2.2.1.files), none, none, none, none, none, none, none, none, none, none, none, none, (some (AObj.cells true (c_dossierlaw04_Do a1))), (o_journal_Journal_02 false (C.ref 1 0) (C.own 18 0 (((r4.2.1.j.getD default).l).length) 1) (r4.2.1.j.getD default)), (some (AObj.cells false (rowC (e_sl e_u8) ((r4.2.1.j.getD default).l)))), (o_dossierref04_Journal_02 false (C.ref 2 0) (C.own 20 0 (((r4.2.1.x.getD default).L).length) 1) (r4.2.1.x.getD default)), (some (AObj.cells false (rowC (e_sl e_u8) ((r4.2.1.x.getD default).L)))), (some (AObj.cells false [(ci (r4.2.2.1.fuse.getD default))])), (or_ e_dossierref03_File r4.2.2.2.L)] (sb r4.1) F.ca_6 rfl rfl (ac (.one (.ref rfl)) (ac (.one .imm) an)) (ac (.cells (ac (.opt rfl) (ac (.opt rfl) (ac (.ref rfl) (ac (.ref rfl) an))))) (ac (.cells (ac (.mp rfl) (ac .sc (ac .sc (ac (.opt rfl) (ac .sc an)))))) (ac (.cells (ac (.own rfl) (ac .sc (ac .sc (ac .sc an))))) (ac .map (ac (.cells (ac (.ref rfl) (ac .imm (ac (.own rfl) (ac .sc an))))) (ac (.cells (lend_row _)) (ac (.cells (ac (.ref rfl) (ac .imm (ac (.own rfl) (ac .sc an))))) (ac (.cells (lend_row _)) (ac (.cells (ac .sc an)) (ac (.cells (lend_row _)) an)))))))))) (dossierlaw04_pair_open_6.meets _ p0 a1.B p1 p2 r4 er4) (s_assign (d := (sb r4.1)) rfl (AWops.nil (AW.ret ?_)))
   obtain rfl := Option.some.inj h
   exact ⟨_, rfl, (wG 10 [0, 1, 2, 3, 4, 5, 6, 7, 8, 9, 17, 18, 19, 20, 21, 22] [])⟩
  ·refine AW.cond_no rfl c3 (AW.seq (AW.region ?_))
   refine s_move (d := (rf 0 0)) rfl (s_nilCheck (d := (rf 0 0)) rfl (.inl ⟨_, _, rfl⟩) (s_fieldRef F.fo_36_1 (by decide) rfl (s_load1 (c' := (C.opt p0.x.isSome 12 0)) F.ag_34 rfl rfl (s_optEql F.u_34 rfl rfl (s_assign (d := (sb (!p0.x.isSome))) rfl (AWops.nil ?_))))))
   rcases itH h with ⟨c5, h⟩ | ⟨c5, h⟩
   ·refine AW.cond_no rfl (by rw [c5] <;> rfl) (AW.seq (AW.region ?_))
    refine s_move (d := (si (IntKind.i64.wrap (Int.tmod (IntKind.u64.wrap a1.Op) 6)))) rfl (s_binI (v := (.bool ((IntKind.i64.wrap (Int.tmod (IntKind.u64.wrap a1.Op) 6)) == 3))) rfl rfl rfl (s_assign (d := (sb ((IntKind.i64.wrap (Int.tmod (IntKind.u64.wrap a1.Op) 6)) == 3))) rfl (AWops.nil ?_)))
    rcases itH h with ⟨c6, h⟩ | ⟨c6, h⟩
    ·refine AW.cond_yes rfl c6 (AW.seq ?_)
     rcases itH h with ⟨c7, h⟩ | ⟨c7, h⟩
     ·refine AW.weak (Weak.unOpt (p := 0) (j := 0) c7 rfl rfl rfl) ?_
      refine AW.weak (Weak.optS (i := 36) c5 rfl) ?_
      refine AW.weak (Weak.unOpt (p := 0) (j := 1) c5 rfl rfl rfl) ?_
      refine AW.weak (st' := ⟨71, (upd 71 (upd 71 (upd 71 topF 0 (rf 0 0)) 3 (rf 10 0)) 4 (sb false)), [(some (AObj.cells false [(C.ref 11 0), (C.ref 12 0), (C.ref 1 0), (C.ref 2 0)])), (o_vdisk_Disk_03 false (C.mp 3) (C.opt p1.fuse.isSome 13 0) p1), (o_dossierref03_Disk_0 false (C.own 14 0 p2.L.length 3) p2), (om_ e_vdisk_file p1.files), none, none, none, none, none, none, (some (AObj.cells true (c_dossierlaw04_Do a1))), (o_journal_Journal_02 false (C.ref 1 0) (C.own 15 0 (((p0.j.getD default).l).length) 1) (p0.j.getD default)), (o_dossierref04_Journal_02 false (C.ref 2 0) (C.own 16 0 (((p0.x.getD default).L).length) 1) (p0.x.getD default)), (some (AObj.cells false [(ci (p1.fuse.getD default))])), (or_ e_dossierref03_File p2.L), (some (AObj.cells false (rowC (e_sl e_u8) ((p0.j.getD default).l)))), (some (AObj.cells false (rowC (e_sl e_u8) ((p0.x.getD default).L))))]⟩) (wG 10 [0, 1, 2, 3, 4, 5, 6, 7, 8, 9, 16, 10, 12, 14, 15, 11, 13] []) ?_
      obtain ⟨r8, er8, h⟩ := bnd h
      obtain ⟨r9, er9, h⟩ := bnd h
      refine AW.draw2 21 [kf 41 (rf 0 0) [0], kf 42 (rf 0 0) [41], kf 43 (rf 0 0) [42], ⟨some 44, (rf 11 0), [43], [0], [], none⟩, kf 45 (rf 10 1) [3], ⟨some 46, (D.one (C.p false (.sl a1.B.length (a1.B.flatMap e_u8)))), [45], [10], [], none⟩, ⟨some 47, (si r8.1), [44, 46], [1, 3, 11, 13, 15], [(1, (o_vdisk_Disk_03 false (C.mp 3) (C.opt r8.2.2.fuse.isSome 18 0) r8.2.2)), (3, (om_ e_vdisk_file r8.2.2.files)), (11, (o_journal_Journal_02 false (C.ref 1 0) (C.own 17 0 r8.2.1.l.length 1) r8.2.1)), (13, none), (15, none), (17, (some (AObj.cells false (rowC (e_sl e_u8) r8.2.1.l)))), (18, (some (AObj.cells false [(ci (r8.2.2.fuse.getD default))])))], some (17, 2)⟩, kf 48 (rf 0 0) [0], kf 49 (rf 0 0) [48], kf 50 (rf 0 1) [49], ⟨some 51, (rf 12 0), [50], [0], [], none⟩, kf 52 (rf 10 1) [3], ⟨some 53, (D.one (C.p false (.sl a1.B.length (a1.B.flatMap e_u8)))), [52], [10], [], none⟩, ⟨some 54, (si r9.1), [51, 53], [2, 12, 14, 16], [(2, (o_dossierref03_Disk_0 false (C.own 20 0 r9.2.2.L.length 3) r9.2.2)), (12, (o_dossierref04_Journal_02 false (C.ref 2 0) (C.own 19 0 r9.2.1.L.length 1) r9.2.1)), (14, none), (16, none), (19, (some (AObj.cells false (rowC (e_sl e_u8) r9.2.1.L)))), (20, (or_ e_dossierref03_File r9.2.2.L))], some (19, 2)⟩, kf 55 (sb (r8.1 == r9.1)) [47, 54], kf 4 (sb (r8.1 == r9.1)) [55]] ⟨?_, ?_⟩
      ·refine (pA (pA (pE F.fo_36_0 (pE F.ag_33 (pE F.fo_42_1 (pE F.ag_22 (pC ?_ (pA (pA (pE F.fo_36_1 (pE F.ag_34 (pE F.fo_42_1 (pE F.ag_22 (pC ?_ (pA (pA AllStep.nil'))))))))))))))))
       ·intro K rest fr hv htk k
        show AWops _ x _ _ K ⟨71, (upd 71 (upd 71 fr 46 (D.one (C.p false (.sl a1.B.length (a1.B.flatMap e_u8))))) 44 (rf 11 0)), [(hv 0), (o_vdisk_Disk_03 false (C.mp 3) (C.opt p1.fuse.isSome 13 0) p1), (hv 2), (om_ e_vdisk_file p1.files), (hv 4), (hv 5), (hv 6), (hv 7), (hv 8), (hv 9), (hv 10), (o_journal_Journal_02 false (C.ref 1 0) (C.own 15 0 (((p0.j.getD default).l).length) 1) (p0.j.getD default)), (hv 12), (some (AObj.cells false [(ci (p1.fuse.getD default))])), (hv 14), (some (AObj.cells false (rowC (e_sl e_u8) ((p0.j.getD default).l)))), (hv 16), (hv 17), (hv 18), (hv 19), (hv 20)]⟩
        refine cc [11, 1, 3, 15, 13] [(hv 0), (o_vdisk_Disk_03 false (C.mp 3) (C.opt r8.2.2.fuse.isSome 22 0) r8.2.2), (hv 2), (om_ e_vdisk_file r8.2.2.files), (hv 4), (hv 5), (hv 6), (hv 7), (hv 8), (hv 9), (hv 10), (o_journal_Journal_02 false (C.ref 1 0) (C.own 21 0 r8.2.1.l.length 1) r8.2.1), (hv 12), none, (hv 14), none, (hv 16), (hv 17), (hv 18), (hv 19), (hv 20), (some (AObj.cells false (rowC (e_sl e_u8) r8.2.1.l))), (some (AObj.cells false [(ci (r8.2.2.fuse.getD default))]))] (si r8.1) F.ca_13 rfl rfl (ac (.one (.ref rfl)) (ac (.one .imm) an)) (ac (.cells (ac (.ref rfl) (ac .imm (ac (.own rfl) (ac .sc an))))) (ac (.cells (ac (.mp rfl) (ac .sc (ac .sc (ac (.opt rfl) (ac .sc an)))))) (ac .map (ac (.cells (lend_row _)) (ac (.cells (ac .sc an)) an))))) (journal_Journal_Compact_13.meets _ (p0.j.getD default) a1.B p1 r8 er8) ?_
        refine AWops.weak (wD 10 (17, 2) 21 [0, 1, 2, 3, 4, 5, 6, 7, 8, 9, 10, 11, 12, 13, 14, 15, 16, 21, 22, 19, 20] [] (htk (17, 2) rfl)) k
       ·intro K rest fr hv htk k
        show AWops _ x _ _ K ⟨71, (upd 71 (upd 71 fr 53 (D.one (C.p false (.sl a1.B.length (a1.B.flatMap e_u8))))) 51 (rf 12 0)), [(hv 0), (hv 1), (o_dossierref03_Disk_0 false (C.own 14 0 p2.L.length 3) p2), (hv 3), (hv 4), (hv 5), (hv 6), (hv 7), (hv 8), (hv 9), (hv 10), (hv 11), (o_dossierref04_Journal_02 false (C.ref 2 0) (C.own 16 0 (((p0.x.getD default).L).length) 1) (p0.x.getD default)), (hv 13), (or_ e_dossierref03_File p2.L), (hv 15), (some (AObj.cells false (rowC (e_sl e_u8) ((p0.x.getD default).L)))), (hv 17), (hv 18), (hv 19), (hv 20)]⟩
        refine cc [12, 2, 16, 14] [(hv 0), (hv 1), (o_dossierref03_Disk_0 false (C.own 22 0 r9.2.2.L.length 3) r9.2.2), (hv 3), (hv 4), (hv 5), (hv 6), (hv 7), (hv 8), (hv 9), (hv 10), (hv 11), (o_dossierref04_Journal_02 false (C.ref 2 0) (C.own 21 0 r9.2.1.L.length 1) r9.2.1), (hv 13), none, (hv 15), none, (hv 17), (hv 18), (hv 19), (hv 20), (some (AObj.cells false (rowC (e_sl e_u8) r9.2.1.L))), (or_ e_dossierref03_File r9.2.2.L)] (si r9.1) F.ca_14 rfl rfl (ac (.one (.ref rfl)) (ac (.one .imm) an)) (ac (.cells (ac (.ref rfl) (ac .imm (ac (.own rfl) (ac .sc an))))) (ac (.cells (ac (.own rfl) (ac .sc (ac .sc (ac .sc an))))) (ac (.cells (lend_row _)) (ac (.cells (lend_row _)) an)))) (dossierref04_Journal_Compact_14.meets _ (p0.x.getD default) a1.B p2 r9 er9) ?_
        refine AWops.weak (wD 10 (19, 2) 21 [0, 1, 2, 3, 4, 5, 6, 7, 8, 9, 10, 11, 12, 13, 14, 15, 16, 17, 18, 21, 22] [] (htk (19, 2) rfl)) k
      ·refine AWops.weak (st' := ⟨71, (upd 71 topF 4 (sb (r8.1 == r9.1))), [(some (AObj.cells false [(C.ref 10 0), (C.ref 11 0), (C.ref 1 0), (C.ref 2 0)])), (o_vdisk_Disk_03 false (C.mp 3) (C.opt r8.2.2.fuse.isSome 12 0) r8.2.2), (o_dossierref03_Disk_0 false (C.own 13 0 r9.2.2.L.length 3) r9.2.2), (om_ e_vdisk_file r8.2.2.files), none, none, none, none, none, none, (o_journal_Journal_02 false (C.ref 1 0) (C.own 14 0 r8.2.1.l.length 1) r8.2.1), (o_dossierref04_Journal_02 false (C.ref 2 0) (C.own 15 0 r9.2.1.L.length 1) r9.2.1), (some (AObj.cells false [(ci (r8.2.2.fuse.getD default))])), (or_ e_dossierref03_File r9.2.2.L), (some (AObj.cells false (rowC (e_sl e_u8) r8.2.1.l))), (some (AObj.cells false (rowC (e_sl e_u8) r9.2.1.L)))]⟩) (wG 10 [0, 1, 2, 3, 4, 5, 6, 7, 8, 9, 11, 12, 18, 20, 17, 19] []) (AWops.nil (AW.ret ?_))
       obtain rfl := Option.some.inj h
       exact ⟨_, rfl, (wG 10 [0, 1, 2, 3, 4, 5, 6, 7, 8, 9, 10, 14, 11, 15, 12, 13] [])⟩
     ·refine AW.weak (Weak.unNo (p := 0) (j := 0) c7 rfl rfl rfl) ?_
      refine AW.weak (st' := ⟨71, (upd 71 (upd 71 (upd 71 topF 0 (rf 0 0)) 3 (rf 10 0)) 4 (sb false)), [(some (AObj.cells false [(C.p true (.v (.pointer none))), (C.opt p0.x.isSome 11 0), (C.ref 1 0), (C.ref 2 0)])), (o_vdisk_Disk_03 false (C.mp 3) (C.opt p1.fuse.isSome 12 0) p1), (o_dossierref03_Disk_0 false (C.own 13 0 p2.L.length 3) p2), (om_ e_vdisk_file p1.files), none, none, none, none, none, none, (some (AObj.cells true (c_dossierlaw04_Do a1))), (o_dossierref04_Journal_02 false (C.ref 2 0) (C.own 14 0 (((p0.x.getD default).L).length) 1) (p0.x.getD default)), (some (AObj.cells false [(ci (p1.fuse.getD default))])), (or_ e_dossierref03_File p2.L), (some (AObj.cells false (rowC (e_sl e_u8) ((p0.x.getD default).L))))]⟩) (wG 10 [0, 1, 2, 3, 4, 5, 6, 7, 8, 9, 16, 12, 14, 15, 13] []) ?_
      cases h
    ·refine AW.cond_no rfl c6 (AW.skip (AW.seq ?_))
     rcases itH h with ⟨c10, h⟩ | ⟨c10, h⟩
     ·refine AW.weak (Weak.unOpt (p := 0) (j := 0) c10 rfl rfl rfl) ?_
      refine AW.weak (Weak.optS (i := 36) c5 rfl) ?_
      refine AW.weak (Weak.unOpt (p := 0) (j := 1) c5 rfl rfl rfl) ?_
      refine AW.weak (st' := ⟨71, (upd 71 (upd 71 (upd 71 topF 0 (rf 0 0)) 3 (rf 10 0)) 4 (sb false)), [(some (AObj.cells false [(C.ref 11 0), (C.ref 12 0), (C.ref 1 0), (C.ref 2 0)])), (o_vdisk_Disk_03 false (C.mp 3) (C.opt p1.fuse.isSome 13 0) p1), (o_dossierref03_Disk_0 false (C.own 14 0 p2.L.length 3) p2), (om_ e_vdisk_file p1.files), none, none, none, none, none, none, (some (AObj.cells true (c_dossierlaw04_Do a1))), (o_journal_Journal_02 false (C.ref 1 0) (C.own 15 0 (((p0.j.getD default).l).length) 1) (p0.j.getD default)), (o_dossierref04_Journal_02 false (C.ref 2 0) (C.own 16 0 (((p0.x.getD default).L).length) 1) (p0.x.getD default)), (some (AObj.cells false [(ci (p1.fuse.getD default))])), (or_ e_dossierref03_File p2.L), (some (AObj.cells false (rowC (e_sl e_u8) ((p0.j.getD default).l)))), (some (AObj.cells false (rowC (e_sl e_u8) ((p0.x.getD default).L))))]⟩) (wG 10 [0, 1, 2, 3, 4, 5, 6, 7, 8, 9, 16, 10, 12, 14, 15, 11, 13] []) ?_
      obtain ⟨r11, er11, h⟩ := bnd h
      obtain ⟨r12, er12, h⟩ := bnd h
      refine AW.draw2 21 [kf 56 (rf 0 0) [0], kf 57 (rf 0 0) [56], kf 58 (rf 0 0) [57], ⟨some 59, (rf 11 0), [58], [0], [], none⟩, kf 60 (rf 10 1) [3], ⟨some 61, (D.one (C.p false (.sl a1.B.length (a1.B.flatMap e_u8)))), [60], [10], [], none⟩, ⟨some 62, (si r11.1), [59, 61], [1, 3, 11, 13, 15], [(1, (o_vdisk_Disk_03 false (C.mp 3) (C.opt r11.2.2.fuse.isSome 18 0) r11.2.2)), (3, (om_ e_vdisk_file r11.2.2.files)), (11, (o_journal_Journal_02 false (C.ref 1 0) (C.own 17 0 r11.2.1.l.length 1) r11.2.1)), (13, none), (15, none), (17, (some (AObj.cells false (rowC (e_sl e_u8) r11.2.1.l)))), (18, (some (AObj.cells false [(ci (r11.2.2.fuse.getD default))])))], some (17, 2)⟩, kf 63 (rf 0 0) [0], kf 64 (rf 0 0) [63], kf 65 (rf 0 1) [64], ⟨some 66, (rf 12 0), [65], [0], [], none⟩, kf 67 (rf 10 1) [3], ⟨some 68, (D.one (C.p false (.sl a1.B.length (a1.B.flatMap e_u8)))), [67], [10], [], none⟩, ⟨some 69, (si r12.1), [66, 68], [2, 12, 14, 16], [(2, (o_dossierref03_Disk_0 false (C.own 20 0 r12.2.2.L.length 3) r12.2.2)), (12, (o_dossierref04_Journal_02 false (C.ref 2 0) (C.own 19 0 r12.2.1.L.length 1) r12.2.1)), (14, none), (16, none), (19, (some (AObj.cells false (rowC (e_sl e_u8) r12.2.1.L)))), (20, (or_ e_dossierref03_File r12.2.2.L))], some (19, 2)⟩, kf 70 (sb (r11.1 == r12.1)) [62, 69], kf 4 (sb (r11.1 == r12.1)) [70]] ⟨?_, ?_⟩
      ·refine (pA (pA (pE F.fo_36_0 (pE F.ag_33 (pE F.fo_42_1 (pE F.ag_22 (pC ?_ (pA (pA (pE F.fo_36_1 (pE F.ag_34 (pE F.fo_42_1 (pE F.ag_22 (pC ?_ (pA (pA AllStep.nil'))))))))))))))))
       ·intro K rest fr hv htk k
        show AWops _ x _ _ K ⟨71, (upd 71 (upd 71 fr 61 (D.one (C.p false (.sl a1.B.length (a1.B.flatMap e_u8))))) 59 (rf 11 0)), [(hv 0), (o_vdisk_Disk_03 false (C.mp 3) (C.opt p1.fuse.isSome 13 0) p1), (hv 2), (om_ e_vdisk_file p1.files), (hv 4), (hv 5), (hv 6), (hv 7), (hv 8), (hv 9), (hv 10), (o_journal_Journal_02 false (C.ref 1 0) (C.own 15 0 (((p0.j.getD default).l).length) 1) (p0.j.getD default)), (hv 12), (some (AObj.cells false [(ci (p1.fuse.getD default))])), (hv 14), (some (AObj.cells false (rowC (e_sl e_u8) ((p0.j.getD default).l)))), (hv 16), (hv 17), (hv 18), (hv 19), (hv 20)]⟩
        refine cc [11, 1, 3, 15, 13] [(hv 0), (o_vdisk_Disk_03 false (C.mp 3) (C.opt r11.2.2.fuse.isSome 22 0) r11.2.2), (hv 2), (om_ e_vdisk_file r11.2.2.files), (hv 4), (hv 5), (hv 6), (hv 7), (hv 8), (hv 9), (hv 10), (o_journal_Journal_02 false (C.ref 1 0) (C.own 21 0 r11.2.1.l.length 1) r11.2.1), (hv 12), none, (hv 14), none, (hv 16), (hv 17), (hv 18), (hv 19), (hv 20), (some (AObj.cells false (rowC (e_sl e_u8) r11.2.1.l))), (some (AObj.cells false [(ci (r11.2.2.fuse.getD default))]))] (si r11.1) F.ca_15 rfl rfl (ac (.one (.ref rfl)) (ac (.one .imm) an)) (ac (.cells (ac (.ref rfl) (ac .imm (ac (.own rfl) (ac .sc an))))) (ac (.cells (ac (.mp rfl) (ac .sc (ac .sc (ac (.opt rfl) (ac .sc an)))))) (ac .map (ac (.cells (lend_row _)) (ac (.cells (ac .sc an)) an))))) (journal_Journal_Append_15.meets _ (p0.j.getD default) a1.B p1 r11 er11) ?_
        refine AWops.weak (wD 10 (17, 2) 21 [0, 1, 2, 3, 4, 5, 6, 7, 8, 9, 10, 11, 12, 13, 14, 15, 16, 21, 22, 19, 20] [] (htk (17, 2) rfl)) k
       ·intro K rest fr hv htk k
        show AWops _ x _ _ K ⟨71, (upd 71 (upd 71 fr 68 (D.one (C.p false (.sl a1.B.length (a1.B.flatMap e_u8))))) 66 (rf 12 0)), [(hv 0), (hv 1), (o_dossierref03_Disk_0 false (C.own 14 0 p2.L.length 3) p2), (hv 3), (hv 4), (hv 5), (hv 6), (hv 7), (hv 8), (hv 9), (hv 10), (hv 11), (o_dossierref04_Journal_02 false (C.ref 2 0) (C.own 16 0 (((p0.x.getD default).L).length) 1) (p0.x.getD default)), (hv 13), (or_ e_dossierref03_File p2.L), (hv 15), (some (AObj.cells false (rowC (e_sl e_u8) ((p0.x.getD default).L)))), (hv 17), (hv 18), (hv 19), (hv 20)]⟩
        refine cc [12, 2, 16, 14] [(hv 0), (hv 1), (o_dossierref03_Disk_0 false (C.own 22 0 r12.2.2.L.length 3) r12.2.2), (hv 3), (hv 4), (hv 5), (hv 6), (hv 7), (hv 8), (hv 9), (hv 10), (hv 11), (o_dossierref04_Journal_02 false (C.ref 2 0) (C.own 21 0 r12.2.1.L.length 1) r12.2.1), (hv 13), none, (hv 15), none, (hv 17), (hv 18), (hv 19), (hv 20), (some (AObj.cells false (rowC (e_sl e_u8) r12.2.1.L))), (or_ e_dossierref03_File r12.2.2.L)] (si r12.1) F.ca_16 rfl rfl (ac (.one (.ref rfl)) (ac (.one .imm) an)) (ac (.cells (ac (.ref rfl) (ac .imm (ac (.own rfl) (ac .sc an))))) (ac (.cells (ac (.own rfl) (ac .sc (ac .sc (ac .sc an))))) (ac (.cells (lend_row _)) (ac (.cells (lend_row _)) an)))) (dossierref04_Journal_Append_16.meets _ (p0.x.getD default) a1.B p2 r12 er12) ?_
        refine AWops.weak (wD 10 (19, 2) 21 [0, 1, 2, 3, 4, 5, 6, 7, 8, 9, 10, 11, 12, 13, 14, 15, 16, 17, 18, 21, 22] [] (htk (19, 2) rfl)) k
      ·refine AWops.weak (st' := ⟨71, (upd 71 topF 4 (sb (r11.1 == r12.1))), [(some (AObj.cells false [(C.ref 10 0), (C.ref 11 0), (C.ref 1 0), (C.ref 2 0)])), (o_vdisk_Disk_03 false (C.mp 3) (C.opt r11.2.2.fuse.isSome 12 0) r11.2.2), (o_dossierref03_Disk_0 false (C.own 13 0 r12.2.2.L.length 3) r12.2.2), (om_ e_vdisk_file r11.2.2.files), none, none, none, none, none, none, (o_journal_Journal_02 false (C.ref 1 0) (C.own 14 0 r11.2.1.l.length 1) r11.2.1), (o_dossierref04_Journal_02 false (C.ref 2 0) (C.own 15 0 r12.2.1.L.length 1) r12.2.1), (some (AObj.cells false [(ci (r11.2.2.fuse.getD default))])), (or_ e_dossierref03_File r12.2.2.L), (some (AObj.cells false (rowC (e_sl e_u8) r11.2.1.l))), (some (AObj.cells false (rowC (e_sl e_u8) r12.2.1.L)))]⟩) (wG 10 [0, 1, 2, 3, 4, 5, 6, 7, 8, 9, 11, 12, 18, 20, 17, 19] []) (AWops.nil (AW.ret ?_))
       obtain rfl := Option.some.inj h
       exact ⟨_, rfl, (wG 10 [0, 1, 2, 3, 4, 5, 6, 7, 8, 9, 10, 14, 11, 15, 12, 13] [])⟩
     ·refine AW.weak (Weak.unNo (p := 0) (j := 0) c10 rfl rfl rfl) ?_
      refine AW.weak (st' := ⟨71, (upd 71 (upd 71 (upd 71 topF 0 (rf 0 0)) 3 (rf 10 0)) 4 (sb false)), [(some (AObj.cells false [(C.p true (.v (.pointer none))), (C.opt p0.x.isSome 11 0), (C.ref 1 0), (C.ref 2 0)])), (o_vdisk_Disk_03 false (C.mp 3) (C.opt p1.fuse.isSome 12 0) p1), (o_dossierref03_Disk_0 false (C.own 13 0 p2.L.length 3) p2), (om_ e_vdisk_file p1.files), none, none, none, none, none, none, (some (AObj.cells true (c_dossierlaw04_Do a1))), (o_dossierref04_Journal_02 false (C.ref 2 0) (C.own 14 0 (((p0.x.getD default).L).length) 1) (p0.x.getD default)), (some (AObj.cells false [(ci (p1.fuse.getD default))])), (or_ e_dossierref03_File p2.L), (some (AObj.cells false (rowC (e_sl e_u8) ((p0.x.getD default).L))))]⟩) (wG 10 [0, 1, 2, 3, 4, 5, 6, 7, 8, 9, 16, 12, 14, 15, 13] []) ?_
      cases h
   ·refine AW.cond_yes rfl (by rw [c5] <;> rfl) (AW.seq (AW.region ?_))
    refine s_assign (d := (sb true)) rfl (AWops.nil (AW.ret ?_))
    obtain rfl := Option.some.inj h
    exact ⟨_, rfl, (wG 10 [0, 1, 2, 3, 4, 5, 6, 7, 8, 9, 10, 11, 12, 13, 14, 15] [])⟩
mutual
def dossierref03_Disk_Names.l0 : Nat → (List ByteArray) → Int → dossierref03_Disk → Option (List ByteArray)
 | 0, _, _, _ => none
 | k + 1, x1, x2, p0 => if (decide (x2 < (p0.L.length : Int))) = true then ((rd p0.L x2).bind fun v4 => if (decide (x1.length + ([v4.Name] : List ByteArray).length ≤ 8796093022208)) = true then (dossierref03_Disk_Names.l0 k (x1 ++ ([v4.Name] : List ByteArray)) (IntKind.i64.wrap (x2 + 1)) p0) else none) else (some x1)
end
def dossierref03_Disk_Names.f (k : Nat) (p0 : dossierref03_Disk) : Option (List ByteArray) := dossierref03_Disk_Names.l0 k ([] : List ByteArray) 0 p0
theorem dossierref03_Disk_Names.meets (k : Nat) (p0 : dossierref03_Disk) (r : (List ByteArray)) (h : dossierref03_Disk_Names.f k p0 = some r) : Meets Try.prog 53 [(rf 0 0)] [(o_dossierref03_Disk_0 false (C.own 1 0 p0.L.length 3) p0), (or_ e_dossierref03_File p0.L)] (D.one (C.own 2 0 r.length 1)) [(o_dossierref03_Disk_0 false (C.own 1 0 p0.L.length 3) p0), (or_ e_dossierref03_File p0.L), (ow_ e_str r)] := by
 unfold dossierref03_Disk_Names.f at h
 refine Meets.of_body (n := 22) Try.func53 rfl rfl (nl rfl) fun x hx => ?_
 replace hx : x.k = 2 := hx
 show AW _ x _ _ ⟨22, fr0 [(rf 0 0)], [(o_dossierref03_Disk_0 false (C.own 1 0 p0.L.length 3) p0), (or_ e_dossierref03_File p0.L)]⟩
 refine AW.seq (AW.region ?_)
 refine s_assign (d := (sc (.slice none 0 0))) rfl (AWops.nil (AW.seq (AW.region ?_)))
 refine s_assign (d := (sc (.slice none 0 0))) rfl (AWops.nil (AW.seq (AW.seq (AW.region ?_))))
 refine s_move (d := (rf 0 0)) rfl (s_nilCheck (d := (rf 0 0)) rfl (.inl ⟨_, _, rfl⟩) (s_fieldRef F.fo_52_0 (by decide) rfl (s_load1 (c' := (C.own 1 0 p0.L.length 3)) F.ag_50 rfl rfl (s_len (n := p0.L.length) F.u_50 rfl (.inr ⟨(fun _ _ h => by cases h), ⟨_, rfl⟩⟩) (s_move (d := (si 0)) rfl (AWops.nil (AW.block ?_)))))))
 refine AW.loopw (st0 := ⟨22, (upd 22 (upd 22 (upd 22 (upd 22 topF 3 (D.one (C.own 2 0 ([] : List ByteArray).length 1))) 9 (D.one (C.own 1 0 p0.L.length 3))) 10 (si (p0.L.length : Int))) 11 (si 0)), [(o_dossierref03_Disk_0 false (C.own 1 0 p0.L.length 3) p0), (or_ e_dossierref03_File p0.L), (some (AObj.cells true (rowC e_str ([] : List ByteArray))))]⟩) (fun kv st => kv ≤ k ∧ ∃ (x1 : List ByteArray) (x2 : Int), dossierref03_Disk_Names.l0 kv x1 x2 p0 = some r ∧ st = ⟨22, (upd 22 (upd 22 (upd 22 (upd 22 topF 3 (D.one (C.own 2 0 x1.length 1))) 9 (D.one (C.own 1 0 p0.L.length 3))) 10 (si (p0.L.length : Int))) 11 (si x2)), [(o_dossierref03_Disk_0 false (C.own 1 0 p0.L.length 3) p0), (or_ e_dossierref03_File p0.L), (ow_ e_str x1)]⟩) (k := k) (Weak.trans (Weak.nil (sz := 1) (i := 3) rfl) (wG 2 [0, 1, 2] [])) ⟨Nat.le_refl _, ([] : List ByteArray), 0, h, rfl⟩ ?_
 rintro ql0 st ⟨hkl0, x1, x2, h, rfl⟩
 cases ql0 with
 | zero => exact absurd h (by simp [dossierref03_Disk_Names.l0])
 | succ ql0 =>
  replace h := (dossierref03_Disk_Names.l0.eq_2 _ _ _ _).symm.trans h
  refine AW.seq (AW.region ?_)
  refine s_binI (v := (.bool (decide (x2 < (p0.L.length : Int))))) rfl rfl rfl (AWops.nil (AW.seq ?_))
  rcases itH h with ⟨c3, h⟩ | ⟨c3, h⟩
  ·refine AW.cond_yes rfl c3 (AW.skip (AW.seq (AW.block (AW.seq (AW.region ?_)))))
   obtain ⟨v4, ev4, h⟩ := bnd h
   obtain ⟨pv4, qv4, gv4⟩ := rd_some ev4
   refine s_indexOwn (d := (D.one (C.er 1 (0 + x2.toNat * 3)))) F.u_50 F.sz_90 rfl rfl pv4 qv4 rfl ?_
   obtain ⟨R5, hR5⟩ := row_at (f := e_dossierref03_File) (sz := 3) (o := 0) e_dossierref03_File_len gv4 (e_dossierref03_File_eq v4) (by decide)
   refine s_loadN (ds := (c_dossierref03_File v4)) F.ag_90 F.sz_90 (congrArg some hR5) rfl rfl (s_alloc (cs := [(ct (⟨#[]⟩ : ByteArray)), (C.p true (.v (.slice none 0 0))), (ci 0)]) F.z_90 rfl rfl (s_store (cs' := (c_dossierref03_File v4)) rfl rfl rfl (List.cons_ne_nil _ _) rfl F.sz_90 (nl rfl) rfl (AWops.nil (AW.region (s_move (d := (D.one (C.own 2 0 x1.length 1))) rfl (s_fieldRef F.fo_90_0 (by decide) rfl (s_load1 (c' := (ct v4.Name)) F.ag_9 rfl rfl ?_)))))))
   refine s_buildSlice (n := 1) (ps := [(0, (st_ v4.Name))]) (cs := rowC e_str ([v4.Name] : List ByteArray)) F.u_86 F.sz_9 F.z_9 rfl rfl (by decide) (by decide) rfl rfl ?_
   obtain ⟨c6, h⟩ := gdH h
   have dc6 := of_decide_eq_true c6
   refine t_append (xs := x1) (ys := ([v4.Name] : List ByteArray)) (zs := x1 ++ ([v4.Name] : List ByteArray)) (H' := [(o_dossierref03_Disk_0 false (C.own 1 0 p0.L.length 3) p0), (or_ e_dossierref03_File p0.L), none, (some (AObj.cells true (c_dossierref03_File v4))), (some (AObj.cells true (rowC e_str ([v4.Name] : List ByteArray)))), (some (AObj.cells true (rowC e_str (x1 ++ ([v4.Name] : List ByteArray)))))]) F.u_86 F.in_9 rfl e_str_len (.own rfl rfl) (.own rfl rfl) F.u_86 (by omega) (by omega) rfl rfl (s_assign (d := (D.one (C.own 5 0 ((x1 ++ ([v4.Name] : List ByteArray)).length) 1))) rfl (AWops.nil (AW.region (s_binI (v := (.int .i64 (IntKind.i64.wrap (x2 + 1)))) rfl rfl rfl (s_move (d := (si (IntKind.i64.wrap (x2 + 1)))) rfl (AWops.nil ?_))))))
   exact ⟨_, ⟨22, (upd 22 (upd 22 (upd 22 (upd 22 topF 3 (D.one (C.own 2 0 (x1 ++ ([v4.Name] : List ByteArray)).length 1))) 9 (D.one (C.own 1 0 p0.L.length 3))) 10 (si (p0.L.length : Int))) 11 (si (IntKind.i64.wrap (x2 + 1)))), [(o_dossierref03_Disk_0 false (C.own 1 0 p0.L.length 3) p0), (or_ e_dossierref03_File p0.L), (some (AObj.cells true (rowC e_str (x1 ++ ([v4.Name] : List ByteArray)))))]⟩, by omega, (wG 2 [0, 1, 5] []), by omega, x1 ++ ([v4.Name] : List ByteArray), IntKind.i64.wrap (x2 + 1), h, rfl⟩
  ·refine AW.cond_no rfl c3 (AW.exit (AW.seq (AW.region ?_)))
   refine s_move (d := (D.one (C.own 2 0 x1.length 1))) rfl (s_assign (d := (D.one (C.own 2 0 x1.length 1))) rfl (AWops.nil (AW.ret ?_)))
   obtain rfl := Option.some.inj h
   exact ⟨_, rfl, (wG 2 [0, 1, 2] [])⟩
mutual
def slices_Equal_string_string.l0 : Nat → Int → (List ByteArray) → (List ByteArray) → Option Bool
 | 0, _, _, _ => none
 | k + 1, x2, a0, a1 => if (decide (x2 < (a0.length : Int))) = true then ((rd a0 x2).bind fun v4 => (rd a1 x2).bind fun v5 => if (v4.toList == v5.toList) = true then (slices_Equal_string_string.l0 k (IntKind.i64.wrap (x2 + 1)) a0 a1) else (some false)) else (some true)
end
def slices_Equal_string_string.f (k : Nat) (a0 : List ByteArray) (a1 : List ByteArray) : Option Bool := if ((a0.length : Int) != (a1.length : Int)) = true then (some false) else (slices_Equal_string_string.l0 k 0 a0 a1)
theorem slices_Equal_string_string.meets (k : Nat) (a0 : List ByteArray) (a1 : List ByteArray) (r : Bool) (h : slices_Equal_string_string.f k a0 a1 = some r) : Meets Try.prog 51 [(D.one (C.p false (.sl a0.length (a0.flatMap e_str)))), (D.one (C.p false (.sl a1.length (a1.flatMap e_str))))] [] (sb r) [] := by
 unfold slices_Equal_string_string.f at h
 refine Meets.of_body (n := 26) Try.func51 rfl rfl (nl rfl) fun x hx => ?_
 replace hx : x.k = 0 := hx
 show AW _ x _ _ ⟨26, fr0 [(D.one (C.p false (.sl a0.length (a0.flatMap e_str)))), (D.one (C.p false (.sl a1.length (a1.flatMap e_str))))], []⟩
 refine AW.seq (AW.region ?_)
 refine s_assign (d := (sb false)) rfl (AWops.nil (AW.seq (AW.seq (AW.region ?_))))
 refine s_move (d := (D.one (C.p false (.sl a0.length (a0.flatMap e_str))))) rfl (s_len (n := a0.length) F.u_86 rfl (.inr ⟨(fun _ _ h => by cases h), ⟨_, rfl⟩⟩) (s_move (d := (D.one (C.p false (.sl a1.length (a1.flatMap e_str))))) rfl (s_len (n := a1.length) F.u_86 rfl (.inr ⟨(fun _ _ h => by cases h), ⟨_, rfl⟩⟩) (s_binI (v := (.bool ((a0.length : Int) != (a1.length : Int)))) rfl rfl rfl (AWops.nil ?_)))))
 rcases itH h with ⟨c1, h⟩ | ⟨c1, h⟩
 ·refine AW.cond_yes rfl c1 (AW.seq (AW.region ?_))
  refine s_assign (d := (sb false)) rfl (AWops.nil (AW.ret ?_))
  obtain rfl := Option.some.inj h
  exact ⟨_, rfl, (wG 0 [] [])⟩
 ·refine AW.cond_no rfl c1 (AW.skip (AW.seq (AW.seq (AW.region ?_))))
  refine s_move (d := (D.one (C.p false (.sl a0.length (a0.flatMap e_str))))) rfl (s_len (n := a0.length) F.u_86 rfl (.inr ⟨(fun _ _ h => by cases h), ⟨_, rfl⟩⟩) (s_move (d := (si 0)) rfl (AWops.nil (AW.block ?_))))
  refine AW.loopw (st0 := ⟨26, (upd 26 (upd 26 (upd 26 (upd 26 topF 0 (D.one (C.p false (.sl a0.length (a0.flatMap e_str))))) 1 (D.one (C.p false (.sl a1.length (a1.flatMap e_str))))) 12 (si (a0.length : Int))) 13 (si 0)), []⟩) (fun kv st => kv ≤ k ∧ ∃ (x2 : Int), slices_Equal_string_string.l0 kv x2 a0 a1 = some r ∧ st = ⟨26, (upd 26 (upd 26 (upd 26 (upd 26 topF 0 (D.one (C.p false (.sl a0.length (a0.flatMap e_str))))) 1 (D.one (C.p false (.sl a1.length (a1.flatMap e_str))))) 12 (si (a0.length : Int))) 13 (si x2)), []⟩) (k := k) (wG 0 [] []) ⟨Nat.le_refl _, 0, h, rfl⟩ ?_
  rintro ql0 st ⟨hkl0, x2, h, rfl⟩
  cases ql0 with
  | zero => exact absurd h (by simp [slices_Equal_string_string.l0])
  | succ ql0 =>
   replace h := (slices_Equal_string_string.l0.eq_2 _ _ _ _).symm.trans h
   refine AW.seq (AW.region ?_)
   refine s_binI (v := (.bool (decide (x2 < (a0.length : Int))))) rfl rfl rfl (AWops.nil (AW.seq ?_))
   rcases itH h with ⟨c3, h⟩ | ⟨c3, h⟩
   ·refine AW.cond_yes rfl c3 (AW.skip (AW.seq (AW.block (AW.seq (AW.region ?_)))))
    refine s_move (d := (si x2)) rfl (s_assign (d := (si x2)) rfl (AWops.nil (AW.seq ?_)))
    refine AW.weak (st' := ⟨26, (upd 26 (upd 26 (upd 26 (upd 26 (upd 26 topF 0 (D.one (C.p false (.sl a0.length (a0.flatMap e_str))))) 1 (D.one (C.p false (.sl a1.length (a1.flatMap e_str))))) 5 (si x2)) 12 (si (a0.length : Int))) 13 (si x2)), []⟩) (wG 0 [] []) ?_
    obtain ⟨v4, ev4, h⟩ := bnd h
    obtain ⟨pv4, qv4, gv4⟩ := rd_some ev4
    obtain ⟨v5, ev5, h⟩ := bnd h
    obtain ⟨pv5, qv5, gv5⟩ := rd_some ev5
    refine AW.draw2 0 [kf 16 (D.one (C.p false (.sl a0.length (a0.flatMap e_str)))) [0], kf 17 (si x2) [5], kf 18 (D.one (C.peek false [P.v (.string v4)])) [16, 17], kf 19 (st_ v4) [18], kf 20 (D.one (C.p false (.sl a1.length (a1.flatMap e_str)))) [1], kf 21 (si x2) [5], kf 22 (D.one (C.peek false [P.v (.string v5)])) [20, 21], kf 23 (st_ v5) [22], kf 24 (sb (!(v4.toList == v5.toList))) [19, 23]] ⟨?_, ?_⟩
    ·refine (pA (pA (pC ?_ (pE F.ag_9 (pA (pA (pC ?_ (pE F.ag_9 (pC ?_ AllStep.nil')))))))))
     ·intro K rest fr hv htk k
      refine s_indexImm (ps := [P.v (.string v4)]) F.u_86 F.sz_9 rfl rfl pv4 qv4 (flat_at e_str_len gv4 (e_str_eq v4)) k
     ·intro K rest fr hv htk k
      refine s_indexImm (ps := [P.v (.string v5)]) F.u_86 F.sz_9 rfl rfl pv5 qv5 (flat_at e_str_len gv5 (e_str_eq v5)) k
     ·intro K rest fr hv htk k
      refine s_binS (v := (.bool (!(v4.toList == v5.toList)))) rfl rfl rfl k
    ·refine AWops.weak (st' := ⟨26, (upd 26 (upd 26 (upd 26 (upd 26 (upd 26 topF 0 (D.one (C.p false (.sl a0.length (a0.flatMap e_str))))) 1 (D.one (C.p false (.sl a1.length (a1.flatMap e_str))))) 12 (si (a0.length : Int))) 13 (si x2)) 24 (sb (!(v4.toList == v5.toList)))), []⟩) (wG 0 [] []) (AWops.nil ?_)
     rcases itH h with ⟨c6, h⟩ | ⟨c6, h⟩
     ·refine AW.cond_no rfl (by rw [c6] <;> rfl) (AW.skip (AW.region ?_))
      refine s_binI (v := (.int .i64 (IntKind.i64.wrap (x2 + 1)))) rfl rfl rfl (s_move (d := (si (IntKind.i64.wrap (x2 + 1)))) rfl (AWops.nil ?_))
      exact ⟨_, ⟨26, (upd 26 (upd 26 (upd 26 (upd 26 topF 0 (D.one (C.p false (.sl a0.length (a0.flatMap e_str))))) 1 (D.one (C.p false (.sl a1.length (a1.flatMap e_str))))) 12 (si (a0.length : Int))) 13 (si (IntKind.i64.wrap (x2 + 1)))), []⟩, by omega, (wG 0 [] []), by omega, IntKind.i64.wrap (x2 + 1), h, rfl⟩
     ·refine AW.cond_yes rfl (by rw [c6] <;> rfl) (AW.seq (AW.region ?_))
      refine s_assign (d := (sb false)) rfl (AWops.nil (AW.ret ?_))
      obtain rfl := Option.some.inj h
      exact ⟨_, rfl, (wG 0 [] [])⟩
   ·refine AW.cond_no rfl c3 (AW.exit (AW.seq (AW.region ?_)))
    refine s_assign (d := (sb true)) rfl (AWops.nil (AW.ret ?_))
    obtain rfl := Option.some.inj h
    exact ⟨_, rfl, (wG 0 [] [])⟩
def vdisk_Disk_Used.f (k : Nat) (p0 : vdisk_Disk) : Option Int := (vdisk_Disk_none.f k p0).bind fun r1 => some p0.used
theorem vdisk_Disk_Used.meets (k : Nat) (p0 : vdisk_Disk) (r : Int) (h : vdisk_Disk_Used.f k p0 = some r) : Meets Try.prog 54 [(rf 0 0)] [(o_vdisk_Disk_03 false (C.mp 1) (C.opt p0.fuse.isSome 2 0) p0), (om_ e_vdisk_file p0.files), (some (AObj.cells false [(ci (p0.fuse.getD default))]))] (si r) [(o_vdisk_Disk_03 false (C.mp 1) (C.opt p0.fuse.isSome 3 0) p0), (om_ e_vdisk_file p0.files), none, (some (AObj.cells false [(ci (p0.fuse.getD default))]))] := by
 unfold vdisk_Disk_Used.f at h
 refine Meets.of_body (n := 9) Try.func54 rfl rfl (nl rfl) fun x hx => ?_
 replace hx : x.k = 3 := hx
 show AW _ x _ _ ⟨9, fr0 [(rf 0 0)], [(o_vdisk_Disk_03 false (C.mp 1) (C.opt p0.fuse.isSome 2 0) p0), (om_ e_vdisk_file p0.files), (some (AObj.cells false [(ci (p0.fuse.getD default))]))]⟩
 refine AW.weak (st' := ⟨9, (upd 9 topF 0 (rf 0 0)), [(o_vdisk_Disk_03 false (C.mp 1) (C.opt p0.fuse.isSome 3 0) p0), (om_ e_vdisk_file p0.files), none, (some (AObj.cells false [(ci (p0.fuse.getD default))]))]⟩) (Weak.genL (kk := 3) [0, 1, 2, 2] [] hx rfl (by decide) rfl rfl rfl rfl (le_upd (le_top _) (o1 (.ref rfl))) (ac (.cells id (ac (.mp rfl) (ac .sc (ac .sc (ac (.opt rfl) (ac .sc an)))))) (ac .map (ac (.none _) (ac (.cells id (ac .sc an)) an))))) (AW.seq (AW.region ?_))
 refine s_assign (d := (si 0)) rfl (AWops.nil (AW.seq (AW.seq (AW.region ?_))))
 refine s_move (d := (rf 0 0)) rfl ?_
 obtain ⟨r1, er1, h⟩ := bnd h
 have kr1 := vdisk_Disk_none.const er1
 subst kr1
 refine cc [0, 1, 3] [(o_vdisk_Disk_03 false (C.mp 1) (C.opt p0.fuse.isSome 4 0) p0), (om_ e_vdisk_file p0.files), none, none, (some (AObj.cells false [(ci (p0.fuse.getD default))]))] (sb false) F.ca_61 rfl rfl (ac (.one (.ref rfl)) an) (ac (.cells (ac (.mp rfl) (ac .sc (ac .sc (ac (.opt rfl) (ac .sc an)))))) (ac .map (ac (.cells (ac .sc an)) an))) (vdisk_Disk_none.meets _ p0 false er1) (AWops.nil ?_)
 refine AW.cond_no rfl rfl (AW.skip (AW.seq (AW.region ?_)))
 refine s_move (d := (rf 0 0)) rfl (s_nilCheck (d := (rf 0 0)) rfl (.inl ⟨_, _, rfl⟩) (s_fieldRef F.fo_49_2 (by decide) rfl (s_load1 (c' := (ci p0.used)) F.ag_3 rfl rfl (s_assign (d := (si p0.used)) rfl (AWops.nil (AW.ret ?_))))))
 obtain rfl := Option.some.inj h
 exact ⟨_, rfl, (wG 3 [0, 1, 2, 4] [])⟩
def vdisk_Disk_Dead.f (k : Nat) (p0 : vdisk_Disk) : Option Bool := (vdisk_Disk_none.f k p0).bind fun r1 => some p0.dead
theorem vdisk_Disk_Dead.meets (k : Nat) (p0 : vdisk_Disk) (r : Bool) (h : vdisk_Disk_Dead.f k p0 = some r) : Meets Try.prog 56 [(rf 0 0)] [(o_vdisk_Disk_03 false (C.mp 1) (C.opt p0.fuse.isSome 2 0) p0), (om_ e_vdisk_file p0.files), (some (AObj.cells false [(ci (p0.fuse.getD default))]))] (sb r) [(o_vdisk_Disk_03 false (C.mp 1) (C.opt p0.fuse.isSome 3 0) p0), (om_ e_vdisk_file p0.files), none, (some (AObj.cells false [(ci (p0.fuse.getD default))]))] := by
 unfold vdisk_Disk_Dead.f at h
 refine Meets.of_body (n := 11) Try.func56 rfl rfl (nl rfl) fun x hx => ?_
 replace hx : x.k = 3 := hx
 show AW _ x _ _ ⟨11, fr0 [(rf 0 0)], [(o_vdisk_Disk_03 false (C.mp 1) (C.opt p0.fuse.isSome 2 0) p0), (om_ e_vdisk_file p0.files), (some (AObj.cells false [(ci (p0.fuse.getD default))]))]⟩
 refine AW.weak (st' := ⟨11, (upd 11 topF 0 (rf 0 0)), [(o_vdisk_Disk_03 false (C.mp 1) (C.opt p0.fuse.isSome 3 0) p0), (om_ e_vdisk_file p0.files), none, (some (AObj.cells false [(ci (p0.fuse.getD default))]))]⟩) (Weak.genL (kk := 3) [0, 1, 2, 2] [] hx rfl (by decide) rfl rfl rfl rfl (le_upd (le_top _) (o1 (.ref rfl))) (ac (.cells id (ac (.mp rfl) (ac .sc (ac .sc (ac (.opt rfl) (ac .sc an)))))) (ac .map (ac (.none _) (ac (.cells id (ac .sc an)) an))))) (AW.seq (AW.region ?_))
 refine s_assign (d := (sb false)) rfl (AWops.nil (AW.seq (AW.region ?_)))
 refine s_move (d := (rf 0 0)) rfl ?_
 obtain ⟨r1, er1, h⟩ := bnd h
 have kr1 := vdisk_Disk_none.const er1
 subst kr1
 refine cc [0, 1, 3] [(o_vdisk_Disk_03 false (C.mp 1) (C.opt p0.fuse.isSome 4 0) p0), (om_ e_vdisk_file p0.files), none, none, (some (AObj.cells false [(ci (p0.fuse.getD default))]))] (sb false) F.ca_61 rfl rfl (ac (.one (.ref rfl)) an) (ac (.cells (ac (.mp rfl) (ac .sc (ac .sc (ac (.opt rfl) (ac .sc an)))))) (ac .map (ac (.cells (ac .sc an)) an))) (vdisk_Disk_none.meets _ p0 false er1) (s_move (d := (sb false)) rfl ?_)
 refine AWops.guard_yes rfl (nl rfl) rfl rfl ?_
 refine s_move (d := (rf 0 0)) rfl ?_
 refine AWops.guard_yes rfl (nl rfl) rfl rfl ?_
 refine s_nilCheck (d := (rf 0 0)) rfl (.inl ⟨_, _, rfl⟩) ?_
 refine AWops.guard_yes rfl (nl rfl) rfl rfl ?_
 refine s_fieldRef F.fo_49_4 (by decide) rfl ?_
 refine AWops.guard_yes rfl (nl rfl) rfl rfl ?_
 refine s_load1 (c' := (cb p0.dead)) F.ag_4 rfl rfl (s_pick_no (d := (sb p0.dead)) rfl rfl rfl (s_assign (d := (sb p0.dead)) rfl (AWops.nil (AW.ret ?_))))
 obtain rfl := Option.some.inj h
 exact ⟨_, rfl, (wG 3 [0, 1, 2, 4] [])⟩
def bytes_Equal.f (k : Nat) (a0 : List Int) (a1 : List Int) : Option Bool := some ((ofNums a0).toList == (ofNums a1).toList)
theorem bytes_Equal.meets (k : Nat) (a0 : List Int) (a1 : List Int) (r : Bool) (h : bytes_Equal.f k a0 a1 = some r) : Meets Try.prog 18 [(D.one (C.p false (.sl a0.length (a0.flatMap e_u8)))), (D.one (C.p false (.sl a1.length (a1.flatMap e_u8))))] [] (sb r) [] := by
 unfold bytes_Equal.f at h
 refine Meets.of_body (n := 10) Try.func18 rfl rfl (nl rfl) fun x hx => ?_
 replace hx : x.k = 0 := hx
 show AW _ x _ _ ⟨10, fr0 [(D.one (C.p false (.sl a0.length (a0.flatMap e_u8)))), (D.one (C.p false (.sl a1.length (a1.flatMap e_u8))))], []⟩
 refine AW.seq (AW.region ?_)
 refine s_assign (d := (sb false)) rfl (AWops.nil (AW.seq (AW.region ?_)))
 refine s_move (d := (D.one (C.p false (.sl a0.length (a0.flatMap e_u8))))) rfl (t_toStr (xs := a0) F.u_22 F.u_5 F.u_9 .imm (s_move (d := (D.one (C.p false (.sl a1.length (a1.flatMap e_u8))))) rfl (t_toStr (xs := a1) F.u_22 F.u_5 F.u_9 .imm (s_binS (v := (.bool ((ofNums a0).toList == (ofNums a1).toList))) rfl rfl rfl (s_assign (d := (sb ((ofNums a0).toList == (ofNums a1).toList))) rfl (AWops.nil (AW.ret ?_)))))))
 obtain rfl := Option.some.inj h
 exact ⟨_, rfl, (wG 0 [] [])⟩
end Go.Abs.GenZ
