import Derived.Test.YtdpakmmkponfmaaGenZa
set_option linter.unusedVariables false
set_option linter.unusedSimpArgs false
set_option maxRecDepth 100000
set_option maxHeartbeats 4000000
namespace Go.Abs.GenZ
open Go.Abs Go.Proofs
mutual
def journal_Journal_scan.j1 : Nat → (Option Int) → Int → Int → Bool → (List (ByteArray × vdisk_file)) → journal_Journal → (List (List Int)) → Option ((Option Unit) × Int × journal_Journal × vdisk_Disk)
 | 0, _, _, _, _, _, _, _ => none
 | k + 1, x11, x12, x13, x14, x15, p0, x1 => (rd x1 0).bind fun v16 => if (decide (1 ≤ x1.length)) = true then (some (some (), 0, (⟨(), v16, x1.drop 1, p0.stopped⟩ : journal_Journal), (⟨x15, x12, x13, x11, x14⟩ : vdisk_Disk))) else none
def journal_Journal_scan.l0 : Nat → (List (List Int)) → Int → journal_Journal → (List Int) → vdisk_Disk → Option ((Option Unit) × Int × journal_Journal × vdisk_Disk)
 | 0, _, _, _, _, _ => none
 | k + 1, x1, x2, p0, a1, p1 => if (decide (0 ≤ x2 ∧ x2 ≤ (a1.length : Int) ∧ (a1.length : Int) ≤ (a1.length : Int))) = true then ((journal_next.f k (sub a1 x2 (a1.length : Int))).bind fun r4 => if r4.2 = true then (if (decide (x1.length + ([r4.1] : List (List Int)).length ≤ 5864062014805)) = true then (journal_Journal_scan.l0 k (x1 ++ ([r4.1] : List (List Int))) (IntKind.i64.wrap (x2 + (IntKind.i64.wrap (8 + (r4.1.length : Int))))) p0 a1 p1) else none) else (if ((x1.length : Int) == 0) = true then (some ((none : Option Unit), 72, p0, p1)) else (if (decide (x2 < (a1.length : Int))) = true then ((vdisk_Disk_Truncate.f k p1 (⟨#[106, 111, 117, 114, 110, 97, 108]⟩ : ByteArray) x2).bind fun r9 => if (r9.1 != 0) = true then (some ((none : Option Unit), r9.1, p0, r9.2)) else (journal_Journal_scan.j1 k r9.2.fuse r9.2.room r9.2.used r9.2.dead r9.2.files p0 x1)) else (journal_Journal_scan.j1 k p1.fuse p1.room p1.used p1.dead p1.files p0 x1)))) else none
end
def journal_Journal_scan.f (k : Nat) (p0 : journal_Journal) (a1 : List Int) (p1 : vdisk_Disk) : Option ((Option Unit) × Int × journal_Journal × vdisk_Disk) := journal_Journal_scan.l0 k ([] : List (List Int)) 0 p0 a1 p1
theorem journal_Journal_scan.meets (k : Nat) (p0 : journal_Journal) (a1 : List Int) (p1 : vdisk_Disk) (r : (Option Unit) × Int × journal_Journal × vdisk_Disk) (h : journal_Journal_scan.f k p0 a1 p1 = some r) : Meets Try.prog 25 [(rf 0 0), (D.one (C.p false (.sl a1.length (a1.flatMap e_u8))))] [(o_journal_Journal_02 false (C.ref 1 0) (C.own 3 0 p0.l.length 1) p0), (o_vdisk_Disk_03 false (C.mp 2) (C.opt p1.fuse.isSome 4 0) p1), (om_ e_vdisk_file p1.files), (some (AObj.cells false (rowC (e_sl e_u8) p0.l))), (some (AObj.cells false [(ci (p1.fuse.getD default))]))] (optE r.1 (D.tup [(sc (.pointer none)), (si r.2.1)]) (fun z1 : Unit => (D.tup [(rf 0 0), (si r.2.1)]))) (optE r.1 [(o_journal_Journal_02 false (C.ref 1 0) (C.own 5 0 r.2.2.1.l.length 1) r.2.2.1), (o_vdisk_Disk_03 false (C.mp 2) (C.opt r.2.2.2.fuse.isSome 6 0) r.2.2.2), (om_ e_vdisk_file r.2.2.2.files), none, none, (some (AObj.cells false (rowC (e_sl e_u8) r.2.2.1.l))), (some (AObj.cells false [(ci (r.2.2.2.fuse.getD default))]))] (fun z1 : Unit => [(o_journal_Journal_02 false (C.ref 1 0) (C.own 5 0 r.2.2.1.l.length 1) r.2.2.1), (o_vdisk_Disk_03 false (C.mp 2) (C.opt r.2.2.2.fuse.isSome 6 0) r.2.2.2), (om_ e_vdisk_file r.2.2.2.files), none, none, (some (AObj.cells false (rowC (e_sl e_u8) r.2.2.1.l))), (some (AObj.cells false [(ci (r.2.2.2.fuse.getD default))]))])) := by
 unfold journal_Journal_scan.f at h
 refine Meets.of_body (n := 57) Try.func25 rfl rfl (nl rfl) fun x hx => ?_
 replace hx : x.k = 5 := hx
 show AW _ x _ _ ⟨57, fr0 [(rf 0 0), (D.one (C.p false (.sl a1.length (a1.flatMap e_u8))))], [(o_journal_Journal_02 false (C.ref 1 0) (C.own 3 0 p0.l.length 1) p0), (o_vdisk_Disk_03 false (C.mp 2) (C.opt p1.fuse.isSome 4 0) p1), (om_ e_vdisk_file p1.files), (some (AObj.cells false (rowC (e_sl e_u8) p0.l))), (some (AObj.cells false [(ci (p1.fuse.getD default))]))]⟩
 refine AW.weak (st' := ⟨57, (upd 57 (upd 57 topF 0 (rf 0 0)) 1 (D.one (C.p false (.sl a1.length (a1.flatMap e_u8))))), [(o_journal_Journal_02 false (C.ref 1 0) (C.own 5 0 p0.l.length 1) p0), (o_vdisk_Disk_03 false (C.mp 2) (C.opt p1.fuse.isSome 6 0) p1), (om_ e_vdisk_file p1.files), none, none, (some (AObj.cells false (rowC (e_sl e_u8) p0.l))), (some (AObj.cells false [(ci (p1.fuse.getD default))]))]⟩) (Weak.genL (kk := 5) [0, 1, 2, 3, 4, 3, 4] [] hx rfl (by decide) rfl rfl rfl rfl (le_upd (le_upd (le_top _) (o1 (.ref rfl))) (o1 .same)) (ac (.cells id (ac (.ref rfl) (ac .same (ac (.own rfl) (ac .sc an))))) (ac (.cells id (ac (.mp rfl) (ac .sc (ac .sc (ac (.opt rfl) (ac .sc an)))))) (ac .map (ac (.none _) (ac (.none _) (ac (.cells id (all2_row _)) (ac (.cells id (ac .sc an)) an)))))))) (AW.seq (AW.region ?_))
 refine s_assign (d := (sc (.pointer none))) rfl (s_assign (d := (si 0)) rfl (AWops.nil (AW.seq (AW.region (s_assign (d := (sc (.slice none 0 0))) rfl (AWops.nil (AW.seq (AW.region (s_assign (d := (si 0)) rfl (AWops.nil (AW.seq (AW.block ?_))))))))))))
 refine AW.loopw (st0 := ⟨57, (upd 57 (upd 57 (upd 57 (upd 57 topF 0 (rf 0 0)) 1 (D.one (C.p false (.sl a1.length (a1.flatMap e_u8))))) 6 (D.one (C.own 5 0 ([] : List (List Int)).length 1))) 7 (si 0)), [(o_journal_Journal_02 false (C.ref 1 0) (C.own 6 0 p0.l.length 1) p0), (o_vdisk_Disk_03 false (C.mp 2) (C.opt p1.fuse.isSome 7 0) p1), (om_ e_vdisk_file p1.files), none, none, (some (AObj.cells true (rowC (e_sl e_u8) ([] : List (List Int))))), (some (AObj.cells false (rowC (e_sl e_u8) p0.l))), (some (AObj.cells false [(ci (p1.fuse.getD default))]))]⟩) (fun kv st => kv ≤ k ∧ ∃ (x1 : List (List Int)) (x2 : Int), journal_Journal_scan.l0 kv x1 x2 p0 a1 p1 = some r ∧ st = ⟨57, (upd 57 (upd 57 (upd 57 (upd 57 topF 0 (rf 0 0)) 1 (D.one (C.p false (.sl a1.length (a1.flatMap e_u8))))) 6 (D.one (C.own 5 0 x1.length 1))) 7 (si x2)), [(o_journal_Journal_02 false (C.ref 1 0) (C.own 6 0 p0.l.length 1) p0), (o_vdisk_Disk_03 false (C.mp 2) (C.opt p1.fuse.isSome 7 0) p1), (om_ e_vdisk_file p1.files), none, none, (some (AObj.cells true (rowC (e_sl e_u8) x1))), (some (AObj.cells false (rowC (e_sl e_u8) p0.l))), (some (AObj.cells false [(ci (p1.fuse.getD default))]))]⟩) (k := k) (Weak.trans (Weak.nil (sz := 1) (i := 6) rfl) (wG 5 [0, 1, 2, 3, 4, 7, 5, 6] [])) ⟨Nat.le_refl _, ([] : List (List Int)), 0, h, rfl⟩ ?_
 rintro ql0 st ⟨hkl0, x1, x2, h, rfl⟩
 cases ql0 with
 | zero => exact absurd h (by simp [journal_Journal_scan.l0])
 | succ ql0 =>
  replace h := (journal_Journal_scan.l0.eq_2 _ _ _ _ _ _).symm.trans h
  refine AW.block (AW.seq (AW.region ?_))
  refine s_move (d := (D.one (C.p false (.sl a1.length (a1.flatMap e_u8))))) rfl (s_move (d := (si x2)) rfl ?_)
  obtain ⟨c3, h⟩ := gdH h
  have dc3 := of_decide_eq_true c3
  refine t_sliceImm (a := x2) (b := (a1.length : Int)) F.u_22 F.sz_5 e_u8_len rfl (by omega) (by omega) (by omega) (.yes rfl (by omega) rfl) .no ?_
  obtain ⟨r4, er4, h⟩ := bnd h
  refine cc [] [(o_journal_Journal_02 false (C.ref 1 0) (C.own 6 0 p0.l.length 1) p0), (o_vdisk_Disk_03 false (C.mp 2) (C.opt p1.fuse.isSome 7 0) p1), (om_ e_vdisk_file p1.files), none, none, (some (AObj.cells true (rowC (e_sl e_u8) x1))), (some (AObj.cells false (rowC (e_sl e_u8) p0.l))), (some (AObj.cells false [(ci (p1.fuse.getD default))]))] (D.tup [(D.one (C.p false (.sl r4.1.length (r4.1.flatMap e_u8)))), (sb r4.2)]) F.ca_62 rfl rfl (ac (.one .imm) an) an (journal_next.meets _ (sub a1 x2 (a1.length : Int)) r4 er4) (s_move (d := (D.tup [(D.one (C.p false (.sl r4.1.length (r4.1.flatMap e_u8)))), (sb r4.2)])) rfl (s_extract (d := (D.one (C.p false (.sl r4.1.length (r4.1.flatMap e_u8))))) rfl rfl (s_extract (d := (sb r4.2)) rfl rfl (s_assign (d := (D.one (C.p false (.sl r4.1.length (r4.1.flatMap e_u8))))) rfl (s_assign (d := (sb r4.2)) rfl (AWops.nil (AW.seq (AW.seq (AW.region ?_)))))))))
  refine s_move (d := (sb r4.2)) rfl (s_not rfl (AWops.nil ?_))
  rcases itH h with ⟨c5, h⟩ | ⟨c5, h⟩
  ·refine AW.cond_no rfl (by rw [c5] <;> rfl) (AW.skip (AW.seq (AW.region ?_)))
   refine s_move (d := (D.one (C.own 5 0 x1.length 1))) rfl (s_move (d := (D.one (C.p false (.sl r4.1.length (r4.1.flatMap e_u8))))) rfl (s_buildSlice (n := 1) (ps := [(0, (D.one (C.p false (.sl r4.1.length (r4.1.flatMap e_u8)))))]) (cs := rowC (e_sl e_u8) ([r4.1] : List (List Int))) F.u_61 F.sz_22 F.z_22 rfl rfl (by decide) (by decide) rfl rfl ?_))
   obtain ⟨c6, h⟩ := gdH h
   have dc6 := of_decide_eq_true c6
   refine t_append (xs := x1) (ys := ([r4.1] : List (List Int))) (zs := x1 ++ ([r4.1] : List (List Int))) (H' := [(o_journal_Journal_02 false (C.ref 1 0) (C.own 6 0 p0.l.length 1) p0), (o_vdisk_Disk_03 false (C.mp 2) (C.opt p1.fuse.isSome 7 0) p1), (om_ e_vdisk_file p1.files), none, none, none, (some (AObj.cells false (rowC (e_sl e_u8) p0.l))), (some (AObj.cells false [(ci (p1.fuse.getD default))])), (some (AObj.cells true (rowC (e_sl e_u8) ([r4.1] : List (List Int))))), (some (AObj.cells true (rowC (e_sl e_u8) (x1 ++ ([r4.1] : List (List Int))))))]) F.u_61 F.in_22 rfl (e_sl_len _) (.own rfl rfl) (.own rfl rfl) F.u_61 (by omega) (by omega) rfl rfl (s_assign (d := (D.one (C.own 9 0 ((x1 ++ ([r4.1] : List (List Int))).length) 1))) rfl (AWops.nil (AW.region (s_move (d := (si x2)) rfl (s_move (d := (D.one (C.p false (.sl r4.1.length (r4.1.flatMap e_u8))))) rfl (s_len (n := r4.1.length) F.u_22 rfl (.inr ⟨(fun _ _ h => by cases h), ⟨_, rfl⟩⟩) (s_binI (v := (.int .i64 (IntKind.i64.wrap (8 + (r4.1.length : Int))))) rfl rfl rfl ?_)))))))
   refine s_binI (v := (.int .i64 (IntKind.i64.wrap (x2 + (IntKind.i64.wrap (8 + (r4.1.length : Int))))))) rfl rfl rfl (s_assign (d := (si (IntKind.i64.wrap (x2 + (IntKind.i64.wrap (8 + (r4.1.length : Int))))))) rfl (AWops.nil ?_))
   exact ⟨_, ⟨57, (upd 57 (upd 57 (upd 57 (upd 57 topF 0 (rf 0 0)) 1 (D.one (C.p false (.sl a1.length (a1.flatMap e_u8))))) 6 (D.one (C.own 5 0 (x1 ++ ([r4.1] : List (List Int))).length 1))) 7 (si (IntKind.i64.wrap (x2 + (IntKind.i64.wrap (8 + (r4.1.length : Int))))))), [(o_journal_Journal_02 false (C.ref 1 0) (C.own 6 0 p0.l.length 1) p0), (o_vdisk_Disk_03 false (C.mp 2) (C.opt p1.fuse.isSome 7 0) p1), (om_ e_vdisk_file p1.files), none, none, (some (AObj.cells true (rowC (e_sl e_u8) (x1 ++ ([r4.1] : List (List Int)))))), (some (AObj.cells false (rowC (e_sl e_u8) p0.l))), (some (AObj.cells false [(ci (p1.fuse.getD default))]))]⟩, by omega, (wG 5 [0, 1, 2, 3, 4, 9, 6, 7] []), by omega, x1 ++ ([r4.1] : List (List Int)), IntKind.i64.wrap (x2 + (IntKind.i64.wrap (8 + (r4.1.length : Int)))), h, rfl⟩
  ·refine AW.cond_yes rfl (by rw [c5] <;> rfl) (AW.exit (AW.seq (AW.seq (AW.region ?_))))
   refine s_move (d := (D.one (C.own 5 0 x1.length 1))) rfl (s_len (n := x1.length) F.u_61 rfl (.inr ⟨(fun _ _ h => by cases h), ⟨_, rfl⟩⟩) (s_binI (v := (.bool ((x1.length : Int) == 0))) rfl rfl rfl (AWops.nil ?_)))
   rcases itH h with ⟨c7, h⟩ | ⟨c7, h⟩
   ·refine AW.cond_yes rfl c7 (AW.seq (AW.region ?_))
    refine s_assign (d := (sc (.pointer none))) rfl (s_assign (d := (si 72)) rfl (AWops.nil (AW.ret ?_)))
    obtain rfl := Option.some.inj h
    exact ⟨_, rfl, (wG 5 [0, 1, 2, 3, 4, 6, 7] [])⟩
   ·refine AW.cond_no rfl c7 (AW.skip ?_)
    refine AW.seqJ (fun st => ∃ (x11 : Option Int) (x12 : Int) (x13 : Int) (x14 : Bool) (x15 : List (ByteArray × vdisk_file)), journal_Journal_scan.j1 ql0 x11 x12 x13 x14 x15 p0 x1 = some r ∧ st = ⟨57, (upd 57 (upd 57 topF 0 (rf 0 0)) 6 (D.one (C.own 5 0 x1.length 1))), [(o_journal_Journal_02 false (C.ref 1 0) (C.own 6 0 p0.l.length 1) p0), (some (AObj.cells false [(C.mp 2), (ci x12), (ci x13), (C.opt x11.isSome 7 0), (cb x14)])), (om_ e_vdisk_file x15), none, none, (some (AObj.cells true (rowC (e_sl e_u8) x1))), (some (AObj.cells false (rowC (e_sl e_u8) p0.l))), (some (AObj.cells false [(ci (x11.getD default))]))]⟩) ?_ ?_
    ·refine AW.seq (AW.region ?_)
     refine s_move (d := (si x2)) rfl (s_move (d := (D.one (C.p false (.sl a1.length (a1.flatMap e_u8))))) rfl (s_len (n := a1.length) F.u_22 rfl (.inr ⟨(fun _ _ h => by cases h), ⟨_, rfl⟩⟩) (s_binI (v := (.bool (decide (x2 < (a1.length : Int))))) rfl rfl rfl (AWops.nil ?_))))
     rcases itH h with ⟨c8, h⟩ | ⟨c8, h⟩
     ·refine AW.cond_yes rfl c8 (AW.seq (AW.region ?_))
      refine s_move (d := (rf 0 0)) rfl (s_nilCheck (d := (rf 0 0)) rfl (.inl ⟨_, _, rfl⟩) (s_fieldRef F.fo_68_0 (by decide) rfl (s_load1 (c' := (C.ref 1 0)) F.ag_25 rfl rfl (s_move (d := (si x2)) rfl ?_))))
      obtain ⟨r9, er9, h⟩ := bnd h
      refine cc [1, 2, 7] [(o_journal_Journal_02 false (C.ref 1 0) (C.own 6 0 p0.l.length 1) p0), (o_vdisk_Disk_03 false (C.mp 2) (C.opt r9.2.fuse.isSome 8 0) r9.2), (om_ e_vdisk_file r9.2.files), none, none, (some (AObj.cells true (rowC (e_sl e_u8) x1))), (some (AObj.cells false (rowC (e_sl e_u8) p0.l))), none, (some (AObj.cells false [(ci (r9.2.fuse.getD default))]))] (si r9.1) F.ca_41 rfl rfl (ac (.one (.ref rfl)) (ac (.one .sc) (ac (.one .sc) an))) (ac (.cells (ac (.mp rfl) (ac .sc (ac .sc (ac (.opt rfl) (ac .sc an)))))) (ac .map (ac (.cells (ac .sc an)) an))) (vdisk_Disk_Truncate.meets _ p1 (⟨#[106, 111, 117, 114, 110, 97, 108]⟩ : ByteArray) x2 r9 er9) (s_assign (d := (si r9.1)) rfl (AWops.nil (AW.seq (AW.region (s_move (d := (si r9.1)) rfl (s_binI (v := (.bool (r9.1 != 0))) rfl rfl rfl (AWops.nil ?_)))))))
      rcases itH h with ⟨c10, h⟩ | ⟨c10, h⟩
      ·refine AW.cond_yes rfl c10 (AW.seq (AW.region ?_))
       refine s_move (d := (si r9.1)) rfl (s_assign (d := (sc (.pointer none))) rfl (s_assign (d := (si r9.1)) rfl (AWops.nil (AW.ret ?_))))
       obtain rfl := Option.some.inj h
       exact ⟨_, rfl, (wG 5 [0, 1, 2, 3, 4, 6, 8] [])⟩
      ·refine AW.cond_no rfl c10 (AW.skip ?_)
       exact ⟨⟨57, (upd 57 (upd 57 topF 0 (rf 0 0)) 6 (D.one (C.own 5 0 x1.length 1))), [(o_journal_Journal_02 false (C.ref 1 0) (C.own 6 0 p0.l.length 1) p0), (some (AObj.cells false [(C.mp 2), (ci r9.2.room), (ci r9.2.used), (C.opt r9.2.fuse.isSome 7 0), (cb r9.2.dead)])), (om_ e_vdisk_file r9.2.files), none, none, (some (AObj.cells true (rowC (e_sl e_u8) x1))), (some (AObj.cells false (rowC (e_sl e_u8) p0.l))), (some (AObj.cells false [(ci (r9.2.fuse.getD default))]))]⟩, (wG 5 [0, 1, 2, 3, 4, 5, 6, 8] []), r9.2.fuse, r9.2.room, r9.2.used, r9.2.dead, r9.2.files, h, rfl⟩
     ·refine AW.cond_no rfl c8 (AW.skip ?_)
      exact ⟨⟨57, (upd 57 (upd 57 topF 0 (rf 0 0)) 6 (D.one (C.own 5 0 x1.length 1))), [(o_journal_Journal_02 false (C.ref 1 0) (C.own 6 0 p0.l.length 1) p0), (some (AObj.cells false [(C.mp 2), (ci p1.room), (ci p1.used), (C.opt p1.fuse.isSome 7 0), (cb p1.dead)])), (om_ e_vdisk_file p1.files), none, none, (some (AObj.cells true (rowC (e_sl e_u8) x1))), (some (AObj.cells false (rowC (e_sl e_u8) p0.l))), (some (AObj.cells false [(ci (p1.fuse.getD default))]))]⟩, (wG 5 [0, 1, 2, 3, 4, 5, 6, 7] []), p1.fuse, p1.room, p1.used, p1.dead, p1.files, h, rfl⟩
    ·rintro st ⟨x11, x12, x13, x14, x15, h, rfl⟩
     cases ql0 with
     | zero => exact absurd h (by simp [journal_Journal_scan.j1])
     | succ qj1 =>
      replace h := (journal_Journal_scan.j1.eq_2 _ _ _ _ _ _ _ _).symm.trans h
      refine AW.seq ?_
      refine AW.weak (st' := ⟨57, (upd 57 (upd 57 topF 0 (rf 0 0)) 6 (D.one (C.own 5 0 x1.length 1))), [(o_journal_Journal_02 false (C.ref 1 0) (C.own 6 0 p0.l.length 1) p0), (some (AObj.cells false [(C.mp 2), (ci x12), (ci x13), (C.opt x11.isSome 7 0), (cb x14)])), (om_ e_vdisk_file x15), none, none, (some (AObj.cells true (rowC (e_sl e_u8) x1))), (some (AObj.cells false (rowC (e_sl e_u8) p0.l))), (some (AObj.cells false [(ci (x11.getD default))]))]⟩) (wG 5 [0, 1, 2, 3, 4, 5, 6, 7] []) ?_
      obtain ⟨v16, ev16, h⟩ := bnd h
      obtain ⟨pv16, qv16, gv16⟩ := rd_some ev16
      obtain ⟨R17, hR17⟩ := row_at (f := (e_sl e_u8)) (sz := 1) (o := 0) (e_sl_len _) gv16 (e_sl_eq _ v16) (by decide)
      obtain ⟨c18, h⟩ := gdH h
      have dc18 := of_decide_eq_true c18
      refine AW.draw2 8 [kf 45 (rf 0 0) [0], kf 46 (rf 0 0) [0], kf 47 (D.one (C.own 5 0 x1.length 1)) [6], ⟨some 48, (D.one (C.er 5 (0 + 0 * 1))), [47], [5], [], none⟩, ⟨some 49, (D.one (C.p false (.sl v16.length (v16.flatMap e_u8)))), [48], [5], [], none⟩, kf 50 (D.one (C.own 5 0 x1.length 1)) [6], ⟨some 51, (D.one (C.cut 5 (1 * 1) (x1.length - 1) 1)), [50], [5], [], none⟩, kf 52 (rf 0 0) [45], kf 53 (rf 0 1) [52], ⟨none, (D.one C.top), [49, 53], [0], [(0, (some (AObj.cells false [(C.ref 1 0), (C.p false (.sl v16.length (v16.flatMap e_u8))), (C.own 6 0 p0.l.length 1), (cb p0.stopped)])))], none⟩, kf 54 (rf 0 0) [46], kf 55 (rf 0 2) [54], ⟨none, (D.one C.top), [51, 55], [0], [(0, (some (AObj.cells false [(C.ref 1 0), (C.p false (.sl v16.length (v16.flatMap e_u8))), (C.cut 5 (1 * 1) (x1.length - 1) 1), (cb p0.stopped)])))], none⟩] ⟨?_, ?_⟩
      ·refine (pA (pA (pA (pC ?_ (pC ?_ (pA (pC ?_ (pA (pE F.fo_68_1 (pC ?_ (pA (pE F.fo_68_2 (pC ?_ AllStep.nil')))))))))))))
       ·intro K rest fr hv htk k
        refine s_indexOwn (d := (D.one (C.er 5 (0 + 0 * 1)))) F.u_61 F.sz_22 rfl rfl pv16 qv16 rfl k
       ·intro K rest fr hv htk k
        refine s_load1 (c' := (C.p false (.sl v16.length (v16.flatMap e_u8)))) F.ag_22 (congrArg some hR17) rfl k
       ·intro K rest fr hv htk k
        refine s_sliceCut (l := 1) (n := x1.length) F.u_61 F.sz_22 rfl (.yes rfl (by omega) rfl) (by decide) (by omega) rfl k
       ·intro K rest fr hv htk k
        refine s_store (cs' := [(C.ref 1 0), (C.p false (.sl v16.length (v16.flatMap e_u8))), (C.own 6 0 p0.l.length 1), (cb p0.stopped)]) rfl rfl rfl (List.cons_ne_nil _ _) rfl F.sz_22 (nl rfl) rfl k
       ·intro K rest fr hv htk k
        refine s_store (cs' := [(C.ref 1 0), (C.p false (.sl v16.length (v16.flatMap e_u8))), (C.cut 5 (1 * 1) (x1.length - 1) 1), (cb p0.stopped)]) rfl rfl rfl (List.cons_ne_nil _ _) rfl F.sz_61 (nl rfl) rfl k
      ·refine AWops.weak (st' := ⟨57, (upd 57 topF 0 (rf 0 0)), [(some (AObj.cells false [(C.ref 1 0), (C.p false (.sl v16.length (v16.flatMap e_u8))), (C.cut 5 (1 * 1) (x1.length - 1) 1), (cb p0.stopped)])), (some (AObj.cells false [(C.mp 2), (ci x12), (ci x13), (C.opt x11.isSome 6 0), (cb x14)])), (om_ e_vdisk_file x15), none, none, (some (AObj.cells true (rowC (e_sl e_u8) x1))), (some (AObj.cells false [(ci (x11.getD default))]))]⟩) (wG 5 [0, 1, 2, 3, 4, 5, 7] []) ?_
       refine AWops.weak (Weak.cutR (t := 5) (p := 0) (j := 2) (l := 1) (xs := x1) (H' := [(some (AObj.cells false [(C.ref 1 0), (C.p false (.sl v16.length (v16.flatMap e_u8))), (C.own 7 0 ((x1.drop 1).length) 1), (cb p0.stopped)])), (some (AObj.cells false [(C.mp 2), (ci x12), (ci x13), (C.opt x11.isSome 6 0), (cb x14)])), (om_ e_vdisk_file x15), none, none, none, (some (AObj.cells false [(ci (x11.getD default))])), (some (AObj.cells true (rowC (e_sl e_u8) (x1.drop 1))))]) (e_sl_len _) rfl rfl rfl rfl rfl) (AWops.nil (AW.seq (AW.region ?_)))
       refine s_move (d := (rf 0 0)) rfl (s_assign (d := (rf 0 0)) rfl (s_assign (d := (si 0)) rfl (AWops.nil (AW.ret ?_))))
       obtain rfl := Option.some.inj h
       exact ⟨_, rfl, (wG 5 [0, 1, 2, 3, 4, 7, 6] [])⟩
def vdisk_named.f (k : Nat) (a0 : ByteArray) : Option Bool := if (a0.toList == (⟨#[]⟩ : ByteArray).toList) = true then (some false) else (some (decide ((a0.size : Int) ≤ 64)))
theorem vdisk_named.meets (k : Nat) (a0 : ByteArray) (r : Bool) (h : vdisk_named.f k a0 = some r) : Meets Try.prog 67 [(st_ a0)] [] (sb r) [] := by
 unfold vdisk_named.f at h
 refine Meets.of_body (n := 10) Try.func67 rfl rfl (nl rfl) fun x hx => ?_
 replace hx : x.k = 0 := hx
 show AW _ x _ _ ⟨10, fr0 [(st_ a0)], []⟩
 refine AW.seq (AW.region ?_)
 refine s_assign (d := (sb false)) rfl (AWops.nil (AW.seq (AW.region ?_)))
 refine s_move (d := (st_ a0)) rfl (s_binS (v := (.bool (!(a0.toList == (⟨#[]⟩ : ByteArray).toList)))) rfl rfl rfl (s_move (d := (sb (!(a0.toList == (⟨#[]⟩ : ByteArray).toList)))) rfl ?_))
 rcases itH h with ⟨c1, h⟩ | ⟨c1, h⟩
 ·iterate 3 refine AWops.guard_no rfl (nl rfl) rfl (by rw [c1] <;> rfl) ?_
  refine s_pick_no (d := (sb false)) rfl (by rw [c1] <;> rfl) rfl (s_assign (d := (sb false)) rfl (AWops.nil (AW.ret ?_)))
  obtain rfl := Option.some.inj h
  exact ⟨_, rfl, (wG 0 [] [])⟩
 ·refine AWops.guard_yes rfl (nl rfl) rfl (by rw [c1] <;> rfl) ?_
  refine s_move (d := (st_ a0)) rfl ?_
  refine AWops.guard_yes rfl (nl rfl) rfl (by rw [c1] <;> rfl) ?_
  refine s_len (n := a0.size) F.u_9 rfl (.inl ⟨⟨_, _, rfl⟩, rfl⟩) ?_
  refine AWops.guard_yes rfl (nl rfl) rfl (by rw [c1] <;> rfl) ?_
  refine s_binI (v := (.bool (decide ((a0.size : Int) ≤ 64)))) rfl rfl rfl (s_pick_yes (d := (sb (decide ((a0.size : Int) ≤ 64)))) rfl (by rw [c1] <;> rfl) rfl (s_assign (d := (sb (decide ((a0.size : Int) ≤ 64)))) rfl (AWops.nil (AW.ret ?_))))
  obtain rfl := Option.some.inj h
  exact ⟨_, rfl, (wG 0 [] [])⟩
def slices_Concat_byte_byte_69.f (k : Nat) (p0 : List Int) (p1 : List Int) : Option (List Int) := if (decide ((IntKind.i64.wrap (0 + (p0.length : Int))) < 0)) = true then (none) else (if (decide ((IntKind.i64.wrap ((IntKind.i64.wrap (0 + (p0.length : Int))) + (p1.length : Int))) < 0)) = true then (none) else ((slices_Grow_byte_byte_nil0.f k (IntKind.i64.wrap ((IntKind.i64.wrap (0 + (p0.length : Int))) + (p1.length : Int)))).bind fun r5 => if (decide (r5.length + p0.length ≤ 140737488355328)) = true then (if (decide ((r5 ++ p0).length + p1.length ≤ 140737488355328)) = true then (some ((r5 ++ p0) ++ p1)) else none) else none))
theorem slices_Concat_byte_byte_69.meets (k : Nat) (p0 : List Int) (p1 : List Int) (r : (List Int)) (h : slices_Concat_byte_byte_69.f k p0 p1 = some r) : Meets Try.prog 69 [(D.one (C.own 0 0 2 1))] [(some (AObj.cells false [(C.p false (.sl p0.length (p0.flatMap e_u8))), (C.own 1 0 p1.length 1)])), (or_ e_u8 p1)] (D.one (C.own 2 0 r.length 1)) [(some (AObj.cells false [(C.p false (.sl p0.length (p0.flatMap e_u8))), (C.own 1 0 p1.length 1)])), (or_ e_u8 p1), (ow_ e_u8 r)] := by
 unfold slices_Concat_byte_byte_69.f at h
 refine Meets.of_body (n := 36) Try.func69 rfl rfl (nl rfl) fun x hx => ?_
 replace hx : x.k = 2 := hx
 show AW _ x _ _ ⟨36, fr0 [(D.one (C.own 0 0 2 1))], [(some (AObj.cells false [(C.p false (.sl p0.length (p0.flatMap e_u8))), (C.own 1 0 p1.length 1)])), (or_ e_u8 p1)]⟩
 refine AW.seq (AW.region ?_)
 refine s_assign (d := (sc (.slice none 0 0))) rfl (AWops.nil (AW.seq (AW.region ?_)))
 refine s_assign (d := (si 0)) rfl (AWops.nil (AW.seq (AW.seq (AW.region ?_))))
 refine s_move (d := (D.one (C.own 0 0 2 1))) rfl (s_len (n := 2) F.u_61 rfl (.inr ⟨(fun _ _ h => by cases h), ⟨_, rfl⟩⟩) (s_move (d := (si 0)) rfl (AWops.nil (AW.block ?_))))
 refine AW.unroll 9 ?_
 refine U.step (AW.seq (AW.region ?_))
 refine s_binI (v := (.bool true)) rfl rfl rfl (AWops.nil (AW.seq ?_))
 refine AW.cond_yes rfl rfl (AW.skip (AW.seq (AW.block (AW.seq (AW.region ?_)))))
 refine s_indexOwn (d := (D.one (C.er 0 0))) F.u_61 F.sz_22 rfl rfl (by decide) (by decide) rfl (s_load1 (c' := (C.p false (.sl p0.length (p0.flatMap e_u8)))) F.ag_22 rfl rfl (s_assign (d := (D.one (C.p false (.sl p0.length (p0.flatMap e_u8))))) rfl (AWops.nil (AW.seq (AW.region (s_move (d := (si 0)) rfl (s_move (d := (D.one (C.p false (.sl p0.length (p0.flatMap e_u8))))) rfl (s_len (n := p0.length) F.u_22 rfl (.inr ⟨(fun _ _ h => by cases h), ⟨_, rfl⟩⟩) ?_))))))))
 refine s_binI (v := (.int .i64 (IntKind.i64.wrap (0 + (p0.length : Int))))) rfl rfl rfl (s_assign (d := (si (IntKind.i64.wrap (0 + (p0.length : Int))))) rfl (AWops.nil (AW.seq (AW.region (s_move (d := (si (IntKind.i64.wrap (0 + (p0.length : Int))))) rfl (s_binI (v := (.bool (decide ((IntKind.i64.wrap (0 + (p0.length : Int))) < 0)))) rfl rfl rfl (AWops.nil ?_)))))))
 rcases itH h with ⟨c2, h⟩ | ⟨c2, h⟩
 ·refine AW.cond_yes rfl c2 (AW.region ?_)
  cases h
 ·refine AW.cond_no rfl c2 (AW.skip (AW.region ?_))
  refine s_binI (v := (.int .i64 1)) rfl rfl (by rfl) (s_move (d := (si 1)) rfl (AWops.nil ?_))
  refine U.step (AW.seq (AW.region ?_))
  refine s_binI (v := (.bool true)) rfl rfl rfl (AWops.nil (AW.seq ?_))
  refine AW.cond_yes rfl rfl (AW.skip (AW.seq (AW.block (AW.seq (AW.region ?_)))))
  refine s_indexOwn (d := (D.one (C.er 0 1))) F.u_61 F.sz_22 rfl rfl (by decide) (by decide) rfl (s_load1 (c' := (C.own 1 0 p1.length 1)) F.ag_22 rfl rfl (s_assign (d := (D.one (C.own 1 0 p1.length 1))) rfl (AWops.nil (AW.seq (AW.region (s_move (d := (si (IntKind.i64.wrap (0 + (p0.length : Int))))) rfl (s_move (d := (D.one (C.own 1 0 p1.length 1))) rfl (s_len (n := p1.length) F.u_22 rfl (.inr ⟨(fun _ _ h => by cases h), ⟨_, rfl⟩⟩) ?_))))))))
  refine s_binI (v := (.int .i64 (IntKind.i64.wrap ((IntKind.i64.wrap (0 + (p0.length : Int))) + (p1.length : Int))))) rfl rfl rfl (s_assign (d := (si (IntKind.i64.wrap ((IntKind.i64.wrap (0 + (p0.length : Int))) + (p1.length : Int))))) rfl (AWops.nil (AW.seq (AW.region (s_move (d := (si (IntKind.i64.wrap ((IntKind.i64.wrap (0 + (p0.length : Int))) + (p1.length : Int))))) rfl (s_binI (v := (.bool (decide ((IntKind.i64.wrap ((IntKind.i64.wrap (0 + (p0.length : Int))) + (p1.length : Int))) < 0)))) rfl rfl rfl (AWops.nil ?_)))))))
  rcases itH h with ⟨c4, h⟩ | ⟨c4, h⟩
  ·refine AW.cond_yes rfl c4 (AW.region ?_)
   cases h
  ·refine AW.cond_no rfl c4 (AW.skip (AW.region ?_))
   refine s_binI (v := (.int .i64 2)) rfl rfl (by rfl) (s_move (d := (si 2)) rfl (AWops.nil ?_))
   refine U.step (AW.seq (AW.region ?_))
   refine s_binI (v := (.bool false)) rfl rfl rfl (AWops.nil (AW.seq ?_))
   refine AW.cond_no rfl rfl (AW.exit (AW.seq (AW.region ?_)))
   refine s_move (d := (si (IntKind.i64.wrap ((IntKind.i64.wrap (0 + (p0.length : Int))) + (p1.length : Int))))) rfl ?_
   obtain ⟨r5, er5, h⟩ := bnd h
   refine cc [] [(some (AObj.cells false [(C.p false (.sl p0.length (p0.flatMap e_u8))), (C.own 1 0 p1.length 1)])), (or_ e_u8 p1), (ow_ e_u8 r5)] (D.one (C.own 2 0 r5.length 1)) F.ca_78 rfl rfl (ac (.one .sc) (ac (.one .sc) an)) an (slices_Grow_byte_byte_nil0.meets _ (IntKind.i64.wrap ((IntKind.i64.wrap (0 + (p0.length : Int))) + (p1.length : Int))) r5 er5) (s_assign (d := (D.one (C.own 2 0 r5.length 1))) rfl (AWops.nil (AW.seq (AW.seq (AW.region (s_move (d := (D.one (C.own 0 0 2 1))) rfl (s_len (n := 2) F.u_61 rfl (.inr ⟨(fun _ _ h => by cases h), ⟨_, rfl⟩⟩) (s_move (d := (si 0)) rfl (AWops.nil (AW.block ?_))))))))))
   refine AW.unroll 9 ?_
   refine U.step (AW.seq (AW.region ?_))
   refine s_binI (v := (.bool true)) rfl rfl rfl (AWops.nil (AW.seq ?_))
   refine AW.cond_yes rfl rfl (AW.skip (AW.seq (AW.block (AW.seq (AW.region ?_)))))
   refine s_indexOwn (d := (D.one (C.er 0 0))) F.u_61 F.sz_22 rfl rfl (by decide) (by decide) rfl (s_load1 (c' := (C.p false (.sl p0.length (p0.flatMap e_u8)))) F.ag_22 rfl rfl (s_assign (d := (D.one (C.p false (.sl p0.length (p0.flatMap e_u8))))) rfl (AWops.nil (AW.region (s_move (d := (D.one (C.own 2 0 r5.length 1))) rfl (s_move (d := (D.one (C.p false (.sl p0.length (p0.flatMap e_u8))))) rfl ?_))))))
   obtain ⟨c6, h⟩ := gdH h
   have dc6 := of_decide_eq_true c6
   refine t_append (xs := r5) (ys := p0) (zs := r5 ++ p0) (H' := [(some (AObj.cells false [(C.p false (.sl p0.length (p0.flatMap e_u8))), (C.own 1 0 p1.length 1)])), (or_ e_u8 p1), none, (some (AObj.cells true (rowC e_u8 (r5 ++ p0))))]) F.u_22 F.in_5 rfl e_u8_len (.own rfl rfl) .imm F.u_22 (by omega) (by omega) rfl rfl (s_assign (d := (D.one (C.own 3 0 ((r5 ++ p0).length) 1))) rfl (AWops.nil (AW.region (s_binI (v := (.int .i64 1)) rfl rfl (by rfl) (s_move (d := (si 1)) rfl (AWops.nil ?_))))))
   refine U.step (AW.seq (AW.region ?_))
   refine s_binI (v := (.bool true)) rfl rfl rfl (AWops.nil (AW.seq ?_))
   refine AW.cond_yes rfl rfl (AW.skip (AW.seq (AW.block (AW.seq (AW.region ?_)))))
   refine s_indexOwn (d := (D.one (C.er 0 1))) F.u_61 F.sz_22 rfl rfl (by decide) (by decide) rfl (s_load1 (c' := (C.own 1 0 p1.length 1)) F.ag_22 rfl rfl (s_assign (d := (D.one (C.own 1 0 p1.length 1))) rfl (AWops.nil (AW.region (s_move (d := (D.one (C.own 3 0 ((r5 ++ p0).length) 1))) rfl (s_move (d := (D.one (C.own 1 0 p1.length 1))) rfl ?_))))))
   obtain ⟨c7, h⟩ := gdH h
   have dc7 := of_decide_eq_true c7
   refine t_append (xs := r5 ++ p0) (ys := p1) (zs := (r5 ++ p0) ++ p1) (H' := [(some (AObj.cells false [(C.p false (.sl p0.length (p0.flatMap e_u8))), (C.own 1 0 p1.length 1)])), (or_ e_u8 p1), none, none, (some (AObj.cells true (rowC e_u8 ((r5 ++ p0) ++ p1))))]) F.u_22 F.in_5 rfl e_u8_len (.own rfl rfl) (.own rfl rfl) F.u_22 (by omega) (by omega) rfl rfl (s_assign (d := (D.one (C.own 4 0 (((r5 ++ p0) ++ p1).length) 1))) rfl (AWops.nil (AW.region (s_binI (v := (.int .i64 2)) rfl rfl (by rfl) (s_move (d := (si 2)) rfl (AWops.nil ?_))))))
   refine U.step (AW.seq (AW.region ?_))
   refine s_binI (v := (.bool false)) rfl rfl rfl (AWops.nil (AW.seq ?_))
   refine AW.cond_no rfl rfl (AW.exit (AW.seq (AW.region ?_)))
   refine s_move (d := (D.one (C.own 4 0 (((r5 ++ p0) ++ p1).length) 1))) rfl (s_assign (d := (D.one (C.own 4 0 (((r5 ++ p0) ++ p1).length) 1))) rfl (AWops.nil (AW.ret ?_)))
   obtain rfl := Option.some.inj h
   exact ⟨_, rfl, (wG 2 [0, 1, 4] [])⟩
def vdisk_Disk_Append.f (k : Nat) (p0 : vdisk_Disk) (a1 : ByteArray) (p1 : List Int) : Option (Int × vdisk_Disk) := (vdisk_named.f k a1).bind fun r1 => (vdisk_Disk_change.f k p0 r1 a1 true (p1.length : Int)).bind fun r2 => if (r2.1 == 0) = true then ((slices_Concat_byte_byte_69.f k ((lk_vdisk_file a1 r2.2.files).b) p1).bind fun r4 => (vdisk_Disk_set.f k r2.2 a1 (⟨r4, (lk_vdisk_file a1 r2.2.files).sure⟩ : vdisk_file)).bind fun r5 => some (r2.1, r5)) else (some (r2.1, r2.2))
theorem vdisk_Disk_Append.meets (k : Nat) (p0 : vdisk_Disk) (a1 : ByteArray) (p1 : List Int) (r : Int × vdisk_Disk) (h : vdisk_Disk_Append.f k p0 a1 p1 = some r) : Meets Try.prog 34 [(rf 0 0), (st_ a1), (D.one (C.own 1 0 p1.length 1))] [(o_vdisk_Disk_03 false (C.mp 2) (C.opt p0.fuse.isSome 3 0) p0), (or_ e_u8 p1), (om_ e_vdisk_file p0.files), (some (AObj.cells false [(ci (p0.fuse.getD default))]))] (si r.1) [(o_vdisk_Disk_03 false (C.mp 2) (C.opt r.2.fuse.isSome 4 0) r.2), (or_ e_u8 p1), (om_ e_vdisk_file r.2.files), none, (some (AObj.cells false [(ci (r.2.fuse.getD default))]))] := by
 unfold vdisk_Disk_Append.f at h
 refine Meets.of_body (n := 36) Try.func34 rfl rfl (nl rfl) fun x hx => ?_
 replace hx : x.k = 4 := hx
 show AW _ x _ _ ⟨36, fr0 [(rf 0 0), (st_ a1), (D.one (C.own 1 0 p1.length 1))], [(o_vdisk_Disk_03 false (C.mp 2) (C.opt p0.fuse.isSome 3 0) p0), (or_ e_u8 p1), (om_ e_vdisk_file p0.files), (some (AObj.cells false [(ci (p0.fuse.getD default))]))]⟩
 refine AW.weak (st' := ⟨36, (upd 36 (upd 36 (upd 36 topF 0 (rf 0 0)) 1 (st_ a1)) 2 (D.one (C.own 1 0 p1.length 1))), [(o_vdisk_Disk_03 false (C.mp 2) (C.opt p0.fuse.isSome 4 0) p0), (or_ e_u8 p1), (om_ e_vdisk_file p0.files), none, (some (AObj.cells false [(ci (p0.fuse.getD default))]))]⟩) (Weak.genL (kk := 4) [0, 1, 2, 3, 3] [] hx rfl (by decide) rfl rfl rfl rfl (le_upd (le_upd (le_upd (le_top _) (o1 (.ref rfl))) (o1 .sc)) (o1 (.own rfl))) (ac (.cells id (ac (.mp rfl) (ac .sc (ac .sc (ac (.opt rfl) (ac .sc an)))))) (ac (.cells id (all2_row _)) (ac .map (ac (.none _) (ac (.cells id (ac .sc an)) an)))))) (AW.seq (AW.region ?_))
 refine s_assign (d := (si 0)) rfl (AWops.nil (AW.seq (AW.region ?_)))
 refine s_move (d := (rf 0 0)) rfl (s_move (d := (st_ a1)) rfl ?_)
 obtain ⟨r1, er1, h⟩ := bnd h
 refine cc [] [(o_vdisk_Disk_03 false (C.mp 2) (C.opt p0.fuse.isSome 4 0) p0), (or_ e_u8 p1), (om_ e_vdisk_file p0.files), none, (some (AObj.cells false [(ci (p0.fuse.getD default))]))] (sb r1) F.ca_67 rfl rfl (ac (.one .sc) an) an (vdisk_named.meets _ a1 r1 er1) (s_move (d := (st_ a1)) rfl (s_move (d := (D.one (C.own 1 0 p1.length 1))) rfl (s_len (n := p1.length) F.u_22 rfl (.inr ⟨(fun _ _ h => by cases h), ⟨_, rfl⟩⟩) ?_)))
 obtain ⟨r2, er2, h⟩ := bnd h
 refine cc [0, 2, 4] [(o_vdisk_Disk_03 false (C.mp 2) (C.opt r2.2.fuse.isSome 5 0) r2.2), (or_ e_u8 p1), (om_ e_vdisk_file r2.2.files), none, none, (some (AObj.cells false [(ci (r2.2.fuse.getD default))]))] (si r2.1) F.ca_59 rfl rfl (ac (.one (.ref rfl)) (ac (.one .sc) (ac (.one .sc) (ac (.one .sc) (ac (.one .sc) an))))) (ac (.cells (ac (.mp rfl) (ac .sc (ac .sc (ac (.opt rfl) (ac .sc an)))))) (ac .map (ac (.cells (ac .sc an)) an))) (vdisk_Disk_change.meets _ p0 r1 a1 true (p1.length : Int) r2 er2) (s_assign (d := (si r2.1)) rfl (AWops.nil (AW.seq (AW.seq (AW.region (s_move (d := (si r2.1)) rfl (s_binI (v := (.bool (r2.1 == 0))) rfl rfl rfl (AWops.nil ?_))))))))
 rcases itH h with ⟨c3, h⟩ | ⟨c3, h⟩
 ·refine AW.cond_yes rfl c3 (AW.seq (AW.region ?_))
  refine s_move (d := (rf 0 0)) rfl (s_nilCheck (d := (rf 0 0)) rfl (.inl ⟨_, _, rfl⟩) (s_fieldRef F.fo_49_0 (by decide) rfl (s_load1 (c' := (C.mp 2)) F.ag_46 rfl rfl (s_move (d := (st_ a1)) rfl (t_lookup (b := true) F.u_46 F.u_9 F.z_95 (z := ((⟨([] : List Int), 0⟩ : vdisk_file) : vdisk_file)) (zs := [(.slice none 0 0), (.int .i64 0)]) rfl (fun h => by cases h) (ac ZRel.n (ac (ZRel.v _ rfl) an)) rfl rfl rfl rfl ?_)))))
  refine s_alloc (cs := [(C.p true (.v (.slice none 0 0))), (ci 0)]) F.z_95 rfl rfl (s_store (cs' := (c_vdisk_file (lk_vdisk_file a1 r2.2.files))) rfl rfl rfl (List.cons_ne_nil _ _) rfl F.sz_95 (nl rfl) rfl (AWops.nil ?_))
  refine AW.weak (st' := ⟨36, (upd 36 (upd 36 (upd 36 (upd 36 (upd 36 topF 0 (rf 0 0)) 1 (st_ a1)) 2 (D.one (C.own 1 0 p1.length 1))) 7 (si r2.1)) 8 (rf 4 0)), [(o_vdisk_Disk_03 false (C.mp 2) (C.opt r2.2.fuse.isSome 5 0) r2.2), (or_ e_u8 p1), (om_ e_vdisk_file r2.2.files), none, (some (AObj.cells true (c_vdisk_file (lk_vdisk_file a1 r2.2.files)))), (some (AObj.cells false [(ci (r2.2.fuse.getD default))]))]⟩) (wG 4 [0, 1, 2, 3, 6, 5] []) ?_
  obtain ⟨r4, er4, h⟩ := bnd h
  obtain ⟨r5, er5, h⟩ := bnd h
  refine AW.draw2 9 [kf 24 (rf 0 0) [0], kf 25 (st_ a1) [1], kf 26 (rf 4 0) [8], ⟨some 27, (D.one (C.p false (.sl ((lk_vdisk_file a1 r2.2.files).b).length (((lk_vdisk_file a1 r2.2.files).b).flatMap e_u8)))), [26], [4], [], none⟩, kf 28 (D.one (C.own 1 0 p1.length 1)) [2], ⟨some 29, (D.one (C.own 6 0 2 1)), [27, 28], [], [(6, (some (AObj.cells true [(C.p false (.sl ((lk_vdisk_file a1 r2.2.files).b).length (((lk_vdisk_file a1 r2.2.files).b).flatMap e_u8))), (C.own 1 0 p1.length 1)])))], some (6, 1)⟩, ⟨some 30, (D.one (C.p false (.sl r4.length (r4.flatMap e_u8)))), [29], [1, 6], [(6, (some (AObj.cells true [(C.p false (.sl ((lk_vdisk_file a1 r2.2.files).b).length (((lk_vdisk_file a1 r2.2.files).b).flatMap e_u8))), (C.own 1 0 p1.length 1)])))], some (7, 1)⟩, kf 31 (rf 4 1) [8], ⟨some 32, (si ((lk_vdisk_file a1 r2.2.files).sure)), [31], [4], [], none⟩, kf 33 (D.agg [(C.p false (.sl r4.length (r4.flatMap e_u8))), (ci ((lk_vdisk_file a1 r2.2.files).sure))]) [30, 32], ⟨some 34, (D.tup []), [24, 25, 33], [0, 2, 5], [(0, (o_vdisk_Disk_03 false (C.mp 2) (C.opt r5.fuse.isSome 8 0) r5)), (2, (om_ e_vdisk_file r5.files)), (5, none), (8, (some (AObj.cells false [(ci (r5.fuse.getD default))])))], some (8, 1)⟩] ⟨?_, ?_⟩
  ·refine (pA (pA (pE F.fo_95_0 (pE F.ag_22 (pA (pC ?_ (pC ?_ (pE F.fo_95_1 (pE F.ag_3 (pC ?_ (pC ?_ AllStep.nil')))))))))))
   ·intro K rest fr hv htk k
    refine s_buildSlice (n := 2) (ps := [(0, (D.one (C.p false (.sl ((lk_vdisk_file a1 r2.2.files).b).length (((lk_vdisk_file a1 r2.2.files).b).flatMap e_u8))))), (1, (D.one (C.own 1 0 p1.length 1)))]) (cs := [(C.p false (.sl ((lk_vdisk_file a1 r2.2.files).b).length (((lk_vdisk_file a1 r2.2.files).b).flatMap e_u8))), (C.own 1 0 p1.length 1)]) F.u_61 F.sz_22 F.z_22 rfl rfl (by decide) (by decide) rfl rfl ?_
    refine AWops.weak (wD 4 (6, 1) 9 [0, 1, 2, 3, 4, 5, 9, 7, 8] [] (htk (6, 1) rfl)) k
   ·intro K rest fr hv htk k
    show AWops _ x _ _ K ⟨36, (upd 36 fr 29 (D.one (C.own 6 0 2 1))), [(hv 0), (or_ e_u8 p1), (hv 2), (hv 3), (hv 4), (hv 5), (some (AObj.cells true [(C.p false (.sl ((lk_vdisk_file a1 r2.2.files).b).length (((lk_vdisk_file a1 r2.2.files).b).flatMap e_u8))), (C.own 1 0 p1.length 1)])), (hv 7), (hv 8)]⟩
    refine cc [6, 1] [(hv 0), (or_ e_u8 p1), (hv 2), (hv 3), (hv 4), (hv 5), (some (AObj.cells true [(C.p false (.sl ((lk_vdisk_file a1 r2.2.files).b).length (((lk_vdisk_file a1 r2.2.files).b).flatMap e_u8))), (C.own 1 0 p1.length 1)])), (hv 7), (hv 8), (ow_ e_u8 r4)] (D.one (C.own 9 0 r4.length 1)) F.ca_69 rfl rfl (ac (.one (.own rfl)) an) (ac (.cells (ac .imm (ac (.own rfl) an))) (ac (.cells (lend_row _)) an)) (slices_Concat_byte_byte_69.meets _ ((lk_vdisk_file a1 r2.2.files).b) p1 r4 er4) ?_
    refine AWops.weak (wD 4 (7, 1) 9 [0, 1, 2, 3, 4, 5, 6, 7, 8] [9] (htk (7, 1) rfl)) k
   ·intro K rest fr hv htk k
    refine s_build (ps := [(0, (D.one (C.p false (.sl r4.length (r4.flatMap e_u8))))), (1, (si ((lk_vdisk_file a1 r2.2.files).sure)))]) (cs := [(C.p false (.sl r4.length (r4.flatMap e_u8))), (ci ((lk_vdisk_file a1 r2.2.files).sure))]) F.z_95 rfl F.so_95 rfl rfl k
   ·intro K rest fr hv htk k
    refine cc [0, 2, 5] [(o_vdisk_Disk_03 false (C.mp 2) (C.opt r5.fuse.isSome 9 0) r5), (hv 1), (om_ e_vdisk_file r5.files), (hv 3), (hv 4), none, (hv 6), (hv 7), (hv 8), (some (AObj.cells false [(ci (r5.fuse.getD default))]))] (D.tup []) F.ca_68 rfl rfl (ac (.one (.ref rfl)) (ac (.one .sc) (ac (LendT.aggL (ac .imm (ac .sc an))) an))) (ac (.cells (ac (.mp rfl) (ac .sc (ac .sc (ac (.opt rfl) (ac .sc an)))))) (ac .map (ac (.cells (ac .sc an)) an))) (vdisk_Disk_set.meets _ r2.2 a1 (⟨r4, (lk_vdisk_file a1 r2.2.files).sure⟩ : vdisk_file) r5 er5) ?_
    refine AWops.weak (wD 4 (8, 1) 9 [0, 1, 2, 3, 4, 5, 6, 7, 9] [] (htk (8, 1) rfl)) k
  ·refine AWops.weak (st' := ⟨36, (upd 36 topF 7 (si r2.1)), [(o_vdisk_Disk_03 false (C.mp 2) (C.opt r5.fuse.isSome 4 0) r5), (or_ e_u8 p1), (om_ e_vdisk_file r5.files), none, (some (AObj.cells false [(ci (r5.fuse.getD default))]))]⟩) (wG 4 [0, 1, 2, 3, 8] []) (AWops.nil (AW.seq (AW.region ?_)))
   refine s_move (d := (si r2.1)) rfl (s_assign (d := (si r2.1)) rfl (AWops.nil (AW.ret ?_)))
   obtain rfl := Option.some.inj h
   exact ⟨_, rfl, (wG 4 [0, 1, 2, 3, 4] [])⟩
 ·refine AW.cond_no rfl c3 (AW.skip (AW.seq (AW.region ?_)))
  refine s_move (d := (si r2.1)) rfl (s_assign (d := (si r2.1)) rfl (AWops.nil (AW.ret ?_)))
  obtain rfl := Option.some.inj h
  exact ⟨_, rfl, (wG 4 [0, 1, 2, 3, 5] [])⟩
def vdisk_Disk_Sync.f (k : Nat) (p0 : vdisk_Disk) (a1 : ByteArray) : Option (Int × vdisk_Disk) := (vdisk_Disk_change.f k p0 true a1 false 0).bind fun r1 => if (r1.1 == 0) = true then ((vdisk_Disk_set.f k r1.2 a1 (⟨(lk_vdisk_file a1 r1.2.files).b, (((lk_vdisk_file a1 r1.2.files).b).length : Int)⟩ : vdisk_file)).bind fun r3 => some (r1.1, r3)) else (some (r1.1, r1.2))
theorem vdisk_Disk_Sync.meets (k : Nat) (p0 : vdisk_Disk) (a1 : ByteArray) (r : Int × vdisk_Disk) (h : vdisk_Disk_Sync.f k p0 a1 = some r) : Meets Try.prog 37 [(rf 0 0), (st_ a1)] [(o_vdisk_Disk_03 false (C.mp 1) (C.opt p0.fuse.isSome 2 0) p0), (om_ e_vdisk_file p0.files), (some (AObj.cells false [(ci (p0.fuse.getD default))]))] (si r.1) [(o_vdisk_Disk_03 false (C.mp 1) (C.opt r.2.fuse.isSome 3 0) r.2), (om_ e_vdisk_file r.2.files), none, (some (AObj.cells false [(ci (r.2.fuse.getD default))]))] := by
 unfold vdisk_Disk_Sync.f at h
 refine Meets.of_body (n := 27) Try.func37 rfl rfl (nl rfl) fun x hx => ?_
 replace hx : x.k = 3 := hx
 show AW _ x _ _ ⟨27, fr0 [(rf 0 0), (st_ a1)], [(o_vdisk_Disk_03 false (C.mp 1) (C.opt p0.fuse.isSome 2 0) p0), (om_ e_vdisk_file p0.files), (some (AObj.cells false [(ci (p0.fuse.getD default))]))]⟩
 refine AW.weak (st' := ⟨27, (upd 27 (upd 27 topF 0 (rf 0 0)) 1 (st_ a1)), [(o_vdisk_Disk_03 false (C.mp 1) (C.opt p0.fuse.isSome 3 0) p0), (om_ e_vdisk_file p0.files), none, (some (AObj.cells false [(ci (p0.fuse.getD default))]))]⟩) (Weak.genL (kk := 3) [0, 1, 2, 2] [] hx rfl (by decide) rfl rfl rfl rfl (le_upd (le_upd (le_top _) (o1 (.ref rfl))) (o1 .sc)) (ac (.cells id (ac (.mp rfl) (ac .sc (ac .sc (ac (.opt rfl) (ac .sc an)))))) (ac .map (ac (.none _) (ac (.cells id (ac .sc an)) an))))) (AW.seq (AW.region ?_))
 refine s_assign (d := (si 0)) rfl (AWops.nil (AW.seq (AW.region ?_)))
 refine s_move (d := (rf 0 0)) rfl (s_move (d := (st_ a1)) rfl ?_)
 obtain ⟨r1, er1, h⟩ := bnd h
 refine cc [0, 1, 3] [(o_vdisk_Disk_03 false (C.mp 1) (C.opt r1.2.fuse.isSome 4 0) r1.2), (om_ e_vdisk_file r1.2.files), none, none, (some (AObj.cells false [(ci (r1.2.fuse.getD default))]))] (si r1.1) F.ca_59 rfl rfl (ac (.one (.ref rfl)) (ac (.one .sc) (ac (.one .sc) (ac (.one .sc) (ac (.one .sc) an))))) (ac (.cells (ac (.mp rfl) (ac .sc (ac .sc (ac (.opt rfl) (ac .sc an)))))) (ac .map (ac (.cells (ac .sc an)) an))) (vdisk_Disk_change.meets _ p0 true a1 false 0 r1 er1) (s_assign (d := (si r1.1)) rfl (AWops.nil (AW.seq (AW.seq (AW.region (s_move (d := (si r1.1)) rfl (s_binI (v := (.bool (r1.1 == 0))) rfl rfl rfl (AWops.nil ?_))))))))
 rcases itH h with ⟨c2, h⟩ | ⟨c2, h⟩
 ·refine AW.cond_yes rfl c2 (AW.seq (AW.region ?_))
  refine s_move (d := (rf 0 0)) rfl (s_nilCheck (d := (rf 0 0)) rfl (.inl ⟨_, _, rfl⟩) (s_fieldRef F.fo_49_0 (by decide) rfl (s_load1 (c' := (C.mp 1)) F.ag_46 rfl rfl (s_move (d := (st_ a1)) rfl (t_lookup (b := true) F.u_46 F.u_9 F.z_95 (z := ((⟨([] : List Int), 0⟩ : vdisk_file) : vdisk_file)) (zs := [(.slice none 0 0), (.int .i64 0)]) rfl (fun h => by cases h) (ac ZRel.n (ac (ZRel.v _ rfl) an)) rfl rfl rfl rfl ?_)))))
  refine s_field1 (c := (C.p false (.sl ((lk_vdisk_file a1 r1.2.files).b).length (((lk_vdisk_file a1 r1.2.files).b).flatMap e_u8)))) F.fo_95_0 rfl rfl (s_assign (d := (D.one (C.p false (.sl ((lk_vdisk_file a1 r1.2.files).b).length (((lk_vdisk_file a1 r1.2.files).b).flatMap e_u8))))) rfl (AWops.nil (AW.region (s_move (d := (rf 0 0)) rfl (s_move (d := (st_ a1)) rfl (s_move (d := (D.one (C.p false (.sl ((lk_vdisk_file a1 r1.2.files).b).length (((lk_vdisk_file a1 r1.2.files).b).flatMap e_u8))))) rfl (s_move (d := (D.one (C.p false (.sl ((lk_vdisk_file a1 r1.2.files).b).length (((lk_vdisk_file a1 r1.2.files).b).flatMap e_u8))))) rfl ?_)))))))
  refine s_len (n := ((lk_vdisk_file a1 r1.2.files).b).length) F.u_22 rfl (.inr ⟨(fun _ _ h => by cases h), ⟨_, rfl⟩⟩) (s_build (ps := [(0, (D.one (C.p false (.sl ((lk_vdisk_file a1 r1.2.files).b).length (((lk_vdisk_file a1 r1.2.files).b).flatMap e_u8))))), (1, (si (((lk_vdisk_file a1 r1.2.files).b).length : Int)))]) (cs := [(C.p false (.sl ((lk_vdisk_file a1 r1.2.files).b).length (((lk_vdisk_file a1 r1.2.files).b).flatMap e_u8))), (ci (((lk_vdisk_file a1 r1.2.files).b).length : Int))]) F.z_95 rfl F.so_95 rfl rfl ?_)
  obtain ⟨r3, er3, h⟩ := bnd h
  refine cc [0, 1, 4] [(o_vdisk_Disk_03 false (C.mp 1) (C.opt r3.fuse.isSome 5 0) r3), (om_ e_vdisk_file r3.files), none, none, none, (some (AObj.cells false [(ci (r3.fuse.getD default))]))] (D.tup []) F.ca_68 rfl rfl (ac (.one (.ref rfl)) (ac (.one .sc) (ac (LendT.aggL (ac .imm (ac .sc an))) an))) (ac (.cells (ac (.mp rfl) (ac .sc (ac .sc (ac (.opt rfl) (ac .sc an)))))) (ac .map (ac (.cells (ac .sc an)) an))) (vdisk_Disk_set.meets _ r1.2 a1 (⟨(lk_vdisk_file a1 r1.2.files).b, (((lk_vdisk_file a1 r1.2.files).b).length : Int)⟩ : vdisk_file) r3 er3) (AWops.nil (AW.seq (AW.region ?_)))
  refine s_move (d := (si r1.1)) rfl (s_assign (d := (si r1.1)) rfl (AWops.nil (AW.ret ?_)))
  obtain rfl := Option.some.inj h
  exact ⟨_, rfl, (wG 3 [0, 1, 2, 5] [])⟩
 ·refine AW.cond_no rfl c2 (AW.skip (AW.seq (AW.region ?_)))
  refine s_move (d := (si r1.1)) rfl (s_assign (d := (si r1.1)) rfl (AWops.nil (AW.ret ?_)))
  obtain rfl := Option.some.inj h
  exact ⟨_, rfl, (wG 3 [0, 1, 2, 4] [])⟩
def vdisk_Disk_Rename.f (k : Nat) (p0 : vdisk_Disk) (a1 : ByteArray) (a2 : ByteArray) : Option (Int × vdisk_Disk) := (vdisk_named.f k a2).bind fun r1 => (vdisk_Disk_change.f k p0 r1 a1 false 0).bind fun r2 => if (r2.1 == 0) = true then (if (a1.toList == a2.toList) = true then (some (r2.1, r2.2)) else ((vdisk_Disk_cut.f k r2.2 a1).bind fun r5 => (vdisk_Disk_set.f k r5 a2 (lk_vdisk_file a1 r2.2.files)).bind fun r6 => some (r2.1, r6))) else (some (r2.1, r2.2))
theorem vdisk_Disk_Rename.meets (k : Nat) (p0 : vdisk_Disk) (a1 : ByteArray) (a2 : ByteArray) (r : Int × vdisk_Disk) (h : vdisk_Disk_Rename.f k p0 a1 a2 = some r) : Meets Try.prog 39 [(rf 0 0), (st_ a1), (st_ a2)] [(o_vdisk_Disk_03 false (C.mp 1) (C.opt p0.fuse.isSome 2 0) p0), (om_ e_vdisk_file p0.files), (some (AObj.cells false [(ci (p0.fuse.getD default))]))] (si r.1) [(o_vdisk_Disk_03 false (C.mp 1) (C.opt r.2.fuse.isSome 3 0) r.2), (om_ e_vdisk_file r.2.files), none, (some (AObj.cells false [(ci (r.2.fuse.getD default))]))] := by
 unfold vdisk_Disk_Rename.f at h
 refine Meets.of_body (n := 35) Try.func39 rfl rfl (nl rfl) fun x hx => ?_
 replace hx : x.k = 3 := hx
 show AW _ x _ _ ⟨35, fr0 [(rf 0 0), (st_ a1), (st_ a2)], [(o_vdisk_Disk_03 false (C.mp 1) (C.opt p0.fuse.isSome 2 0) p0), (om_ e_vdisk_file p0.files), (some (AObj.cells false [(ci (p0.fuse.getD default))]))]⟩
 refine AW.weak (st' := ⟨35, (upd 35 (upd 35 (upd 35 topF 0 (rf 0 0)) 1 (st_ a1)) 2 (st_ a2)), [(o_vdisk_Disk_03 false (C.mp 1) (C.opt p0.fuse.isSome 3 0) p0), (om_ e_vdisk_file p0.files), none, (some (AObj.cells false [(ci (p0.fuse.getD default))]))]⟩) (Weak.genL (kk := 3) [0, 1, 2, 2] [] hx rfl (by decide) rfl rfl rfl rfl (le_upd (le_upd (le_upd (le_top _) (o1 (.ref rfl))) (o1 .sc)) (o1 .sc)) (ac (.cells id (ac (.mp rfl) (ac .sc (ac .sc (ac (.opt rfl) (ac .sc an)))))) (ac .map (ac (.none _) (ac (.cells id (ac .sc an)) an))))) (AW.seq (AW.region ?_))
 refine s_assign (d := (si 0)) rfl (AWops.nil (AW.seq (AW.region ?_)))
 refine s_move (d := (rf 0 0)) rfl (s_move (d := (st_ a2)) rfl ?_)
 obtain ⟨r1, er1, h⟩ := bnd h
 refine cc [] [(o_vdisk_Disk_03 false (C.mp 1) (C.opt p0.fuse.isSome 3 0) p0), (om_ e_vdisk_file p0.files), none, (some (AObj.cells false [(ci (p0.fuse.getD default))]))] (sb r1) F.ca_67 rfl rfl (ac (.one .sc) an) an (vdisk_named.meets _ a2 r1 er1) (s_move (d := (st_ a1)) rfl ?_)
 obtain ⟨r2, er2, h⟩ := bnd h
 refine cc [0, 1, 3] [(o_vdisk_Disk_03 false (C.mp 1) (C.opt r2.2.fuse.isSome 4 0) r2.2), (om_ e_vdisk_file r2.2.files), none, none, (some (AObj.cells false [(ci (r2.2.fuse.getD default))]))] (si r2.1) F.ca_59 rfl rfl (ac (.one (.ref rfl)) (ac (.one .sc) (ac (.one .sc) (ac (.one .sc) (ac (.one .sc) an))))) (ac (.cells (ac (.mp rfl) (ac .sc (ac .sc (ac (.opt rfl) (ac .sc an)))))) (ac .map (ac (.cells (ac .sc an)) an))) (vdisk_Disk_change.meets _ p0 r1 a1 false 0 r2 er2) (s_assign (d := (si r2.1)) rfl (AWops.nil (AW.seq (AW.seq (AW.region (s_move (d := (si r2.1)) rfl (s_binI (v := (.bool (r2.1 == 0))) rfl rfl rfl (s_move (d := (sb (r2.1 == 0))) rfl ?_))))))))
 rcases itH h with ⟨c3, h⟩ | ⟨c3, h⟩
 ·refine AWops.guard_yes rfl (nl rfl) rfl c3 ?_
  refine s_move (d := (st_ a1)) rfl ?_
  refine AWops.guard_yes rfl (nl rfl) rfl c3 ?_
  refine s_move (d := (st_ a2)) rfl ?_
  refine AWops.guard_yes rfl (nl rfl) rfl c3 ?_
  refine s_binS (v := (.bool (!(a1.toList == a2.toList)))) rfl rfl rfl (s_pick_yes (d := (sb (!(a1.toList == a2.toList)))) rfl c3 rfl (AWops.nil ?_))
  rcases itH h with ⟨c4, h⟩ | ⟨c4, h⟩
  ·refine AW.cond_no rfl (by rw [c4] <;> rfl) (AW.skip (AW.seq (AW.region ?_)))
   refine s_move (d := (si r2.1)) rfl (s_assign (d := (si r2.1)) rfl (AWops.nil (AW.ret ?_)))
   obtain rfl := Option.some.inj h
   exact ⟨_, rfl, (wG 3 [0, 1, 2, 4] [])⟩
  ·refine AW.cond_yes rfl (by rw [c4] <;> rfl) (AW.seq (AW.region ?_))
   refine s_move (d := (rf 0 0)) rfl (s_nilCheck (d := (rf 0 0)) rfl (.inl ⟨_, _, rfl⟩) (s_fieldRef F.fo_49_0 (by decide) rfl (s_load1 (c' := (C.mp 1)) F.ag_46 rfl rfl (s_move (d := (st_ a1)) rfl (t_lookup (b := true) F.u_46 F.u_9 F.z_95 (z := ((⟨([] : List Int), 0⟩ : vdisk_file) : vdisk_file)) (zs := [(.slice none 0 0), (.int .i64 0)]) rfl (fun h => by cases h) (ac ZRel.n (ac (ZRel.v _ rfl) an)) rfl rfl rfl rfl ?_)))))
   refine s_alloc (cs := [(C.p true (.v (.slice none 0 0))), (ci 0)]) F.z_95 rfl rfl (s_store (cs' := (c_vdisk_file (lk_vdisk_file a1 r2.2.files))) rfl rfl rfl (List.cons_ne_nil _ _) rfl F.sz_95 (nl rfl) rfl (AWops.nil (AW.seq (AW.region (s_move (d := (rf 0 0)) rfl (s_move (d := (st_ a1)) rfl ?_))))))
   obtain ⟨r5, er5, h⟩ := bnd h
   refine cc [0, 1, 4] [(o_vdisk_Disk_03 false (C.mp 1) (C.opt r5.fuse.isSome 6 0) r5), (om_ e_vdisk_file r5.files), none, none, none, (some (AObj.cells true (c_vdisk_file (lk_vdisk_file a1 r2.2.files)))), (some (AObj.cells false [(ci (r5.fuse.getD default))]))] (D.tup []) F.ca_60 rfl rfl (ac (.one (.ref rfl)) (ac (.one .sc) an)) (ac (.cells (ac (.mp rfl) (ac .sc (ac .sc (ac (.opt rfl) (ac .sc an)))))) (ac .map (ac (.cells (ac .sc an)) an))) (vdisk_Disk_cut.meets _ r2.2 a1 r5 er5) (AWops.nil (AW.region ?_))
   refine s_move (d := (rf 0 0)) rfl (s_move (d := (st_ a2)) rfl (s_loadN (ds := (c_vdisk_file (lk_vdisk_file a1 r2.2.files))) F.ag_95 F.sz_95 rfl rfl rfl ?_))
   obtain ⟨r6, er6, h⟩ := bnd h
   refine cc [0, 1, 6] [(o_vdisk_Disk_03 false (C.mp 1) (C.opt r6.fuse.isSome 7 0) r6), (om_ e_vdisk_file r6.files), none, none, none, (some (AObj.cells true (c_vdisk_file (lk_vdisk_file a1 r2.2.files)))), none, (some (AObj.cells false [(ci (r6.fuse.getD default))]))] (D.tup []) F.ca_68 rfl rfl (ac (.one (.ref rfl)) (ac (.one .sc) (ac (LendT.aggL (ac .imm (ac .sc an))) an))) (ac (.cells (ac (.mp rfl) (ac .sc (ac .sc (ac (.opt rfl) (ac .sc an)))))) (ac .map (ac (.cells (ac .sc an)) an))) (vdisk_Disk_set.meets _ r5 a2 (lk_vdisk_file a1 r2.2.files) r6 er6) (AWops.nil (AW.seq (AW.region ?_)))
   refine s_move (d := (si r2.1)) rfl (s_assign (d := (si r2.1)) rfl (AWops.nil (AW.ret ?_)))
   obtain rfl := Option.some.inj h
   exact ⟨_, rfl, (wG 3 [0, 1, 2, 7] [])⟩
 ·iterate 3 refine AWops.guard_no rfl (nl rfl) rfl c3 ?_
  refine s_pick_no (d := (sb false)) rfl c3 rfl (AWops.nil ?_)
  refine AW.cond_no rfl rfl (AW.skip (AW.seq (AW.region ?_)))
  refine s_move (d := (si r2.1)) rfl (s_assign (d := (si r2.1)) rfl (AWops.nil (AW.ret ?_)))
  obtain rfl := Option.some.inj h
  exact ⟨_, rfl, (wG 3 [0, 1, 2, 4] [])⟩
def journal_replace.f (k : Nat) (p0 : vdisk_Disk) (a1 : List Int) : Option (Int × vdisk_Disk) := (journal_frame.f k a1).bind fun r1 => (vdisk_Disk_Append.f k p0 (⟨#[106, 111, 117, 114, 110, 97, 108, 46, 110, 101, 119]⟩ : ByteArray) r1).bind fun r2 => if (r2.1 == 0) = true then ((vdisk_Disk_Sync.f k r2.2 (⟨#[106, 111, 117, 114, 110, 97, 108, 46, 110, 101, 119]⟩ : ByteArray)).bind fun r4 => if (r4.1 == 0) = true then ((vdisk_Disk_Rename.f k r4.2 (⟨#[106, 111, 117, 114, 110, 97, 108, 46, 110, 101, 119]⟩ : ByteArray) (⟨#[106, 111, 117, 114, 110, 97, 108]⟩ : ByteArray)).bind fun r6 => some (r6.1, r6.2)) else (some (r4.1, r4.2))) else (some (r2.1, r2.2))
theorem journal_replace.meets (k : Nat) (p0 : vdisk_Disk) (a1 : List Int) (r : Int × vdisk_Disk) (h : journal_replace.f k p0 a1 = some r) : Meets Try.prog 26 [(rf 0 0), (D.one (C.p false (.sl a1.length (a1.flatMap e_u8))))] [(o_vdisk_Disk_03 false (C.mp 1) (C.opt p0.fuse.isSome 2 0) p0), (om_ e_vdisk_file p0.files), (some (AObj.cells false [(ci (p0.fuse.getD default))]))] (si r.1) [(o_vdisk_Disk_03 false (C.mp 1) (C.opt r.2.fuse.isSome 3 0) r.2), (om_ e_vdisk_file r.2.files), none, (some (AObj.cells false [(ci (r.2.fuse.getD default))]))] := by
 unfold journal_replace.f at h
 refine Meets.of_body (n := 19) Try.func26 rfl rfl (nl rfl) fun x hx => ?_
 replace hx : x.k = 3 := hx
 show AW _ x _ _ ⟨19, fr0 [(rf 0 0), (D.one (C.p false (.sl a1.length (a1.flatMap e_u8))))], [(o_vdisk_Disk_03 false (C.mp 1) (C.opt p0.fuse.isSome 2 0) p0), (om_ e_vdisk_file p0.files), (some (AObj.cells false [(ci (p0.fuse.getD default))]))]⟩
 refine AW.weak (st' := ⟨19, (upd 19 (upd 19 topF 0 (rf 0 0)) 1 (D.one (C.p false (.sl a1.length (a1.flatMap e_u8))))), [(o_vdisk_Disk_03 false (C.mp 1) (C.opt p0.fuse.isSome 3 0) p0), (om_ e_vdisk_file p0.files), none, (some (AObj.cells false [(ci (p0.fuse.getD default))]))]⟩) (Weak.genL (kk := 3) [0, 1, 2, 2] [] hx rfl (by decide) rfl rfl rfl rfl (le_upd (le_upd (le_top _) (o1 (.ref rfl))) (o1 .same)) (ac (.cells id (ac (.mp rfl) (ac .sc (ac .sc (ac (.opt rfl) (ac .sc an)))))) (ac .map (ac (.none _) (ac (.cells id (ac .sc an)) an))))) (AW.seq (AW.region ?_))
 refine s_assign (d := (si 0)) rfl (AWops.nil (AW.seq (AW.region ?_)))
 refine s_move (d := (rf 0 0)) rfl (s_move (d := (D.one (C.p false (.sl a1.length (a1.flatMap e_u8))))) rfl ?_)
 obtain ⟨r1, er1, h⟩ := bnd h
 refine cc [] [(o_vdisk_Disk_03 false (C.mp 1) (C.opt p0.fuse.isSome 3 0) p0), (om_ e_vdisk_file p0.files), none, (some (AObj.cells false [(ci (p0.fuse.getD default))])), (ow_ e_u8 r1)] (D.one (C.own 4 0 r1.length 1)) F.ca_49 rfl rfl (ac (.one .imm) an) an (journal_frame.meets _ a1 r1 er1) ?_
 obtain ⟨r2, er2, h⟩ := bnd h
 refine cc [0, 4, 1, 3] [(o_vdisk_Disk_03 false (C.mp 1) (C.opt r2.2.fuse.isSome 5 0) r2.2), (om_ e_vdisk_file r2.2.files), none, none, (ow_ e_u8 r1), (some (AObj.cells false [(ci (r2.2.fuse.getD default))]))] (si r2.1) F.ca_34 rfl rfl (ac (.one (.ref rfl)) (ac (.one .sc) (ac (.one (.own rfl)) an))) (ac (.cells (ac (.mp rfl) (ac .sc (ac .sc (ac (.opt rfl) (ac .sc an)))))) (ac (.cells (lend_row _)) (ac .map (ac (.cells (ac .sc an)) an)))) (vdisk_Disk_Append.meets _ p0 (⟨#[106, 111, 117, 114, 110, 97, 108, 46, 110, 101, 119]⟩ : ByteArray) r1 r2 er2) (s_assign (d := (si r2.1)) rfl (AWops.nil (AW.seq (AW.seq (AW.region (s_move (d := (si r2.1)) rfl (s_binI (v := (.bool (r2.1 == 0))) rfl rfl rfl (AWops.nil ?_))))))))
 rcases itH h with ⟨c3, h⟩ | ⟨c3, h⟩
 ·refine AW.cond_yes rfl c3 (AW.region ?_)
  refine s_move (d := (rf 0 0)) rfl ?_
  obtain ⟨r4, er4, h⟩ := bnd h
  refine cc [0, 1, 5] [(o_vdisk_Disk_03 false (C.mp 1) (C.opt r4.2.fuse.isSome 6 0) r4.2), (om_ e_vdisk_file r4.2.files), none, none, (ow_ e_u8 r1), none, (some (AObj.cells false [(ci (r4.2.fuse.getD default))]))] (si r4.1) F.ca_37 rfl rfl (ac (.one (.ref rfl)) (ac (.one .sc) an)) (ac (.cells (ac (.mp rfl) (ac .sc (ac .sc (ac (.opt rfl) (ac .sc an)))))) (ac .map (ac (.cells (ac .sc an)) an))) (vdisk_Disk_Sync.meets _ r2.2 (⟨#[106, 111, 117, 114, 110, 97, 108, 46, 110, 101, 119]⟩ : ByteArray) r4 er4) (s_assign (d := (si r4.1)) rfl (AWops.nil (AW.seq (AW.seq (AW.region (s_move (d := (si r4.1)) rfl (s_binI (v := (.bool (r4.1 == 0))) rfl rfl rfl (AWops.nil ?_))))))))
  rcases itH h with ⟨c5, h⟩ | ⟨c5, h⟩
  ·refine AW.cond_yes rfl c5 (AW.region ?_)
   refine s_move (d := (rf 0 0)) rfl ?_
   obtain ⟨r6, er6, h⟩ := bnd h
   refine cc [0, 1, 6] [(o_vdisk_Disk_03 false (C.mp 1) (C.opt r6.2.fuse.isSome 7 0) r6.2), (om_ e_vdisk_file r6.2.files), none, none, (ow_ e_u8 r1), none, none, (some (AObj.cells false [(ci (r6.2.fuse.getD default))]))] (si r6.1) F.ca_39 rfl rfl (ac (.one (.ref rfl)) (ac (.one .sc) (ac (.one .sc) an))) (ac (.cells (ac (.mp rfl) (ac .sc (ac .sc (ac (.opt rfl) (ac .sc an)))))) (ac .map (ac (.cells (ac .sc an)) an))) (vdisk_Disk_Rename.meets _ r4.2 (⟨#[106, 111, 117, 114, 110, 97, 108, 46, 110, 101, 119]⟩ : ByteArray) (⟨#[106, 111, 117, 114, 110, 97, 108]⟩ : ByteArray) r6 er6) (s_assign (d := (si r6.1)) rfl (AWops.nil (AW.seq (AW.region (s_move (d := (si r6.1)) rfl (s_assign (d := (si r6.1)) rfl (AWops.nil (AW.ret ?_))))))))
   obtain rfl := Option.some.inj h
   exact ⟨_, rfl, (wG 3 [0, 1, 2, 7] [])⟩
  ·refine AW.cond_no rfl c5 (AW.skip (AW.seq (AW.region ?_)))
   refine s_move (d := (si r4.1)) rfl (s_assign (d := (si r4.1)) rfl (AWops.nil (AW.ret ?_)))
   obtain rfl := Option.some.inj h
   exact ⟨_, rfl, (wG 3 [0, 1, 2, 6] [])⟩
 ·refine AW.cond_no rfl c3 (AW.skip (AW.seq (AW.seq (AW.region ?_))))
  refine s_move (d := (si r2.1)) rfl (s_binI (v := (.bool (r2.1 == 0))) rfl rfl rfl (AWops.nil ?_))
  refine AW.cond_no rfl c3 (AW.skip (AW.seq (AW.region ?_)))
  refine s_move (d := (si r2.1)) rfl (s_assign (d := (si r2.1)) rfl (AWops.nil (AW.ret ?_)))
  obtain rfl := Option.some.inj h
  exact ⟨_, rfl, (wG 3 [0, 1, 2, 5] [])⟩
mutual
def journal_Open.j0 : Nat → Bool → (List Int) → (Int × vdisk_Disk) → Option ((Option journal_Journal) × Int × vdisk_Disk)
 | 0, _, _, _ => none
 | k + 1, x3, a1, r1 => if x3 = true then ((vdisk_Disk_Read.f k r1.2 (⟨#[106, 111, 117, 114, 110, 97, 108]⟩ : ByteArray)).bind fun r5 => if (r5.2 == 0) = true then ((journal_Journal_scan.f k (⟨(), ([] : List Int), ([] : List (List Int)), false⟩ : journal_Journal) r5.1 r1.2).bind fun r7 => optE r7.1 (some ((none : Option journal_Journal), r7.2.1, r7.2.2.2)) (fun y9 => some (some r7.2.2.1, r7.2.1, r7.2.2.2))) else (if (r5.2 != 33) = true then (some ((none : Option journal_Journal), r5.2, r1.2)) else (if (decide ((a1.length : Int) > 4194304)) = true then (some ((none : Option journal_Journal), 1, r1.2)) else ((journal_replace.f k r1.2 a1).bind fun r12 => if (r12.1 != 0) = true then (some ((none : Option journal_Journal), r12.1, r12.2)) else ((slices_Clone_byte_byte.f k a1).bind fun r14 => some (some (⟨(), r14, ([] : List (List Int)), false⟩ : journal_Journal), 0, r12.2)))))) else (some ((none : Option journal_Journal), r1.1, r1.2))
end
def journal_Open.f (k : Nat) (p0 : vdisk_Disk) (a1 : List Int) : Option ((Option journal_Journal) × Int × vdisk_Disk) := (vdisk_Disk_Remove.f k p0 (⟨#[106, 111, 117, 114, 110, 97, 108, 46, 110, 101, 119]⟩ : ByteArray)).bind fun r1 => if (r1.1 == 0) = true then (journal_Open.j0 k (r1.1 == 0) a1 r1) else (journal_Open.j0 k (r1.1 == 33) a1 r1)
theorem journal_Open.meets (k : Nat) (p0 : vdisk_Disk) (a1 : List Int) (r : (Option journal_Journal) × Int × vdisk_Disk) (h : journal_Open.f k p0 a1 = some r) : Meets Try.prog 10 [(rf 0 0), (D.one (C.p false (.sl a1.length (a1.flatMap e_u8))))] [(o_vdisk_Disk_03 false (C.mp 1) (C.opt p0.fuse.isSome 2 0) p0), (om_ e_vdisk_file p0.files), (some (AObj.cells false [(ci (p0.fuse.getD default))]))] (optE r.1 (D.tup [(sc (.pointer none)), (si r.2.1)]) (fun z1 : journal_Journal => (D.tup [(rf 4 0), (si r.2.1)]))) (optE r.1 [(o_vdisk_Disk_03 false (C.mp 1) (C.opt r.2.2.fuse.isSome 3 0) r.2.2), (om_ e_vdisk_file r.2.2.files), none, (some (AObj.cells false [(ci (r.2.2.fuse.getD default))]))] (fun z1 : journal_Journal => [(o_vdisk_Disk_03 false (C.mp 1) (C.opt r.2.2.fuse.isSome 3 0) r.2.2), (om_ e_vdisk_file r.2.2.files), none, (some (AObj.cells false [(ci (r.2.2.fuse.getD default))])), (o_journal_Journal_02 true (C.ref 0 0) (C.own 5 0 z1.l.length 1) z1), (some (AObj.cells false (rowC (e_sl e_u8) z1.l)))])) := by
 unfold journal_Open.f at h
 refine Meets.of_body (n := 54) Try.func10 rfl rfl (nl rfl) fun x hx => ?_
 replace hx : x.k = 3 := hx
 show AW _ x _ _ ⟨54, fr0 [(rf 0 0), (D.one (C.p false (.sl a1.length (a1.flatMap e_u8))))], [(o_vdisk_Disk_03 false (C.mp 1) (C.opt p0.fuse.isSome 2 0) p0), (om_ e_vdisk_file p0.files), (some (AObj.cells false [(ci (p0.fuse.getD default))]))]⟩
 refine AW.weak (st' := ⟨54, (upd 54 (upd 54 topF 0 (rf 0 0)) 1 (D.one (C.p false (.sl a1.length (a1.flatMap e_u8))))), [(o_vdisk_Disk_03 false (C.mp 1) (C.opt p0.fuse.isSome 3 0) p0), (om_ e_vdisk_file p0.files), none, (some (AObj.cells false [(ci (p0.fuse.getD default))]))]⟩) (Weak.genL (kk := 3) [0, 1, 2, 2] [] hx rfl (by decide) rfl rfl rfl rfl (le_upd (le_upd (le_top _) (o1 (.ref rfl))) (o1 .same)) (ac (.cells id (ac (.mp rfl) (ac .sc (ac .sc (ac (.opt rfl) (ac .sc an)))))) (ac .map (ac (.none _) (ac (.cells id (ac .sc an)) an))))) (AW.seq (AW.region ?_))
 refine s_assign (d := (sc (.pointer none))) rfl (s_assign (d := (si 0)) rfl (AWops.nil (AW.seq (AW.seq (AW.region (s_move (d := (rf 0 0)) rfl ?_))))))
 obtain ⟨r1, er1, h⟩ := bnd h
 refine cc [0, 1, 3] [(o_vdisk_Disk_03 false (C.mp 1) (C.opt r1.2.fuse.isSome 4 0) r1.2), (om_ e_vdisk_file r1.2.files), none, none, (some (AObj.cells false [(ci (r1.2.fuse.getD default))]))] (si r1.1) F.ca_23 rfl rfl (ac (.one (.ref rfl)) (ac (.one .sc) an)) (ac (.cells (ac (.mp rfl) (ac .sc (ac .sc (ac (.opt rfl) (ac .sc an)))))) (ac .map (ac (.cells (ac .sc an)) an))) (vdisk_Disk_Remove.meets _ p0 (⟨#[106, 111, 117, 114, 110, 97, 108, 46, 110, 101, 119]⟩ : ByteArray) r1 er1) (s_assign (d := (si r1.1)) rfl (AWops.nil (AW.seq (AW.region (s_move (d := (si r1.1)) rfl (AWops.nil (AW.block ?_)))))))
 refine AW.seqJ (fun st => ∃ (x3 : Bool), journal_Open.j0 k x3 a1 r1 = some r ∧ st = ⟨54, (upd 54 (upd 54 (upd 54 (upd 54 topF 0 (rf 0 0)) 1 (D.one (C.p false (.sl a1.length (a1.flatMap e_u8))))) 6 (si r1.1)) 15 (sb x3)), [(o_vdisk_Disk_03 false (C.mp 1) (C.opt r1.2.fuse.isSome 3 0) r1.2), (om_ e_vdisk_file r1.2.files), none, (some (AObj.cells false [(ci (r1.2.fuse.getD default))]))]⟩) ?_ ?_
 ·refine AW.seq (AW.region ?_)
  refine s_binI (v := (.bool (r1.1 == 0))) rfl rfl rfl (s_assign (d := (sb (r1.1 == 0))) rfl (AWops.nil ?_))
  rcases itH h with ⟨c2, h⟩ | ⟨c2, h⟩
  ·refine AW.cond_yes rfl c2 (AW.skip ?_)
   exact ⟨⟨54, (upd 54 (upd 54 (upd 54 (upd 54 topF 0 (rf 0 0)) 1 (D.one (C.p false (.sl a1.length (a1.flatMap e_u8))))) 6 (si r1.1)) 15 (sb (r1.1 == 0))), [(o_vdisk_Disk_03 false (C.mp 1) (C.opt r1.2.fuse.isSome 3 0) r1.2), (om_ e_vdisk_file r1.2.files), none, (some (AObj.cells false [(ci (r1.2.fuse.getD default))]))]⟩, (wG 3 [0, 1, 2, 4] []), (r1.1 == 0), h, rfl⟩
  ·refine AW.cond_no rfl c2 (AW.region ?_)
   refine s_binI (v := (.bool (r1.1 == 33))) rfl rfl rfl (s_assign (d := (sb (r1.1 == 33))) rfl (AWops.nil ?_))
   exact ⟨⟨54, (upd 54 (upd 54 (upd 54 (upd 54 topF 0 (rf 0 0)) 1 (D.one (C.p false (.sl a1.length (a1.flatMap e_u8))))) 6 (si r1.1)) 15 (sb (r1.1 == 33))), [(o_vdisk_Disk_03 false (C.mp 1) (C.opt r1.2.fuse.isSome 3 0) r1.2), (om_ e_vdisk_file r1.2.files), none, (some (AObj.cells false [(ci (r1.2.fuse.getD default))]))]⟩, (wG 3 [0, 1, 2, 4] []), (r1.1 == 33), h, rfl⟩
 ·rintro st ⟨x3, h, rfl⟩
  cases k with
  | zero => exact absurd h (by simp [journal_Open.j0])
  | succ qj0 =>
   replace h := (journal_Open.j0.eq_2 _ _ _ _).symm.trans h
   rcases itH h with ⟨c4, h⟩ | ⟨c4, h⟩
   ·refine AW.cond_yes rfl c4 (AW.skip (AW.seq (AW.region ?_)))
    refine s_move (d := (rf 0 0)) rfl (s_build (ps := [(0, (rf 0 0))]) (cs := [(C.ref 0 0), (C.p true (.v (.slice none 0 0))), (C.p true (.v (.slice none 0 0))), (cb false)]) F.z_68 rfl F.so_68 rfl rfl (s_box (cs := [(C.ref 0 0), (C.p true (.v (.slice none 0 0))), (C.p true (.v (.slice none 0 0))), (cb false)]) rfl (List.cons_ne_nil _ _) rfl (s_assign (d := (rf 4 0)) rfl (AWops.nil (AW.seq (AW.region (s_move (d := (rf 0 0)) rfl ?_)))))))
    obtain ⟨r5, er5, h⟩ := bnd h
    refine cc [0, 1, 3] [(o_vdisk_Disk_03 false (C.mp 1) (C.opt r1.2.fuse.isSome 5 0) r1.2), (om_ e_vdisk_file r1.2.files), none, none, (some (AObj.cells true [(C.ref 0 0), (C.p true (.v (.slice none 0 0))), (C.p true (.v (.slice none 0 0))), (cb false)])), (some (AObj.cells false [(ci (r1.2.fuse.getD default))]))] (D.tup [(D.one (C.p false (.sl r5.1.length (r5.1.flatMap e_u8)))), (si r5.2)]) F.ca_24 rfl rfl (ac (.one (.ref rfl)) (ac (.one .sc) an)) (ac (.cells (ac (.mp rfl) (ac .sc (ac .sc (ac (.opt rfl) (ac .sc an)))))) (ac .map (ac (.cells (ac .sc an)) an))) (vdisk_Disk_Read.meets _ r1.2 (⟨#[106, 111, 117, 114, 110, 97, 108]⟩ : ByteArray) r5 er5) (s_move (d := (D.tup [(D.one (C.p false (.sl r5.1.length (r5.1.flatMap e_u8)))), (si r5.2)])) rfl (s_extract (d := (D.one (C.p false (.sl r5.1.length (r5.1.flatMap e_u8))))) rfl rfl (s_extract (d := (si r5.2)) rfl rfl (s_assign (d := (D.one (C.p false (.sl r5.1.length (r5.1.flatMap e_u8))))) rfl (s_assign (d := (si r5.2)) rfl (AWops.nil (AW.seq (AW.block (AW.seq (AW.region ?_))))))))))
    refine s_move (d := (si r5.2)) rfl (s_binI (v := (.bool (r5.2 == 0))) rfl rfl rfl (s_assign (d := (sb (r5.2 == 0))) rfl (AWops.nil ?_)))
    rcases itH h with ⟨c6, h⟩ | ⟨c6, h⟩
    ·refine AW.cond_yes rfl c6 (AW.seq (AW.region ?_))
     refine s_move (d := (rf 4 0)) rfl (s_move (d := (D.one (C.p false (.sl r5.1.length (r5.1.flatMap e_u8))))) rfl ?_)
     obtain ⟨r7, er7, h⟩ := bnd h
     rcases optH h with ⟨c8, h⟩ | ⟨y9, c8, h⟩
     ·refine AWops.weak (Weak.nilC (t := 4) (j := 2) (sz := 1) rfl rfl rfl) ?_
      refine cc [4, 0, 1, 6, 5] [(o_vdisk_Disk_03 false (C.mp 1) (C.opt r7.2.2.2.fuse.isSome 8 0) r7.2.2.2), (om_ e_vdisk_file r7.2.2.2.files), none, none, (o_journal_Journal_02 true (C.ref 0 0) (C.own 7 0 r7.2.2.1.l.length 1) r7.2.2.1), none, none, (some (AObj.cells false (rowC (e_sl e_u8) r7.2.2.1.l))), (some (AObj.cells false [(ci (r7.2.2.2.fuse.getD default))]))] (D.tup [(sc (.pointer none)), (si r7.2.1)]) F.ca_25 rfl rfl (ac (.one (.ref rfl)) (ac (.one .imm) an)) (ac (.cells (ac (.ref rfl) (ac .nil (ac (.own rfl) (ac .sc an))))) (ac (.cells (ac (.mp rfl) (ac .sc (ac .sc (ac (.opt rfl) (ac .sc an)))))) (ac .map (ac (.cells an) (ac (.cells (ac .sc an)) an))))) (Meets.eqs (optE_none c8) (optE_none c8) (journal_Journal_scan.meets _ (⟨(), ([] : List Int), ([] : List (List Int)), false⟩ : journal_Journal) r5.1 r1.2 r7 er7)) (s_extract (d := (sc (.pointer none))) rfl rfl (s_extract (d := (si r7.2.1)) rfl rfl (s_assign (d := (sc (.pointer none))) rfl (s_assign (d := (si r7.2.1)) rfl (AWops.nil (AW.ret ?_))))))
      obtain rfl := Option.some.inj h
      exact ⟨_, rfl, (wG 3 [0, 1, 2, 8] [])⟩
     ·refine AWops.weak (Weak.nilC (t := 4) (j := 2) (sz := 1) rfl rfl rfl) ?_
      refine cc [4, 0, 1, 6, 5] [(o_vdisk_Disk_03 false (C.mp 1) (C.opt r7.2.2.2.fuse.isSome 8 0) r7.2.2.2), (om_ e_vdisk_file r7.2.2.2.files), none, none, (o_journal_Journal_02 true (C.ref 0 0) (C.own 7 0 r7.2.2.1.l.length 1) r7.2.2.1), none, none, (some (AObj.cells false (rowC (e_sl e_u8) r7.2.2.1.l))), (some (AObj.cells false [(ci (r7.2.2.2.fuse.getD default))]))] (D.tup [(rf 4 0), (si r7.2.1)]) F.ca_25 rfl rfl (ac (.one (.ref rfl)) (ac (.one .imm) an)) (ac (.cells (ac (.ref rfl) (ac .nil (ac (.own rfl) (ac .sc an))))) (ac (.cells (ac (.mp rfl) (ac .sc (ac .sc (ac (.opt rfl) (ac .sc an)))))) (ac .map (ac (.cells an) (ac (.cells (ac .sc an)) an))))) (Meets.eqs (optE_some c8) (optE_some c8) (journal_Journal_scan.meets _ (⟨(), ([] : List Int), ([] : List (List Int)), false⟩ : journal_Journal) r5.1 r1.2 r7 er7)) (s_extract (d := (rf 4 0)) rfl rfl (s_extract (d := (si r7.2.1)) rfl rfl (s_assign (d := (rf 4 0)) rfl (s_assign (d := (si r7.2.1)) rfl (AWops.nil (AW.ret ?_))))))
      obtain rfl := Option.some.inj h
      exact ⟨_, rfl, (wG 3 [0, 1, 2, 8, 4, 7] [])⟩
    ·refine AW.cond_no rfl c6 (AW.seq (AW.region ?_))
     refine s_move (d := (si r5.2)) rfl (s_binI (v := (.bool (r5.2 != 33))) rfl rfl rfl (s_assign (d := (sb (r5.2 != 33))) rfl (AWops.nil ?_)))
     rcases itH h with ⟨c10, h⟩ | ⟨c10, h⟩
     ·refine AW.cond_yes rfl c10 (AW.seq (AW.region ?_))
      refine s_move (d := (si r5.2)) rfl (s_assign (d := (sc (.pointer none))) rfl (s_assign (d := (si r5.2)) rfl (AWops.nil (AW.ret ?_))))
      obtain rfl := Option.some.inj h
      exact ⟨_, rfl, (wG 3 [0, 1, 2, 5] [])⟩
     ·refine AW.cond_no rfl c10 (AW.seq (AW.region ?_))
      refine s_move (d := (D.one (C.p false (.sl a1.length (a1.flatMap e_u8))))) rfl (s_len (n := a1.length) F.u_22 rfl (.inr ⟨(fun _ _ h => by cases h), ⟨_, rfl⟩⟩) (s_binI (v := (.bool (decide ((a1.length : Int) > 4194304)))) rfl rfl rfl (s_assign (d := (sb (decide ((a1.length : Int) > 4194304)))) rfl (AWops.nil ?_))))
      rcases itH h with ⟨c11, h⟩ | ⟨c11, h⟩
      ·refine AW.cond_yes rfl c11 (AW.seq (AW.region ?_))
       refine s_assign (d := (sc (.pointer none))) rfl (s_assign (d := (si 1)) rfl (AWops.nil (AW.ret ?_)))
       obtain rfl := Option.some.inj h
       exact ⟨_, rfl, (wG 3 [0, 1, 2, 5] [])⟩
      ·refine AW.cond_no rfl c11 (AW.skip (AW.seq (AW.seq (AW.region ?_))))
       refine s_move (d := (rf 0 0)) rfl (s_move (d := (D.one (C.p false (.sl a1.length (a1.flatMap e_u8))))) rfl ?_)
       obtain ⟨r12, er12, h⟩ := bnd h
       refine cc [0, 1, 5] [(o_vdisk_Disk_03 false (C.mp 1) (C.opt r12.2.fuse.isSome 6 0) r12.2), (om_ e_vdisk_file r12.2.files), none, none, (some (AObj.cells true [(C.ref 0 0), (C.p true (.v (.slice none 0 0))), (C.p true (.v (.slice none 0 0))), (cb false)])), none, (some (AObj.cells false [(ci (r12.2.fuse.getD default))]))] (si r12.1) F.ca_26 rfl rfl (ac (.one (.ref rfl)) (ac (.one .imm) an)) (ac (.cells (ac (.mp rfl) (ac .sc (ac .sc (ac (.opt rfl) (ac .sc an)))))) (ac .map (ac (.cells (ac .sc an)) an))) (journal_replace.meets _ r1.2 a1 r12 er12) (s_assign (d := (si r12.1)) rfl (AWops.nil (AW.seq (AW.region (s_move (d := (si r12.1)) rfl (s_binI (v := (.bool (r12.1 != 0))) rfl rfl rfl (AWops.nil ?_)))))))
       rcases itH h with ⟨c13, h⟩ | ⟨c13, h⟩
       ·refine AW.cond_yes rfl c13 (AW.seq (AW.region ?_))
        refine s_move (d := (si r12.1)) rfl (s_assign (d := (sc (.pointer none))) rfl (s_assign (d := (si r12.1)) rfl (AWops.nil (AW.ret ?_))))
        obtain rfl := Option.some.inj h
        exact ⟨_, rfl, (wG 3 [0, 1, 2, 6] [])⟩
       ·refine AW.cond_no rfl c13 (AW.skip (AW.seq (AW.region ?_)))
        refine s_move (d := (rf 4 0)) rfl (s_move (d := (D.one (C.p false (.sl a1.length (a1.flatMap e_u8))))) rfl ?_)
        obtain ⟨r14, er14, h⟩ := bnd h
        refine cc [] [(o_vdisk_Disk_03 false (C.mp 1) (C.opt r12.2.fuse.isSome 6 0) r12.2), (om_ e_vdisk_file r12.2.files), none, none, (some (AObj.cells true [(C.ref 0 0), (C.p true (.v (.slice none 0 0))), (C.p true (.v (.slice none 0 0))), (cb false)])), none, (some (AObj.cells false [(ci (r12.2.fuse.getD default))])), (ow_ e_u8 r14)] (D.one (C.own 7 0 r14.length 1)) F.ca_27 rfl rfl (ac (.one .imm) an) an (slices_Clone_byte_byte.meets _ a1 r14 er14) (s_nilCheck (d := (rf 4 0)) rfl (.inl ⟨_, _, rfl⟩) (s_fieldRef F.fo_68_1 (by decide) rfl (s_store (cs' := [(C.ref 0 0), (C.own 7 0 r14.length 1), (C.p true (.v (.slice none 0 0))), (cb false)]) rfl rfl rfl (List.cons_ne_nil _ _) rfl F.sz_22 (nl rfl) rfl (AWops.nil (AW.seq (AW.region (s_move (d := (rf 4 0)) rfl (s_assign (d := (rf 4 0)) rfl ?_))))))))
        refine s_assign (d := (si 0)) rfl (AWops.nil (AW.ret ?_))
        obtain rfl := Option.some.inj h
        exact ⟨_, rfl, (Weak.trans (Weak.nilC (t := 4) (j := 2) (sz := 1) rfl rfl rfl) (wG 3 [0, 1, 2, 6, 4, 8] [7]))⟩
   ·refine AW.cond_no rfl c4 (AW.seq (AW.region ?_))
    refine s_move (d := (si r1.1)) rfl (s_assign (d := (sc (.pointer none))) rfl (s_assign (d := (si r1.1)) rfl (AWops.nil (AW.ret ?_))))
    obtain rfl := Option.some.inj h
    exact ⟨_, rfl, (wG 3 [0, 1, 2, 3] [])⟩
mutual
def dossierref03_Disk_place.l0 : Nat → Int → dossierref03_Disk → ByteArray → Option (Int × Bool)
 | 0, _, _, _ => none
 | k + 1, x1, p0, a1 => if (decide (x1 < (p0.L.length : Int))) = true then ((rd p0.L x1).bind fun v3 => if (Op.bytesLess v3.Name.toList a1.toList) = true then (dossierref03_Disk_place.l0 k (IntKind.i64.wrap (x1 + 1)) p0 a1) else ((rd p0.L x1).bind fun v6 => some (x1, (v6.Name.toList == a1.toList)))) else (some (x1, false))
end
def dossierref03_Disk_place.f (k : Nat) (p0 : dossierref03_Disk) (a1 : ByteArray) : Option (Int × Bool) := dossierref03_Disk_place.l0 k 0 p0 a1
theorem dossierref03_Disk_place.meets (k : Nat) (p0 : dossierref03_Disk) (a1 : ByteArray) (r : Int × Bool) (h : dossierref03_Disk_place.f k p0 a1 = some r) : Meets Try.prog 71 [(rf 0 0), (st_ a1)] [(o_dossierref03_Disk_0 false (C.own 1 0 p0.L.length 3) p0), (or_ e_dossierref03_File p0.L)] (D.tup [(si r.1), (sb r.2)]) [(o_dossierref03_Disk_0 false (C.own 1 0 p0.L.length 3) p0), (or_ e_dossierref03_File p0.L)] := by
 unfold dossierref03_Disk_place.f at h
 refine Meets.of_body (n := 48) Try.func71 rfl rfl (nl rfl) fun x hx => ?_
 replace hx : x.k = 2 := hx
 show AW _ x _ _ ⟨48, fr0 [(rf 0 0), (st_ a1)], [(o_dossierref03_Disk_0 false (C.own 1 0 p0.L.length 3) p0), (or_ e_dossierref03_File p0.L)]⟩
 refine AW.seq (AW.region ?_)
 refine s_assign (d := (si 0)) rfl (s_assign (d := (sb false)) rfl (AWops.nil (AW.seq (AW.region (s_assign (d := (si 0)) rfl (AWops.nil (AW.seq (AW.block ?_))))))))
 refine AW.loopw (st0 := ⟨48, (upd 48 (upd 48 (upd 48 topF 0 (rf 0 0)) 1 (st_ a1)) 6 (si 0)), [(o_dossierref03_Disk_0 false (C.own 1 0 p0.L.length 3) p0), (or_ e_dossierref03_File p0.L)]⟩) (fun kv st => kv ≤ k ∧ ∃ (x1 : Int), dossierref03_Disk_place.l0 kv x1 p0 a1 = some r ∧ st = ⟨48, (upd 48 (upd 48 (upd 48 topF 0 (rf 0 0)) 1 (st_ a1)) 6 (si x1)), [(o_dossierref03_Disk_0 false (C.own 1 0 p0.L.length 3) p0), (or_ e_dossierref03_File p0.L)]⟩) (k := k) (wG 2 [0, 1] []) ⟨Nat.le_refl _, 0, h, rfl⟩ ?_
 rintro ql0 st ⟨hkl0, x1, h, rfl⟩
 cases ql0 with
 | zero => exact absurd h (by simp [dossierref03_Disk_place.l0])
 | succ ql0 =>
  replace h := (dossierref03_Disk_place.l0.eq_2 _ _ _ _).symm.trans h
  refine AW.seq (AW.seq (AW.region ?_))
  refine s_move (d := (si x1)) rfl (s_move (d := (rf 0 0)) rfl (s_nilCheck (d := (rf 0 0)) rfl (.inl ⟨_, _, rfl⟩) (s_fieldRef F.fo_52_0 (by decide) rfl (s_load1 (c' := (C.own 1 0 p0.L.length 3)) F.ag_50 rfl rfl (s_len (n := p0.L.length) F.u_50 rfl (.inr ⟨(fun _ _ h => by cases h), ⟨_, rfl⟩⟩) ?_)))))
  refine s_binI (v := (.bool (decide (x1 < (p0.L.length : Int))))) rfl rfl rfl (s_move (d := (sb (decide (x1 < (p0.L.length : Int))))) rfl ?_)
  rcases itH h with ⟨c2, h⟩ | ⟨c2, h⟩
  ·refine AWops.guard_yes rfl (nl rfl) rfl c2 ?_
   refine s_move (d := (rf 0 0)) rfl ?_
   refine AWops.guard_yes rfl (nl rfl) rfl c2 ?_
   refine s_nilCheck (d := (rf 0 0)) rfl (.inl ⟨_, _, rfl⟩) ?_
   refine AWops.guard_yes rfl (nl rfl) rfl c2 ?_
   refine s_fieldRef F.fo_52_0 (by decide) rfl ?_
   refine AWops.guard_yes rfl (nl rfl) rfl c2 ?_
   refine s_load1 (c' := (C.own 1 0 p0.L.length 3)) F.ag_50 rfl rfl ?_
   refine AWops.guard_yes rfl (nl rfl) rfl c2 ?_
   refine s_move (d := (si x1)) rfl ?_
   refine AWops.guard_yes rfl (nl rfl) rfl c2 ?_
   obtain ⟨v3, ev3, h⟩ := bnd h
   obtain ⟨pv3, qv3, gv3⟩ := rd_some ev3
   refine s_indexOwn (d := (D.one (C.er 1 (0 + x1.toNat * 3)))) F.u_50 F.sz_90 rfl rfl pv3 qv3 rfl ?_
   refine AWops.guard_yes rfl (nl rfl) rfl c2 ?_
   refine s_fieldEr F.fo_90_0 (by decide) rfl ?_
   refine AWops.guard_yes rfl (nl rfl) rfl c2 ?_
   obtain ⟨R4, hR4⟩ := row_at (f := e_dossierref03_File) (sz := 3) (o := 0) e_dossierref03_File_len gv3 (e_dossierref03_File_eq v3) (by decide)
   refine s_load1 (c' := (ct v3.Name)) F.ag_9 (congrArg some hR4) rfl ?_
   refine AWops.guard_yes rfl (nl rfl) rfl c2 ?_
   refine s_move (d := (st_ a1)) rfl ?_
   refine AWops.guard_yes rfl (nl rfl) rfl c2 ?_
   refine s_binS (v := (.bool (Op.bytesLess v3.Name.toList a1.toList))) rfl rfl rfl (s_pick_yes (d := (sb (Op.bytesLess v3.Name.toList a1.toList))) rfl c2 rfl (AWops.nil ?_))
   rcases itH h with ⟨c5, h⟩ | ⟨c5, h⟩
   ·refine AW.cond_yes rfl c5 (AW.skip (AW.block (AW.region ?_)))
    refine s_move (d := (si x1)) rfl (s_binI (v := (.int .i64 (IntKind.i64.wrap (x1 + 1)))) rfl rfl rfl (s_assign (d := (si (IntKind.i64.wrap (x1 + 1)))) rfl (AWops.nil ?_)))
    exact ⟨_, ⟨48, (upd 48 (upd 48 (upd 48 topF 0 (rf 0 0)) 1 (st_ a1)) 6 (si (IntKind.i64.wrap (x1 + 1)))), [(o_dossierref03_Disk_0 false (C.own 1 0 p0.L.length 3) p0), (or_ e_dossierref03_File p0.L)]⟩, by omega, (wG 2 [0, 1] []), by omega, IntKind.i64.wrap (x1 + 1), h, rfl⟩
   ·refine AW.cond_no rfl c5 (AW.exit (AW.seq ?_))
    refine AW.weak (st' := ⟨48, (upd 48 (upd 48 (upd 48 topF 0 (rf 0 0)) 1 (st_ a1)) 6 (si x1)), [(o_dossierref03_Disk_0 false (C.own 1 0 p0.L.length 3) p0), (or_ e_dossierref03_File p0.L)]⟩) (wG 2 [0, 1] []) ?_
    obtain ⟨v6, ev6, h⟩ := bnd h
    obtain ⟨pv6, qv6, gv6⟩ := rd_some ev6
    obtain ⟨R7, hR7⟩ := row_at (f := e_dossierref03_File) (sz := 3) (o := 0) e_dossierref03_File_len gv6 (e_dossierref03_File_eq v6) (by decide)
    refine AW.draw2 2 [kf 28 (si x1) [6], kf 29 (si x1) [6], kf 30 (rf 0 0) [0], kf 31 (rf 0 0) [30], kf 32 (rf 0 0) [31], ⟨some 33, (D.one (C.own 1 0 p0.L.length 3)), [32], [0], [], none⟩, kf 34 (si (p0.L.length : Int)) [33], kf 35 (sb (decide (x1 < (p0.L.length : Int)))) [29, 34], kf 36 (sb (decide (x1 < (p0.L.length : Int)))) [35], kf 37 (rf 0 0) [0, 36], kf 38 (rf 0 0) [36, 37], kf 39 (rf 0 0) [36, 38], ⟨some 40, (D.one (C.own 1 0 p0.L.length 3)), [36, 39], [0], [], none⟩, kf 41 (si x1) [6, 36], ⟨some 42, (D.one (C.er 1 (0 + x1.toNat * 3))), [36, 40, 41], [1], [], none⟩, kf 43 (D.one (C.er 1 (0 + x1.toNat * 3 + 0))) [36, 42], ⟨some 44, (st_ v6.Name), [36, 43], [1], [], none⟩, kf 45 (st_ a1) [1, 36], kf 46 (sb (v6.Name.toList == a1.toList)) [36, 44, 45], kf 47 (sb (v6.Name.toList == a1.toList)) [36, 46], kf 4 (si x1) [28], kf 5 (sb (v6.Name.toList == a1.toList)) [47]] ⟨?_, ?_⟩
    ·refine (pA (pA (pA (pA (pE F.fo_52_0 (pE F.ag_50 (pC ?_ (pA (pA (pY c2 (pY c2 (pYE c2 F.fo_52_0 (pYE c2 F.ag_50 (pY c2 (pC ?_ (pC ?_ (pC ?_ (pY c2 (pC ?_ (pC ?_ (pA (pA AllStep.nil'))))))))))))))))))))))
     ·intro K rest fr hv htk k
      refine s_len (n := p0.L.length) F.u_50 rfl (.inr ⟨(fun _ _ h => by cases h), ⟨_, rfl⟩⟩) k
     ·intro K rest fr hv htk k
      refine AWops.guard_yes rfl (nl rfl) rfl c2 ?_
      refine s_indexOwn (d := (D.one (C.er 1 (0 + x1.toNat * 3)))) F.u_50 F.sz_90 rfl rfl pv6 qv6 rfl k
     ·intro K rest fr hv htk k
      refine AWops.guard_yes rfl (nl rfl) rfl c2 ?_
      refine s_fieldEr F.fo_90_0 (by decide) rfl k
     ·intro K rest fr hv htk k
      refine AWops.guard_yes rfl (nl rfl) rfl c2 ?_
      refine s_load1 (c' := (ct v6.Name)) F.ag_9 (congrArg some hR7) rfl k
     ·intro K rest fr hv htk k
      refine AWops.guard_yes rfl (nl rfl) rfl c2 ?_
      refine s_binS (v := (.bool (v6.Name.toList == a1.toList))) rfl rfl rfl k
     ·intro K rest fr hv htk k
      refine s_pick_yes (d := (sb (v6.Name.toList == a1.toList))) rfl c2 rfl k
    ·refine AWops.weak (st' := ⟨48, (upd 48 (upd 48 topF 4 (si x1)) 5 (sb (v6.Name.toList == a1.toList))), [(o_dossierref03_Disk_0 false (C.own 1 0 p0.L.length 3) p0), (or_ e_dossierref03_File p0.L)]⟩) (wG 2 [0, 1] []) (AWops.nil (AW.ret ?_))
     obtain rfl := Option.some.inj h
     exact ⟨_, rfl, (wG 2 [0, 1] [])⟩
  ·iterate 10 refine AWops.guard_no rfl (nl rfl) rfl c2 ?_
   refine s_pick_no (d := (sb false)) rfl c2 rfl (AWops.nil ?_)
   refine AW.cond_no rfl rfl (AW.exit (AW.seq ?_))
   refine AW.weak (st' := ⟨48, (upd 48 (upd 48 (upd 48 topF 0 (rf 0 0)) 1 (st_ a1)) 6 (si x1)), [(o_dossierref03_Disk_0 false (C.own 1 0 p0.L.length 3) p0), (or_ e_dossierref03_File p0.L)]⟩) (wG 2 [0, 1] []) ?_
   refine AW.draw2 2 [kf 28 (si x1) [6], kf 29 (si x1) [6], kf 30 (rf 0 0) [0], kf 31 (rf 0 0) [30], kf 32 (rf 0 0) [31], ⟨some 33, (D.one (C.own 1 0 p0.L.length 3)), [32], [0], [], none⟩, kf 34 (si (p0.L.length : Int)) [33], kf 35 (sb (decide (x1 < (p0.L.length : Int)))) [29, 34], kf 36 (sb (decide (x1 < (p0.L.length : Int)))) [35], kf 37 (D.tup []) [36], kf 38 (D.tup []) [36], kf 39 (D.tup []) [36], kf 40 (D.tup []) [36], kf 41 (D.tup []) [36], kf 42 (D.tup []) [36], kf 43 (D.tup []) [36], kf 44 (D.tup []) [36], kf 45 (D.tup []) [36], kf 46 (D.tup []) [36], kf 47 (sb false) [36], kf 4 (si x1) [28], kf 5 (sb false) [47]] ⟨?_, ?_⟩
   ·refine (pA (pA (pA (pA (pE F.fo_52_0 (pE F.ag_50 (pC ?_ (pA (pA (pN c2 (pN c2 (pN c2 (pN c2 (pN c2 (pN c2 (pN c2 (pN c2 (pN c2 (pN c2 (pC ?_ (pA (pA AllStep.nil'))))))))))))))))))))))
    ·intro K rest fr hv htk k
     refine s_len (n := p0.L.length) F.u_50 rfl (.inr ⟨(fun _ _ h => by cases h), ⟨_, rfl⟩⟩) k
    ·intro K rest fr hv htk k
     refine s_pick_no (d := (sb false)) rfl c2 rfl k
   ·refine AWops.weak (st' := ⟨48, (upd 48 (upd 48 topF 4 (si x1)) 5 (sb false)), [(o_dossierref03_Disk_0 false (C.own 1 0 p0.L.length 3) p0), (or_ e_dossierref03_File p0.L)]⟩) (wG 2 [0, 1] []) (AWops.nil (AW.ret ?_))
    obtain rfl := Option.some.inj h
    exact ⟨_, rfl, (wG 2 [0, 1] [])⟩
def dossierref03_Disk_there.f (k : Nat) (p0 : dossierref03_Disk) (a1 : ByteArray) : Option (dossierref03_File × Int) := if p0.Off = true then (some ((⟨(⟨#[]⟩ : ByteArray), ([] : List Int), 0⟩ : dossierref03_File), 70)) else ((dossierref03_Disk_place.f k p0 a1).bind fun r2 => if r2.2 = true then ((rd p0.L r2.1).bind fun v4 => some (v4, 0)) else (some ((⟨(⟨#[]⟩ : ByteArray), ([] : List Int), 0⟩ : dossierref03_File), 33)))
theorem dossierref03_Disk_there.meets (k : Nat) (p0 : dossierref03_Disk) (a1 : ByteArray) (r : dossierref03_File × Int) (h : dossierref03_Disk_there.f k p0 a1 = some r) : Meets Try.prog 63 [(rf 0 0), (st_ a1)] [(o_dossierref03_Disk_0 false (C.own 1 0 p0.L.length 3) p0), (or_ e_dossierref03_File p0.L)] (D.tup [(D.agg (c_dossierref03_File r.1)), (si r.2)]) [(o_dossierref03_Disk_0 false (C.own 1 0 p0.L.length 3) p0), (or_ e_dossierref03_File p0.L)] := by
 unfold dossierref03_Disk_there.f at h
 refine Meets.of_body (n := 29) Try.func63 rfl rfl (nl rfl) fun x hx => ?_
 replace hx : x.k = 2 := hx
 show AW _ x _ _ ⟨29, fr0 [(rf 0 0), (st_ a1)], [(o_dossierref03_Disk_0 false (C.own 1 0 p0.L.length 3) p0), (or_ e_dossierref03_File p0.L)]⟩
 refine AW.seq (AW.region ?_)
 refine s_alloc (cs := [(ct (⟨#[]⟩ : ByteArray)), (C.p true (.v (.slice none 0 0))), (ci 0)]) F.z_90 rfl rfl (s_assign (d := (si 0)) rfl (AWops.nil (AW.seq (AW.seq (AW.region (s_move (d := (rf 0 0)) rfl (s_nilCheck (d := (rf 0 0)) rfl (.inl ⟨_, _, rfl⟩) (s_fieldRef F.fo_52_3 (by decide) rfl (s_load1 (c' := (cb p0.Off)) F.ag_4 rfl rfl (AWops.nil ?_))))))))))
 rcases itH h with ⟨c1, h⟩ | ⟨c1, h⟩
 ·refine AW.cond_yes rfl c1 (AW.seq (AW.region ?_))
  refine s_build (ps := []) (cs := [(ct (⟨#[]⟩ : ByteArray)), (C.p true (.v (.slice none 0 0))), (ci 0)]) F.z_90 rfl F.so_90 rfl rfl (s_store (cs' := [(ct (⟨#[]⟩ : ByteArray)), (C.p true (.v (.slice none 0 0))), (ci 0)]) rfl rfl rfl (List.cons_ne_nil _ _) rfl F.sz_90 (nl rfl) rfl (s_assign (d := (si 70)) rfl (AWops.nil (AW.ret ?_))))
  obtain rfl := Option.some.inj h
  exact ⟨_, rfl, (wG 2 [0, 1] [])⟩
 ·refine AW.cond_no rfl c1 (AW.skip (AW.seq (AW.region ?_)))
  refine s_move (d := (rf 0 0)) rfl (s_move (d := (st_ a1)) rfl ?_)
  obtain ⟨r2, er2, h⟩ := bnd h
  refine cc [0, 1] [(o_dossierref03_Disk_0 false (C.own 1 0 p0.L.length 3) p0), (or_ e_dossierref03_File p0.L), (some (AObj.cells true [(ct (⟨#[]⟩ : ByteArray)), (C.p true (.v (.slice none 0 0))), (ci 0)]))] (D.tup [(si r2.1), (sb r2.2)]) F.ca_71 rfl rfl (ac (.one (.ref rfl)) (ac (.one .sc) an)) (ac (.cells (ac (.own rfl) (ac .sc (ac .sc (ac .sc an))))) (ac (.cells (lend_row _)) an)) (dossierref03_Disk_place.meets _ p0 a1 r2 er2) (s_move (d := (D.tup [(si r2.1), (sb r2.2)])) rfl (s_extract (d := (si r2.1)) rfl rfl (s_extract (d := (sb r2.2)) rfl rfl (s_assign (d := (si r2.1)) rfl (s_assign (d := (sb r2.2)) rfl (AWops.nil (AW.seq (AW.seq (AW.region ?_)))))))))
  refine s_move (d := (sb r2.2)) rfl (s_not rfl (AWops.nil ?_))
  rcases itH h with ⟨c3, h⟩ | ⟨c3, h⟩
  ·refine AW.cond_no rfl (by rw [c3] <;> rfl) (AW.skip (AW.seq (AW.region ?_)))
   refine s_move (d := (rf 0 0)) rfl (s_nilCheck (d := (rf 0 0)) rfl (.inl ⟨_, _, rfl⟩) (s_fieldRef F.fo_52_0 (by decide) rfl (s_load1 (c' := (C.own 1 0 p0.L.length 3)) F.ag_50 rfl rfl (s_move (d := (si r2.1)) rfl ?_))))
   obtain ⟨v4, ev4, h⟩ := bnd h
   obtain ⟨pv4, qv4, gv4⟩ := rd_some ev4
   refine s_indexOwn (d := (D.one (C.er 1 (0 + r2.1.toNat * 3)))) F.u_50 F.sz_90 rfl rfl pv4 qv4 rfl ?_
   obtain ⟨R5, hR5⟩ := row_at (f := e_dossierref03_File) (sz := 3) (o := 0) e_dossierref03_File_len gv4 (e_dossierref03_File_eq v4) (by decide)
   refine s_loadN (ds := (c_dossierref03_File v4)) F.ag_90 F.sz_90 (congrArg some hR5) rfl rfl (s_store (cs' := (c_dossierref03_File v4)) rfl rfl rfl (List.cons_ne_nil _ _) rfl F.sz_90 (nl rfl) rfl (s_assign (d := (si 0)) rfl (AWops.nil (AW.ret ?_))))
   obtain rfl := Option.some.inj h
   exact ⟨_, rfl, (wG 2 [0, 1] [])⟩
  ·refine AW.cond_yes rfl (by rw [c3] <;> rfl) (AW.seq (AW.region ?_))
   refine s_build (ps := []) (cs := [(ct (⟨#[]⟩ : ByteArray)), (C.p true (.v (.slice none 0 0))), (ci 0)]) F.z_90 rfl F.so_90 rfl rfl (s_store (cs' := [(ct (⟨#[]⟩ : ByteArray)), (C.p true (.v (.slice none 0 0))), (ci 0)]) rfl rfl rfl (List.cons_ne_nil _ _) rfl F.sz_90 (nl rfl) rfl (s_assign (d := (si 33)) rfl (AWops.nil (AW.ret ?_))))
   obtain rfl := Option.some.inj h
   exact ⟨_, rfl, (wG 2 [0, 1] [])⟩
def dossierref03_Disk_Read.f (k : Nat) (p0 : dossierref03_Disk) (a1 : ByteArray) : Option ((List Int) × Int) := (dossierref03_Disk_there.f k p0 a1).bind fun r1 => if (r1.2 != 0) = true then (some (([] : List Int), r1.2)) else (if (decide (([] : List Int).length + r1.1.B.length ≤ 140737488355328)) = true then (some (r1.1.B, 0)) else none)
theorem dossierref03_Disk_Read.meets (k : Nat) (p0 : dossierref03_Disk) (a1 : ByteArray) (r : (List Int) × Int) (h : dossierref03_Disk_Read.f k p0 a1 = some r) : Meets Try.prog 28 [(rf 0 0), (st_ a1)] [(o_dossierref03_Disk_0 false (C.own 1 0 p0.L.length 3) p0), (or_ e_dossierref03_File p0.L)] (D.tup [(D.one (C.p false (.sl r.1.length (r.1.flatMap e_u8)))), (si r.2)]) [(o_dossierref03_Disk_0 false (C.own 1 0 p0.L.length 3) p0), (or_ e_dossierref03_File p0.L)] := by
 unfold dossierref03_Disk_Read.f at h
 refine Meets.of_body (n := 21) Try.func28 rfl rfl (nl rfl) fun x hx => ?_
 replace hx : x.k = 2 := hx
 show AW _ x _ _ ⟨21, fr0 [(rf 0 0), (st_ a1)], [(o_dossierref03_Disk_0 false (C.own 1 0 p0.L.length 3) p0), (or_ e_dossierref03_File p0.L)]⟩
 refine AW.seq (AW.region ?_)
 refine s_assign (d := (sc (.slice none 0 0))) rfl (s_assign (d := (si 0)) rfl (AWops.nil (AW.seq (AW.region (s_move (d := (rf 0 0)) rfl (s_move (d := (st_ a1)) rfl ?_))))))
 obtain ⟨r1, er1, h⟩ := bnd h
 refine cc [0, 1] [(o_dossierref03_Disk_0 false (C.own 1 0 p0.L.length 3) p0), (or_ e_dossierref03_File p0.L)] (D.tup [(D.agg (c_dossierref03_File r1.1)), (si r1.2)]) F.ca_63 rfl rfl (ac (.one (.ref rfl)) (ac (.one .sc) an)) (ac (.cells (ac (.own rfl) (ac .sc (ac .sc (ac .sc an))))) (ac (.cells (lend_row _)) an)) (dossierref03_Disk_there.meets _ p0 a1 r1 er1) (s_move (d := (D.tup [(D.agg (c_dossierref03_File r1.1)), (si r1.2)])) rfl (s_extract (d := (D.agg (c_dossierref03_File r1.1))) rfl rfl (s_extract (d := (si r1.2)) rfl rfl (s_alloc (cs := [(ct (⟨#[]⟩ : ByteArray)), (C.p true (.v (.slice none 0 0))), (ci 0)]) F.z_90 rfl rfl (s_store (cs' := (c_dossierref03_File r1.1)) rfl rfl rfl (List.cons_ne_nil _ _) rfl F.sz_90 (nl rfl) rfl ?_)))))
 refine s_assign (d := (si r1.2)) rfl (AWops.nil (AW.seq (AW.seq (AW.region ?_))))
 refine s_move (d := (si r1.2)) rfl (s_binI (v := (.bool (r1.2 != 0))) rfl rfl rfl (AWops.nil ?_))
 rcases itH h with ⟨c2, h⟩ | ⟨c2, h⟩
 ·refine AW.cond_yes rfl c2 (AW.seq (AW.region ?_))
  refine s_move (d := (si r1.2)) rfl (s_assign (d := (sc (.slice none 0 0))) rfl (s_assign (d := (si r1.2)) rfl (AWops.nil (AW.ret ?_))))
  obtain rfl := Option.some.inj h
  exact ⟨_, rfl, (wG 2 [0, 1] [])⟩
 ·refine AW.cond_no rfl c2 (AW.skip (AW.seq (AW.region ?_)))
  refine s_buildSlice (n := 0) (ps := []) (cs := rowC e_u8 ([] : List Int)) F.u_22 F.sz_5 F.z_5 rfl rfl (by decide) (by decide) rfl rfl (s_fieldRef F.fo_90_1 (by decide) rfl (s_load1 (c' := (C.p false (.sl r1.1.B.length (r1.1.B.flatMap e_u8)))) F.ag_22 rfl rfl ?_))
  obtain ⟨c3, h⟩ := gdH h
  have dc3 := of_decide_eq_true c3
  refine t_append (xs := ([] : List Int)) (ys := r1.1.B) (zs := r1.1.B) (H' := [(o_dossierref03_Disk_0 false (C.own 1 0 p0.L.length 3) p0), (or_ e_dossierref03_File p0.L), (some (AObj.cells true (c_dossierref03_File r1.1))), none, (ow_ e_u8 r1.1.B)]) F.u_22 F.in_5 rfl e_u8_len (.own rfl rfl) .imm F.u_22 (by omega) (by omega) rfl rfl (s_assign (d := (D.one (C.own 4 0 r1.1.B.length 1))) rfl (s_assign (d := (si 0)) rfl (AWops.nil (AW.ret ?_))))
  obtain rfl := Option.some.inj h
  exact ⟨_, rfl, (wG 2 [0, 1] [4])⟩
def dossierref03_Disk_burn.f (k : Nat) (p0 : dossierref03_Disk) : Option (Int × dossierref03_Disk) := if (p0.Burns == 0) = true then (some (70, (⟨p0.L, p0.Most, p0.Burns, true⟩ : dossierref03_Disk))) else (if (decide (p0.Burns > 0)) = true then (some (0, (⟨p0.L, p0.Most, IntKind.i64.wrap (p0.Burns - 1), p0.Off⟩ : dossierref03_Disk))) else (some (0, p0)))
theorem dossierref03_Disk_burn.meets (k : Nat) (p0 : dossierref03_Disk) (r : Int × dossierref03_Disk) (h : dossierref03_Disk_burn.f k p0 = some r) : Meets Try.prog 64 [(rf 0 0)] [(o_dossierref03_Disk_0 false (C.own 1 0 p0.L.length 3) p0), (or_ e_dossierref03_File p0.L)] (si r.1) [(o_dossierref03_Disk_0 false (C.own 1 0 r.2.L.length 3) r.2), (or_ e_dossierref03_File r.2.L)] := by
 unfold dossierref03_Disk_burn.f at h
 refine Meets.of_body (n := 23) Try.func64 rfl rfl (nl rfl) fun x hx => ?_
 replace hx : x.k = 2 := hx
 show AW _ x _ _ ⟨23, fr0 [(rf 0 0)], [(o_dossierref03_Disk_0 false (C.own 1 0 p0.L.length 3) p0), (or_ e_dossierref03_File p0.L)]⟩
 refine AW.seq (AW.region ?_)
 refine s_assign (d := (si 0)) rfl (AWops.nil (AW.seq (AW.seq (AW.region ?_))))
 refine s_move (d := (rf 0 0)) rfl (s_nilCheck (d := (rf 0 0)) rfl (.inl ⟨_, _, rfl⟩) (s_fieldRef F.fo_52_2 (by decide) rfl (s_load1 (c' := (ci p0.Burns)) F.ag_3 rfl rfl (s_binI (v := (.bool (p0.Burns == 0))) rfl rfl rfl (AWops.nil ?_)))))
 rcases itH h with ⟨c1, h⟩ | ⟨c1, h⟩
 ·refine AW.cond_yes rfl c1 (AW.seq (AW.region ?_))
  refine s_move (d := (rf 0 0)) rfl (s_nilCheck (d := (rf 0 0)) rfl (.inl ⟨_, _, rfl⟩) (s_fieldRef F.fo_52_3 (by decide) rfl (s_store (cs' := [(C.own 1 0 p0.L.length 3), (ci p0.Most), (ci p0.Burns), (cb true)]) rfl rfl rfl (List.cons_ne_nil _ _) rfl F.sz_4 (nl rfl) rfl (AWops.nil (AW.seq (AW.region (s_assign (d := (si 70)) rfl (AWops.nil (AW.ret ?_)))))))))
  obtain rfl := Option.some.inj h
  exact ⟨_, rfl, (wG 2 [0, 1] [])⟩
 ·refine AW.cond_no rfl c1 (AW.skip (AW.seq (AW.seq (AW.region ?_))))
  refine s_move (d := (rf 0 0)) rfl (s_nilCheck (d := (rf 0 0)) rfl (.inl ⟨_, _, rfl⟩) (s_fieldRef F.fo_52_2 (by decide) rfl (s_load1 (c' := (ci p0.Burns)) F.ag_3 rfl rfl (s_binI (v := (.bool (decide (p0.Burns > 0)))) rfl rfl rfl (AWops.nil ?_)))))
  rcases itH h with ⟨c2, h⟩ | ⟨c2, h⟩
  ·refine AW.cond_yes rfl c2 (AW.region ?_)
   refine s_move (d := (rf 0 0)) rfl (s_nilCheck (d := (rf 0 0)) rfl (.inl ⟨_, _, rfl⟩) (s_fieldRef F.fo_52_2 (by decide) rfl (s_load1 (c' := (ci p0.Burns)) F.ag_3 rfl rfl (s_binI (v := (.int .i64 (IntKind.i64.wrap (p0.Burns - 1)))) rfl rfl rfl (s_nilCheck (d := (rf 0 0)) rfl (.inl ⟨_, _, rfl⟩) ?_)))))
   refine s_fieldRef F.fo_52_2 (by decide) rfl (s_store (cs' := [(C.own 1 0 p0.L.length 3), (ci p0.Most), (ci (IntKind.i64.wrap (p0.Burns - 1))), (cb p0.Off)]) rfl rfl rfl (List.cons_ne_nil _ _) rfl F.sz_3 (nl rfl) rfl (AWops.nil (AW.seq (AW.region (s_assign (d := (si 0)) rfl (AWops.nil (AW.ret ?_)))))))
   obtain rfl := Option.some.inj h
   exact ⟨_, rfl, (wG 2 [0, 1] [])⟩
  ·refine AW.cond_no rfl c2 (AW.skip (AW.seq (AW.region ?_)))
   refine s_assign (d := (si 0)) rfl (AWops.nil (AW.ret ?_))
   obtain rfl := Option.some.inj h
   exact ⟨_, rfl, (wG 2 [0, 1] [])⟩
def dossierref03_Disk_cut_65.f (k : Nat) (p0 : dossierref03_Disk) (a1 : ByteArray) : Option dossierref03_Disk := (dossierref03_Disk_place.f k p0 a1).bind fun r1 => if (decide (0 ≤ 0 ∧ 0 ≤ r1.1 ∧ r1.1 ≤ (p0.L.length : Int))) = true then (if (decide (([] : List dossierref03_File).length + (sub p0.L 0 r1.1).length ≤ 2932031007402)) = true then (if (decide (0 ≤ (IntKind.i64.wrap (r1.1 + 1)) ∧ (IntKind.i64.wrap (r1.1 + 1)) ≤ (p0.L.length : Int) ∧ (p0.L.length : Int) ≤ (p0.L.length : Int))) = true then (if (decide ((sub p0.L 0 r1.1).length + (sub p0.L (IntKind.i64.wrap (r1.1 + 1)) (p0.L.length : Int)).length ≤ 2932031007402)) = true then (some (⟨(sub p0.L 0 r1.1) ++ (sub p0.L (IntKind.i64.wrap (r1.1 + 1)) (p0.L.length : Int)), p0.Most, p0.Burns, p0.Off⟩ : dossierref03_Disk)) else none) else none) else none) else none
theorem dossierref03_Disk_cut_65.meets (k : Nat) (p0 : dossierref03_Disk) (a1 : ByteArray) (r : dossierref03_Disk) (h : dossierref03_Disk_cut_65.f k p0 a1 = some r) : Meets Try.prog 65 [(rf 0 0), (st_ a1)] [(o_dossierref03_Disk_0 false (C.own 1 0 p0.L.length 3) p0), (or_ e_dossierref03_File p0.L)] (D.tup []) [(o_dossierref03_Disk_0 false (C.own 2 0 r.L.length 3) r), none, (or_ e_dossierref03_File r.L)] := by
 unfold dossierref03_Disk_cut_65.f at h
 refine Meets.of_body (n := 31) Try.func65 rfl rfl (nl rfl) fun x hx => ?_
 replace hx : x.k = 2 := hx
 show AW _ x _ _ ⟨31, fr0 [(rf 0 0), (st_ a1)], [(o_dossierref03_Disk_0 false (C.own 1 0 p0.L.length 3) p0), (or_ e_dossierref03_File p0.L)]⟩
 refine AW.weak (st' := ⟨31, (upd 31 (upd 31 topF 0 (rf 0 0)) 1 (st_ a1)), [(o_dossierref03_Disk_0 false (C.own 2 0 p0.L.length 3) p0), none, (or_ e_dossierref03_File p0.L)]⟩) (Weak.genL (kk := 2) [0, 1, 1] [] hx rfl (by decide) rfl rfl rfl rfl (le_upd (le_upd (le_top _) (o1 (.ref rfl))) (o1 .sc)) (ac (.cells id (ac (.own rfl) (ac .sc (ac .sc (ac .sc an))))) (ac (.none _) (ac (.cells id (all2_row _)) an)))) (AW.seq (AW.region ?_))
 refine s_move (d := (rf 0 0)) rfl (s_move (d := (st_ a1)) rfl ?_)
 obtain ⟨r1, er1, h⟩ := bnd h
 refine cc [0, 2] [(o_dossierref03_Disk_0 false (C.own 2 0 p0.L.length 3) p0), none, (or_ e_dossierref03_File p0.L)] (D.tup [(si r1.1), (sb r1.2)]) F.ca_71 rfl rfl (ac (.one (.ref rfl)) (ac (.one .sc) an)) (ac (.cells (ac (.own rfl) (ac .sc (ac .sc (ac .sc an))))) (ac (.cells (lend_row _)) an)) (dossierref03_Disk_place.meets _ p0 a1 r1 er1) (s_move (d := (D.tup [(si r1.1), (sb r1.2)])) rfl (s_extract (d := (si r1.1)) rfl rfl (s_extract (d := (sb r1.2)) rfl rfl (s_assign (d := (si r1.1)) rfl (s_assign (d := (sb r1.2)) rfl (AWops.nil ?_))))))
 refine AW.weak (st' := ⟨31, (upd 31 (upd 31 (upd 31 (upd 31 (upd 31 (upd 31 (upd 31 (upd 31 (upd 31 (upd 31 topF 0 (rf 0 0)) 1 (st_ a1)) 4 (si r1.1)) 5 (sb r1.2)) 6 (D.tup [(si r1.1), (sb r1.2)])) 7 (rf 0 0)) 8 (st_ a1)) 9 (D.tup [(si r1.1), (sb r1.2)])) 10 (si r1.1)) 11 (sb r1.2)), [(some (AObj.cells false (c_dossierref03_Disk p0))), none]⟩) (wg 2 [0, 1] [2] hx (le_upd (le_upd (le_upd (le_upd (le_upd (le_upd (le_upd (le_upd (le_upd (le_upd (le_top _) (o1 (.ref rfl))) (o1 .sc)) (o1 .sc)) (o1 .sc)) (DLe.tup (ac (TLe.one .sc) (ac (TLe.one .sc) an)))) (o1 (.ref rfl))) (o1 .sc)) (DLe.tup (ac (TLe.one .sc) (ac (TLe.one .sc) an)))) (o1 .sc)) (o1 .sc)) (ac (.cells id (ac (CLe.frz e_dossierref03_File_len rfl rfl rfl) (ac .sc (ac .sc (ac .sc an))))) (ac (.none _) an))) ?_
 refine AW.weak (st' := ⟨31, (upd 31 (upd 31 topF 0 (rf 0 0)) 4 (si r1.1)), [(some (AObj.cells false (c_dossierref03_Disk p0))), none]⟩) (wG 2 [0, 1] []) ?_
 obtain ⟨c2, h⟩ := gdH h
 have dc2 := of_decide_eq_true c2
 obtain ⟨c3, h⟩ := gdH h
 have dc3 := of_decide_eq_true c3
 obtain ⟨c4, h⟩ := gdH h
 have dc4 := of_decide_eq_true c4
 obtain ⟨c5, h⟩ := gdH h
 have dc5 := of_decide_eq_true c5
 refine AW.draw2 5 [kf 12 (rf 0 0) [0], ⟨some 13, (D.one (C.own 2 0 (([] : List dossierref03_File).length) 3)), [], [], [(2, (some (AObj.cells true (rowC e_dossierref03_File ([] : List dossierref03_File)))))], some (2, 1)⟩, kf 14 (rf 0 0) [0], kf 15 (rf 0 0) [14], kf 16 (rf 0 0) [15], ⟨some 17, (D.one (C.p false (.sl p0.L.length (p0.L.flatMap e_dossierref03_File)))), [16], [0], [], none⟩, kf 18 (si r1.1) [4], kf 19 (D.one (C.p false (.sl (sub p0.L 0 r1.1).length ((sub p0.L 0 r1.1).flatMap e_dossierref03_File)))) [17, 18], ⟨some 20, (D.one (C.own 3 0 ((sub p0.L 0 r1.1).length) 3)), [13, 19], [2], [(2, none), (3, (some (AObj.cells true (rowC e_dossierref03_File (sub p0.L 0 r1.1)))))], some (3, 1)⟩, kf 21 (rf 0 0) [0], kf 22 (rf 0 0) [21], kf 23 (rf 0 0) [22], ⟨some 24, (D.one (C.p false (.sl p0.L.length (p0.L.flatMap e_dossierref03_File)))), [23], [0], [], none⟩, kf 25 (si r1.1) [4], kf 26 (si (IntKind.i64.wrap (r1.1 + 1))) [25], kf 27 (D.one (C.p false (.sl (sub p0.L (IntKind.i64.wrap (r1.1 + 1)) (p0.L.length : Int)).length ((sub p0.L (IntKind.i64.wrap (r1.1 + 1)) (p0.L.length : Int)).flatMap e_dossierref03_File)))) [24, 26], ⟨some 28, (D.one (C.own 4 0 (((sub p0.L 0 r1.1) ++ (sub p0.L (IntKind.i64.wrap (r1.1 + 1)) (p0.L.length : Int))).length) 3)), [20, 27], [3], [(3, none), (4, (some (AObj.cells true (rowC e_dossierref03_File ((sub p0.L 0 r1.1) ++ (sub p0.L (IntKind.i64.wrap (r1.1 + 1)) (p0.L.length : Int)))))))], some (4, 1)⟩, kf 29 (rf 0 0) [12], kf 30 (rf 0 0) [29], ⟨none, (D.one C.top), [28, 30], [0], [(0, (o_dossierref03_Disk_0 false (C.own 4 0 (((sub p0.L 0 r1.1) ++ (sub p0.L (IntKind.i64.wrap (r1.1 + 1)) (p0.L.length : Int))).length) 3) p0))], none⟩] ⟨?_, ?_⟩
 ·refine (pA (pC ?_ (pA (pA (pE F.fo_52_0 (pE F.ag_50 (pA (pC ?_ (pC ?_ (pA (pA (pE F.fo_52_0 (pE F.ag_50 (pA (pA (pC ?_ (pC ?_ (pA (pE F.fo_52_0 (pC ?_ AllStep.nil'))))))))))))))))))))
  ·intro K rest fr hv htk k
   refine s_buildSlice (n := 0) (ps := []) (cs := rowC e_dossierref03_File ([] : List dossierref03_File)) F.u_50 F.sz_90 F.z_90 rfl rfl (by decide) (by decide) rfl rfl ?_
   refine AWops.weak (wD 2 (2, 1) 5 [0, 1, 5, 3, 4] [] (htk (2, 1) rfl)) k
  ·intro K rest fr hv htk k
   refine t_sliceImm (a := 0) (b := r1.1) F.u_50 F.sz_90 e_dossierref03_File_len rfl (by omega) (by omega) (by omega) .no (.yes rfl (by omega) rfl) k
  ·intro K rest fr hv htk k
   refine t_append (xs := ([] : List dossierref03_File)) (ys := sub p0.L 0 r1.1) (zs := sub p0.L 0 r1.1) (H' := [(hv 0), (hv 1), none, (hv 3), (hv 4), (some (AObj.cells true (rowC e_dossierref03_File (sub p0.L 0 r1.1))))]) F.u_50 F.in_90 rfl e_dossierref03_File_len (.own rfl rfl) .imm F.u_50 (by omega) (by omega) rfl rfl ?_
   refine AWops.weak (wD 2 (3, 1) 5 [0, 1, 2, 5, 4] [] (htk (3, 1) rfl)) k
  ·intro K rest fr hv htk k
   refine t_sliceImm (a := IntKind.i64.wrap (r1.1 + 1)) (b := (p0.L.length : Int)) F.u_50 F.sz_90 e_dossierref03_File_len rfl (by omega) (by omega) (by omega) (.yes rfl (by omega) rfl) .no k
  ·intro K rest fr hv htk k
   refine t_append (xs := sub p0.L 0 r1.1) (ys := sub p0.L (IntKind.i64.wrap (r1.1 + 1)) (p0.L.length : Int)) (zs := (sub p0.L 0 r1.1) ++ (sub p0.L (IntKind.i64.wrap (r1.1 + 1)) (p0.L.length : Int))) (H' := [(hv 0), (hv 1), (hv 2), none, (hv 4), (some (AObj.cells true (rowC e_dossierref03_File ((sub p0.L 0 r1.1) ++ (sub p0.L (IntKind.i64.wrap (r1.1 + 1)) (p0.L.length : Int))))))]) F.u_50 F.in_90 rfl e_dossierref03_File_len (.own rfl rfl) .imm F.u_50 (by omega) (by omega) rfl rfl ?_
   refine AWops.weak (wD 2 (4, 1) 5 [0, 1, 2, 3, 5] [] (htk (4, 1) rfl)) k
  ·intro K rest fr hv htk k
   refine s_store (cs' := [(C.own 4 0 (((sub p0.L 0 r1.1) ++ (sub p0.L (IntKind.i64.wrap (r1.1 + 1)) (p0.L.length : Int))).length) 3), (ci p0.Most), (ci p0.Burns), (cb p0.Off)]) rfl rfl rfl (List.cons_ne_nil _ _) rfl F.sz_50 (nl rfl) rfl k
 ·refine AWops.weak (st' := ⟨31, topF, [(o_dossierref03_Disk_0 false (C.own 2 0 (((sub p0.L 0 r1.1) ++ (sub p0.L (IntKind.i64.wrap (r1.1 + 1)) (p0.L.length : Int))).length) 3) p0), none, (some (AObj.cells true (rowC e_dossierref03_File ((sub p0.L 0 r1.1) ++ (sub p0.L (IntKind.i64.wrap (r1.1 + 1)) (p0.L.length : Int))))))]⟩) (wG 2 [0, 1, 4] []) (AWops.nil ?_)
  obtain rfl := Option.some.inj h
  exact ⟨_, rfl, (wG 2 [0, 1, 2] [])⟩
def dossierref03_Disk_Remove_29.f (k : Nat) (p0 : dossierref03_Disk) (a1 : ByteArray) : Option (Int × dossierref03_Disk) := (dossierref03_Disk_there.f k p0 a1).bind fun r1 => if (r1.2 == 0) = true then ((dossierref03_Disk_burn.f k p0).bind fun r3 => if (r3.1 == 0) = true then ((dossierref03_Disk_cut_65.f k r3.2 a1).bind fun r5 => some (r3.1, r5)) else (some (r3.1, r3.2))) else (some (r1.2, p0))
theorem dossierref03_Disk_Remove_29.meets (k : Nat) (p0 : dossierref03_Disk) (a1 : ByteArray) (r : Int × dossierref03_Disk) (h : dossierref03_Disk_Remove_29.f k p0 a1 = some r) : Meets Try.prog 29 [(rf 0 0), (st_ a1)] [(o_dossierref03_Disk_0 false (C.own 1 0 p0.L.length 3) p0), (or_ e_dossierref03_File p0.L)] (si r.1) [(o_dossierref03_Disk_0 false (C.own 2 0 r.2.L.length 3) r.2), none, (or_ e_dossierref03_File r.2.L)] := by
 unfold dossierref03_Disk_Remove_29.f at h
 refine Meets.of_body (n := 23) Try.func29 rfl rfl (nl rfl) fun x hx => ?_
 replace hx : x.k = 2 := hx
 show AW _ x _ _ ⟨23, fr0 [(rf 0 0), (st_ a1)], [(o_dossierref03_Disk_0 false (C.own 1 0 p0.L.length 3) p0), (or_ e_dossierref03_File p0.L)]⟩
 refine AW.weak (st' := ⟨23, (upd 23 (upd 23 topF 0 (rf 0 0)) 1 (st_ a1)), [(o_dossierref03_Disk_0 false (C.own 2 0 p0.L.length 3) p0), none, (or_ e_dossierref03_File p0.L)]⟩) (Weak.genL (kk := 2) [0, 1, 1] [] hx rfl (by decide) rfl rfl rfl rfl (le_upd (le_upd (le_top _) (o1 (.ref rfl))) (o1 .sc)) (ac (.cells id (ac (.own rfl) (ac .sc (ac .sc (ac .sc an))))) (ac (.none _) (ac (.cells id (all2_row _)) an)))) (AW.seq (AW.region ?_))
 refine s_assign (d := (si 0)) rfl (AWops.nil (AW.seq (AW.region ?_)))
 refine s_move (d := (rf 0 0)) rfl (s_move (d := (st_ a1)) rfl ?_)
 obtain ⟨r1, er1, h⟩ := bnd h
 refine cc [0, 2] [(o_dossierref03_Disk_0 false (C.own 2 0 p0.L.length 3) p0), none, (or_ e_dossierref03_File p0.L)] (D.tup [(D.agg (c_dossierref03_File r1.1)), (si r1.2)]) F.ca_63 rfl rfl (ac (.one (.ref rfl)) (ac (.one .sc) an)) (ac (.cells (ac (.own rfl) (ac .sc (ac .sc (ac .sc an))))) (ac (.cells (lend_row _)) an)) (dossierref03_Disk_there.meets _ p0 a1 r1 er1) (s_move (d := (D.tup [(D.agg (c_dossierref03_File r1.1)), (si r1.2)])) rfl (s_extract (d := (D.agg (c_dossierref03_File r1.1))) rfl rfl (s_extract (d := (si r1.2)) rfl rfl (s_alloc (cs := [(ct (⟨#[]⟩ : ByteArray)), (C.p true (.v (.slice none 0 0))), (ci 0)]) F.z_90 rfl rfl (s_store (cs' := (c_dossierref03_File r1.1)) rfl rfl rfl (List.cons_ne_nil _ _) rfl F.sz_90 (nl rfl) rfl ?_)))))
 refine s_assign (d := (si r1.2)) rfl (AWops.nil (AW.seq (AW.seq (AW.region ?_))))
 refine s_move (d := (si r1.2)) rfl (s_binI (v := (.bool (r1.2 == 0))) rfl rfl rfl (AWops.nil ?_))
 rcases itH h with ⟨c2, h⟩ | ⟨c2, h⟩
 ·refine AW.cond_yes rfl c2 (AW.region ?_)
  refine s_move (d := (rf 0 0)) rfl ?_
  obtain ⟨r3, er3, h⟩ := bnd h
  refine cc [0, 2] [(o_dossierref03_Disk_0 false (C.own 2 0 r3.2.L.length 3) r3.2), none, (or_ e_dossierref03_File r3.2.L), (some (AObj.cells true (c_dossierref03_File r1.1)))] (si r3.1) F.ca_64 rfl rfl (ac (.one (.ref rfl)) an) (ac (.cells (ac (.own rfl) (ac .sc (ac .sc (ac .sc an))))) (ac (.cells (lend_row _)) an)) (dossierref03_Disk_burn.meets _ p0 r3 er3) (s_assign (d := (si r3.1)) rfl (AWops.nil (AW.seq (AW.seq (AW.region (s_move (d := (si r3.1)) rfl (s_binI (v := (.bool (r3.1 == 0))) rfl rfl rfl (AWops.nil ?_))))))))
  rcases itH h with ⟨c4, h⟩ | ⟨c4, h⟩
  ·refine AW.cond_yes rfl c4 (AW.region ?_)
   refine s_move (d := (rf 0 0)) rfl (s_move (d := (st_ a1)) rfl ?_)
   obtain ⟨r5, er5, h⟩ := bnd h
   refine cc [0, 2] [(o_dossierref03_Disk_0 false (C.own 4 0 r5.L.length 3) r5), none, none, (some (AObj.cells true (c_dossierref03_File r1.1))), (or_ e_dossierref03_File r5.L)] (D.tup []) F.ca_65 rfl rfl (ac (.one (.ref rfl)) (ac (.one .sc) an)) (ac (.cells (ac (.own rfl) (ac .sc (ac .sc (ac .sc an))))) (ac (.cells (lend_row _)) an)) (dossierref03_Disk_cut_65.meets _ r3.2 a1 r5 er5) (AWops.nil (AW.seq (AW.region ?_)))
   refine s_move (d := (si r3.1)) rfl (s_assign (d := (si r3.1)) rfl (AWops.nil (AW.ret ?_)))
   obtain rfl := Option.some.inj h
   exact ⟨_, rfl, (wG 2 [0, 1, 4] [])⟩
  ·refine AW.cond_no rfl c4 (AW.skip (AW.seq (AW.region ?_)))
   refine s_move (d := (si r3.1)) rfl (s_assign (d := (si r3.1)) rfl (AWops.nil (AW.ret ?_)))
   obtain rfl := Option.some.inj h
   exact ⟨_, rfl, (wG 2 [0, 1, 2] [])⟩
 ·refine AW.cond_no rfl c2 (AW.skip (AW.seq (AW.seq (AW.region ?_))))
  refine s_move (d := (si r1.2)) rfl (s_binI (v := (.bool (r1.2 == 0))) rfl rfl rfl (AWops.nil ?_))
  refine AW.cond_no rfl c2 (AW.skip (AW.seq (AW.region ?_)))
  refine s_move (d := (si r1.2)) rfl (s_assign (d := (si r1.2)) rfl (AWops.nil (AW.ret ?_)))
  obtain rfl := Option.some.inj h
  exact ⟨_, rfl, (wG 2 [0, 1, 2] [])⟩
def dossierref04_four.f (k : Nat) (a0 : Int) : Option (List Int) := some ([IntKind.u8.wrap (Int.fdiv a0 (2 ^ 24)), IntKind.u8.wrap (Int.fdiv a0 (2 ^ 16)), IntKind.u8.wrap (Int.fdiv a0 (2 ^ 8)), IntKind.u8.wrap a0] : List Int)
theorem dossierref04_four.meets (k : Nat) (a0 : Int) (r : (List Int)) (h : dossierref04_four.f k a0 = some r) : Meets Try.prog 73 [(si a0)] [] (D.one (C.own 0 0 r.length 1)) [(ow_ e_u8 r)] := by
 unfold dossierref04_four.f at h
 refine Meets.of_body (n := 15) Try.func73 rfl rfl (nl rfl) fun x hx => ?_
 replace hx : x.k = 0 := hx
 show AW _ x _ _ ⟨15, fr0 [(si a0)], []⟩
 refine AW.seq (AW.region ?_)
 refine s_assign (d := (sc (.slice none 0 0))) rfl (AWops.nil (AW.seq (AW.region ?_)))
 refine s_move (d := (si a0)) rfl (s_shift (v := (.int .i64 (Int.fdiv a0 (2 ^ 24)))) rfl rfl rfl (s_convI F.u_3 F.u_5 rfl (s_move (d := (si a0)) rfl (s_shift (v := (.int .i64 (Int.fdiv a0 (2 ^ 16)))) rfl rfl rfl (s_convI F.u_3 F.u_5 rfl ?_)))))
 refine s_move (d := (si a0)) rfl (s_shift (v := (.int .i64 (Int.fdiv a0 (2 ^ 8)))) rfl rfl rfl (s_convI F.u_3 F.u_5 rfl (s_move (d := (si a0)) rfl (s_convI F.u_3 F.u_5 rfl (s_buildSlice (n := 4) (ps := [(0, (sc (.int .u8 (IntKind.u8.wrap (Int.fdiv a0 (2 ^ 24)))))), (1, (sc (.int .u8 (IntKind.u8.wrap (Int.fdiv a0 (2 ^ 16)))))), (2, (sc (.int .u8 (IntKind.u8.wrap (Int.fdiv a0 (2 ^ 8)))))), (3, (sc (.int .u8 (IntKind.u8.wrap a0))))]) (cs := rowC e_u8 ([IntKind.u8.wrap (Int.fdiv a0 (2 ^ 24)), IntKind.u8.wrap (Int.fdiv a0 (2 ^ 16)), IntKind.u8.wrap (Int.fdiv a0 (2 ^ 8)), IntKind.u8.wrap a0] : List Int)) F.u_22 F.sz_5 F.z_5 rfl rfl (by decide) (by decide) rfl rfl ?_)))))
 refine s_assign (d := (D.one (C.own 0 0 (([IntKind.u8.wrap (Int.fdiv a0 (2 ^ 24)), IntKind.u8.wrap (Int.fdiv a0 (2 ^ 16)), IntKind.u8.wrap (Int.fdiv a0 (2 ^ 8)), IntKind.u8.wrap a0] : List Int).length) 1))) rfl (AWops.nil (AW.ret ?_))
 obtain rfl := Option.some.inj h
 exact ⟨_, rfl, (wG 0 [0] [])⟩
mutual
def dossierref02_Crc.l1 : Nat → Int → Int → (List Int) → Int → Option Int
 | 0, _, _, _, _ => none
 | k + 1, x5, x6, a0, x2 => if (decide (x6 < 8)) = true then (if ((Int.tmod x5 2) == 1) = true then (dossierref02_Crc.l1 k (Go.bits .xor .u32 (Int.fdiv x5 (2 ^ 1)) 3988292384) (IntKind.i64.wrap (x6 + 1)) a0 x2) else (dossierref02_Crc.l1 k (Int.fdiv x5 (2 ^ 1)) (IntKind.i64.wrap (x6 + 1)) a0 x2)) else (dossierref02_Crc.l0 k x5 (IntKind.i64.wrap (x2 + 1)) a0)
def dossierref02_Crc.l0 : Nat → Int → Int → (List Int) → Option Int
 | 0, _, _, _ => none
 | k + 1, x1, x2, a0 => if (decide (x2 < (a0.length : Int))) = true then ((rd a0 x2).bind fun v4 => dossierref02_Crc.l1 k (Go.bits .xor .u32 x1 (IntKind.u32.wrap v4)) 0 a0 x2) else (some (IntKind.i64.wrap (Go.bits .xor .u32 x1 4294967295)))
end
def dossierref02_Crc.f (k : Nat) (a0 : List Int) : Option Int := dossierref02_Crc.l0 k 4294967295 0 a0
theorem dossierref02_Crc.meets (k : Nat) (a0 : List Int) (r : Int) (h : dossierref02_Crc.f k a0 = some r) : Meets Try.prog 74 [(D.one (C.p false (.sl a0.length (a0.flatMap e_u8))))] [] (si r) [] := by
 unfold dossierref02_Crc.f at h
 refine Meets.of_body (n := 31) Try.func74 rfl rfl (nl rfl) fun x hx => ?_
 replace hx : x.k = 0 := hx
 show AW _ x _ _ ⟨31, fr0 [(D.one (C.p false (.sl a0.length (a0.flatMap e_u8))))], []⟩
 refine AW.seq (AW.region ?_)
 refine s_assign (d := (si 0)) rfl (AWops.nil (AW.seq (AW.region ?_)))
 refine s_assign (d := (sc (.int .u32 4294967295))) rfl (AWops.nil (AW.seq (AW.seq (AW.region ?_))))
 refine s_move (d := (D.one (C.p false (.sl a0.length (a0.flatMap e_u8))))) rfl (s_len (n := a0.length) F.u_22 rfl (.inr ⟨(fun _ _ h => by cases h), ⟨_, rfl⟩⟩) (s_move (d := (si 0)) rfl (AWops.nil (AW.block ?_))))
 refine AW.loopw (st0 := ⟨31, (upd 31 (upd 31 (upd 31 (upd 31 topF 3 (sc (.int .u32 4294967295))) 6 (D.one (C.p false (.sl a0.length (a0.flatMap e_u8))))) 7 (si (a0.length : Int))) 8 (si 0)), []⟩) (fun kv st => kv ≤ k ∧ ∃ (x1 : Int) (x2 : Int), dossierref02_Crc.l0 kv x1 x2 a0 = some r ∧ st = ⟨31, (upd 31 (upd 31 (upd 31 (upd 31 topF 3 (sc (.int .u32 x1))) 6 (D.one (C.p false (.sl a0.length (a0.flatMap e_u8))))) 7 (si (a0.length : Int))) 8 (si x2)), []⟩) (k := k) (wG 0 [] []) ⟨Nat.le_refl _, 4294967295, 0, h, rfl⟩ ?_
 rintro ql0 st ⟨hkl0, x1, x2, h, rfl⟩
 cases ql0 with
 | zero => exact absurd h (by simp [dossierref02_Crc.l0])
 | succ ql0 =>
  replace h := (dossierref02_Crc.l0.eq_2 _ _ _ _).symm.trans h
  refine AW.seq (AW.region ?_)
  refine s_binI (v := (.bool (decide (x2 < (a0.length : Int))))) rfl rfl rfl (AWops.nil (AW.seq ?_))
  rcases itH h with ⟨c3, h⟩ | ⟨c3, h⟩
  ·refine AW.cond_yes rfl c3 (AW.skip (AW.seq (AW.block (AW.seq (AW.region ?_)))))
   obtain ⟨v4, ev4, h⟩ := bnd h
   obtain ⟨pv4, qv4, gv4⟩ := rd_some ev4
   refine s_indexImm (ps := [P.v (.int .u8 v4)]) F.u_22 F.sz_5 rfl rfl pv4 qv4 (flat_at e_u8_len gv4 (e_u8_eq v4)) (s_load1 (c' := (C.p true (.v (.int .u8 v4)))) F.ag_5 rfl rfl (s_assign (d := (sc (.int .u8 v4))) rfl (AWops.nil (AW.seq (AW.region (s_move (d := (sc (.int .u32 x1))) rfl (s_move (d := (sc (.int .u8 v4))) rfl (s_convI F.u_5 F.u_116 rfl ?_))))))))
   refine s_binI (v := (.int .u32 (Go.bits .xor .u32 x1 (IntKind.u32.wrap v4)))) rfl rfl rfl (s_assign (d := (sc (.int .u32 (Go.bits .xor .u32 x1 (IntKind.u32.wrap v4))))) rfl (AWops.nil (AW.seq (AW.region (s_move (d := (si 0)) rfl (AWops.nil (AW.block ?_)))))))
   refine AW.loopw (st0 := ⟨31, (upd 31 (upd 31 (upd 31 (upd 31 (upd 31 topF 3 (sc (.int .u32 (Go.bits .xor .u32 x1 (IntKind.u32.wrap v4))))) 6 (D.one (C.p false (.sl a0.length (a0.flatMap e_u8))))) 7 (si (a0.length : Int))) 8 (si x2)) 16 (si 0)), []⟩) (fun kv st => kv ≤ ql0 ∧ ∃ (x5 : Int) (x6 : Int), dossierref02_Crc.l1 kv x5 x6 a0 x2 = some r ∧ st = ⟨31, (upd 31 (upd 31 (upd 31 (upd 31 (upd 31 topF 3 (sc (.int .u32 x5))) 6 (D.one (C.p false (.sl a0.length (a0.flatMap e_u8))))) 7 (si (a0.length : Int))) 8 (si x2)) 16 (si x6)), []⟩) (k := ql0) (wG 0 [] []) ⟨Nat.le_refl _, Go.bits .xor .u32 x1 (IntKind.u32.wrap v4), 0, h, rfl⟩ ?_
   rintro ql1 st ⟨hkl1, x5, x6, h, rfl⟩
   cases ql1 with
   | zero => exact absurd h (by simp [dossierref02_Crc.l1])
   | succ ql1 =>
    replace h := (dossierref02_Crc.l1.eq_2 _ _ _ _ _).symm.trans h
    refine AW.seq (AW.region ?_)
    refine s_binI (v := (.bool (decide (x6 < 8)))) rfl rfl rfl (AWops.nil (AW.seq ?_))
    rcases itH h with ⟨c7, h⟩ | ⟨c7, h⟩
    ·refine AW.cond_yes rfl c7 (AW.skip (AW.seq (AW.block (AW.seq (AW.region ?_)))))
     refine s_move (d := (sc (.int .u32 x5))) rfl (s_binI (v := (.int .u32 (Int.tmod x5 2))) rfl rfl rfl (s_binI (v := (.bool ((Int.tmod x5 2) == 1))) rfl rfl rfl (AWops.nil ?_)))
     rcases itH h with ⟨c8, h⟩ | ⟨c8, h⟩
     ·refine AW.cond_yes rfl c8 (AW.region ?_)
      refine s_move (d := (sc (.int .u32 x5))) rfl (s_shift (v := (.int .u32 (Int.fdiv x5 (2 ^ 1)))) rfl rfl rfl (s_binI (v := (.int .u32 (Go.bits .xor .u32 (Int.fdiv x5 (2 ^ 1)) 3988292384))) rfl rfl rfl (s_assign (d := (sc (.int .u32 (Go.bits .xor .u32 (Int.fdiv x5 (2 ^ 1)) 3988292384)))) rfl (AWops.nil (AW.region (s_binI (v := (.int .i64 (IntKind.i64.wrap (x6 + 1)))) rfl rfl rfl (s_move (d := (si (IntKind.i64.wrap (x6 + 1)))) rfl (AWops.nil ?_))))))))
      exact ⟨_, ⟨31, (upd 31 (upd 31 (upd 31 (upd 31 (upd 31 topF 3 (sc (.int .u32 (Go.bits .xor .u32 (Int.fdiv x5 (2 ^ 1)) 3988292384)))) 6 (D.one (C.p false (.sl a0.length (a0.flatMap e_u8))))) 7 (si (a0.length : Int))) 8 (si x2)) 16 (si (IntKind.i64.wrap (x6 + 1)))), []⟩, by omega, (wG 0 [] []), by omega, Go.bits .xor .u32 (Int.fdiv x5 (2 ^ 1)) 3988292384, IntKind.i64.wrap (x6 + 1), h, rfl⟩
     ·refine AW.cond_no rfl c8 (AW.region ?_)
      refine s_move (d := (sc (.int .u32 x5))) rfl (s_shift (v := (.int .u32 (Int.fdiv x5 (2 ^ 1)))) rfl rfl rfl (s_assign (d := (sc (.int .u32 (Int.fdiv x5 (2 ^ 1))))) rfl (AWops.nil (AW.region (s_binI (v := (.int .i64 (IntKind.i64.wrap (x6 + 1)))) rfl rfl rfl (s_move (d := (si (IntKind.i64.wrap (x6 + 1)))) rfl (AWops.nil ?_)))))))
      exact ⟨_, ⟨31, (upd 31 (upd 31 (upd 31 (upd 31 (upd 31 topF 3 (sc (.int .u32 (Int.fdiv x5 (2 ^ 1))))) 6 (D.one (C.p false (.sl a0.length (a0.flatMap e_u8))))) 7 (si (a0.length : Int))) 8 (si x2)) 16 (si (IntKind.i64.wrap (x6 + 1)))), []⟩, by omega, (wG 0 [] []), by omega, Int.fdiv x5 (2 ^ 1), IntKind.i64.wrap (x6 + 1), h, rfl⟩
    ·refine AW.cond_no rfl c7 (AW.exit (AW.region ?_))
     refine s_binI (v := (.int .i64 (IntKind.i64.wrap (x2 + 1)))) rfl rfl rfl (s_move (d := (si (IntKind.i64.wrap (x2 + 1)))) rfl (AWops.nil ?_))
     exact ⟨_, ⟨31, (upd 31 (upd 31 (upd 31 (upd 31 topF 3 (sc (.int .u32 x5))) 6 (D.one (C.p false (.sl a0.length (a0.flatMap e_u8))))) 7 (si (a0.length : Int))) 8 (si (IntKind.i64.wrap (x2 + 1)))), []⟩, by omega, (wG 0 [] []), by omega, x5, IntKind.i64.wrap (x2 + 1), h, rfl⟩
  ·refine AW.cond_no rfl c3 (AW.exit (AW.seq (AW.region ?_)))
   refine s_move (d := (sc (.int .u32 x1))) rfl (s_binI (v := (.int .u32 (Go.bits .xor .u32 x1 4294967295))) rfl rfl rfl (s_convI F.u_116 F.u_3 rfl (s_assign (d := (si (IntKind.i64.wrap (Go.bits .xor .u32 x1 4294967295)))) rfl (AWops.nil (AW.ret ?_)))))
   obtain rfl := Option.some.inj h
   exact ⟨_, rfl, (wG 0 [] [])⟩
def dossierref04_frame.f (k : Nat) (a0 : List Int) : Option (List Int) := (dossierref04_four.f k (a0.length : Int)).bind fun r1 => (dossierref02_Crc.f k a0).bind fun r2 => (dossierref04_four.f k r2).bind fun r3 => if (decide (r1.length + r3.length ≤ 140737488355328)) = true then (if (decide ((r1 ++ r3).length + a0.length ≤ 140737488355328)) = true then (some ((r1 ++ r3) ++ a0)) else none) else none
theorem dossierref04_frame.meets (k : Nat) (a0 : List Int) (r : (List Int)) (h : dossierref04_frame.f k a0 = some r) : Meets Try.prog 50 [(D.one (C.p false (.sl a0.length (a0.flatMap e_u8))))] [] (D.one (C.own 0 0 r.length 1)) [(ow_ e_u8 r)] := by
 unfold dossierref04_frame.f at h
 refine Meets.of_body (n := 12) Try.func50 rfl rfl (nl rfl) fun x hx => ?_
 replace hx : x.k = 0 := hx
 show AW _ x _ _ ⟨12, fr0 [(D.one (C.p false (.sl a0.length (a0.flatMap e_u8))))], []⟩
 refine AW.seq (AW.region ?_)
 refine s_assign (d := (sc (.slice none 0 0))) rfl (AWops.nil (AW.seq (AW.region ?_)))
 refine s_move (d := (D.one (C.p false (.sl a0.length (a0.flatMap e_u8))))) rfl (s_len (n := a0.length) F.u_22 rfl (.inr ⟨(fun _ _ h => by cases h), ⟨_, rfl⟩⟩) ?_)
 obtain ⟨r1, er1, h⟩ := bnd h
 refine cc [] [(ow_ e_u8 r1)] (D.one (C.own 0 0 r1.length 1)) F.ca_73 rfl rfl (ac (.one .sc) an) an (dossierref04_four.meets _ (a0.length : Int) r1 er1) (s_move (d := (D.one (C.p false (.sl a0.length (a0.flatMap e_u8))))) rfl ?_)
 obtain ⟨r2, er2, h⟩ := bnd h
 refine cc [] [(ow_ e_u8 r1)] (si r2) F.ca_74 rfl rfl (ac (.one .imm) an) an (dossierref02_Crc.meets _ a0 r2 er2) ?_
 obtain ⟨r3, er3, h⟩ := bnd h
 refine cc [] [(ow_ e_u8 r1), (ow_ e_u8 r3)] (D.one (C.own 1 0 r3.length 1)) F.ca_73 rfl rfl (ac (.one .sc) an) an (dossierref04_four.meets _ r2 r3 er3) ?_
 obtain ⟨c4, h⟩ := gdH h
 have dc4 := of_decide_eq_true c4
 refine t_append (xs := r1) (ys := r3) (zs := r1 ++ r3) (H' := [none, (ow_ e_u8 r3), (some (AObj.cells true (rowC e_u8 (r1 ++ r3))))]) F.u_22 F.in_5 rfl e_u8_len (.own rfl rfl) (.own rfl rfl) F.u_22 (by omega) (by omega) rfl rfl (s_move (d := (D.one (C.p false (.sl a0.length (a0.flatMap e_u8))))) rfl ?_)
 obtain ⟨c5, h⟩ := gdH h
 have dc5 := of_decide_eq_true c5
 refine t_append (xs := r1 ++ r3) (ys := a0) (zs := (r1 ++ r3) ++ a0) (H' := [none, (ow_ e_u8 r3), none, (some (AObj.cells true (rowC e_u8 ((r1 ++ r3) ++ a0))))]) F.u_22 F.in_5 rfl e_u8_len (.own rfl rfl) .imm F.u_22 (by omega) (by omega) rfl rfl (s_assign (d := (D.one (C.own 3 0 (((r1 ++ r3) ++ a0).length) 1))) rfl (AWops.nil (AW.ret ?_)))
 obtain rfl := Option.some.inj h
 exact ⟨_, rfl, (wG 0 [3] [])⟩
def dossierref03_named.f (k : Nat) (a0 : ByteArray) : Option Bool := if (decide ((a0.size : Int) ≥ 1)) = true then (some (decide ((a0.size : Int) ≤ 64))) else (some false)
theorem dossierref03_named.meets (k : Nat) (a0 : ByteArray) (r : Bool) (h : dossierref03_named.f k a0 = some r) : Meets Try.prog 70 [(st_ a0)] [] (sb r) [] := by
 unfold dossierref03_named.f at h
 refine Meets.of_body (n := 11) Try.func70 rfl rfl (nl rfl) fun x hx => ?_
 replace hx : x.k = 0 := hx
 show AW _ x _ _ ⟨11, fr0 [(st_ a0)], []⟩
 refine AW.seq (AW.region ?_)
 refine s_assign (d := (sb false)) rfl (AWops.nil (AW.seq (AW.region ?_)))
 refine s_move (d := (st_ a0)) rfl (s_len (n := a0.size) F.u_9 rfl (.inl ⟨⟨_, _, rfl⟩, rfl⟩) (s_binI (v := (.bool (decide ((a0.size : Int) ≥ 1)))) rfl rfl rfl (s_move (d := (sb (decide ((a0.size : Int) ≥ 1)))) rfl ?_)))
 rcases itH h with ⟨c1, h⟩ | ⟨c1, h⟩
 ·refine AWops.guard_yes rfl (nl rfl) rfl c1 ?_
  refine s_move (d := (st_ a0)) rfl ?_
  refine AWops.guard_yes rfl (nl rfl) rfl c1 ?_
  refine s_len (n := a0.size) F.u_9 rfl (.inl ⟨⟨_, _, rfl⟩, rfl⟩) ?_
  refine AWops.guard_yes rfl (nl rfl) rfl c1 ?_
  refine s_binI (v := (.bool (decide ((a0.size : Int) ≤ 64)))) rfl rfl rfl (s_pick_yes (d := (sb (decide ((a0.size : Int) ≤ 64)))) rfl c1 rfl (s_assign (d := (sb (decide ((a0.size : Int) ≤ 64)))) rfl (AWops.nil (AW.ret ?_))))
  obtain rfl := Option.some.inj h
  exact ⟨_, rfl, (wG 0 [] [])⟩
 ·iterate 3 refine AWops.guard_no rfl (nl rfl) rfl c1 ?_
  refine s_pick_no (d := (sb false)) rfl c1 rfl (s_assign (d := (sb false)) rfl (AWops.nil (AW.ret ?_)))
  obtain rfl := Option.some.inj h
  exact ⟨_, rfl, (wG 0 [] [])⟩
mutual
def dossierref03_Disk_Used.l0 : Nat → Int → Int → dossierref03_Disk → Option Int
 | 0, _, _, _ => none
 | k + 1, x1, x2, p0 => if (decide (x2 < (p0.L.length : Int))) = true then ((rd p0.L x2).bind fun v4 => dossierref03_Disk_Used.l0 k (IntKind.i64.wrap (x1 + (v4.B.length : Int))) (IntKind.i64.wrap (x2 + 1)) p0) else (some x1)
end
def dossierref03_Disk_Used.f (k : Nat) (p0 : dossierref03_Disk) : Option Int := dossierref03_Disk_Used.l0 k 0 0 p0
theorem dossierref03_Disk_Used.meets (k : Nat) (p0 : dossierref03_Disk) (r : Int) (h : dossierref03_Disk_Used.f k p0 = some r) : Meets Try.prog 55 [(rf 0 0)] [(o_dossierref03_Disk_0 false (C.own 1 0 p0.L.length 3) p0), (or_ e_dossierref03_File p0.L)] (si r) [(o_dossierref03_Disk_0 false (C.own 1 0 p0.L.length 3) p0), (or_ e_dossierref03_File p0.L)] := by
 unfold dossierref03_Disk_Used.f at h
 refine Meets.of_body (n := 22) Try.func55 rfl rfl (nl rfl) fun x hx => ?_
 replace hx : x.k = 2 := hx
 show AW _ x _ _ ⟨22, fr0 [(rf 0 0)], [(o_dossierref03_Disk_0 false (C.own 1 0 p0.L.length 3) p0), (or_ e_dossierref03_File p0.L)]⟩
 refine AW.seq (AW.region ?_)
 refine s_assign (d := (si 0)) rfl (AWops.nil (AW.seq (AW.region ?_)))
 refine s_assign (d := (si 0)) rfl (AWops.nil (AW.seq (AW.seq (AW.region ?_))))
 refine s_move (d := (rf 0 0)) rfl (s_nilCheck (d := (rf 0 0)) rfl (.inl ⟨_, _, rfl⟩) (s_fieldRef F.fo_52_0 (by decide) rfl (s_load1 (c' := (C.own 1 0 p0.L.length 3)) F.ag_50 rfl rfl (s_len (n := p0.L.length) F.u_50 rfl (.inr ⟨(fun _ _ h => by cases h), ⟨_, rfl⟩⟩) (s_move (d := (si 0)) rfl (AWops.nil (AW.block ?_)))))))
 refine AW.loopw (st0 := ⟨22, (upd 22 (upd 22 (upd 22 (upd 22 topF 3 (si 0)) 9 (D.one (C.own 1 0 p0.L.length 3))) 10 (si (p0.L.length : Int))) 11 (si 0)), [(o_dossierref03_Disk_0 false (C.own 1 0 p0.L.length 3) p0), (or_ e_dossierref03_File p0.L)]⟩) (fun kv st => kv ≤ k ∧ ∃ (x1 : Int) (x2 : Int), dossierref03_Disk_Used.l0 kv x1 x2 p0 = some r ∧ st = ⟨22, (upd 22 (upd 22 (upd 22 (upd 22 topF 3 (si x1)) 9 (D.one (C.own 1 0 p0.L.length 3))) 10 (si (p0.L.length : Int))) 11 (si x2)), [(o_dossierref03_Disk_0 false (C.own 1 0 p0.L.length 3) p0), (or_ e_dossierref03_File p0.L)]⟩) (k := k) (wG 2 [0, 1] []) ⟨Nat.le_refl _, 0, 0, h, rfl⟩ ?_
 rintro ql0 st ⟨hkl0, x1, x2, h, rfl⟩
 cases ql0 with
 | zero => exact absurd h (by simp [dossierref03_Disk_Used.l0])
 | succ ql0 =>
  replace h := (dossierref03_Disk_Used.l0.eq_2 _ _ _ _).symm.trans h
  refine AW.seq (AW.region ?_)
  refine s_binI (v := (.bool (decide (x2 < (p0.L.length : Int))))) rfl rfl rfl (AWops.nil (AW.seq ?_))
  rcases itH h with ⟨c3, h⟩ | ⟨c3, h⟩
  ·refine AW.cond_yes rfl c3 (AW.skip (AW.seq (AW.block (AW.seq (AW.region ?_)))))
   obtain ⟨v4, ev4, h⟩ := bnd h
   obtain ⟨pv4, qv4, gv4⟩ := rd_some ev4
   refine s_indexOwn (d := (D.one (C.er 1 (0 + x2.toNat * 3)))) F.u_50 F.sz_90 rfl rfl pv4 qv4 rfl ?_
   obtain ⟨R5, hR5⟩ := row_at (f := e_dossierref03_File) (sz := 3) (o := 0) e_dossierref03_File_len gv4 (e_dossierref03_File_eq v4) (by decide)
   refine s_loadN (ds := (c_dossierref03_File v4)) F.ag_90 F.sz_90 (congrArg some hR5) rfl rfl (s_alloc (cs := [(ct (⟨#[]⟩ : ByteArray)), (C.p true (.v (.slice none 0 0))), (ci 0)]) F.z_90 rfl rfl (s_store (cs' := (c_dossierref03_File v4)) rfl rfl rfl (List.cons_ne_nil _ _) rfl F.sz_90 (nl rfl) rfl (AWops.nil (AW.region (s_move (d := (si x1)) rfl (s_fieldRef F.fo_90_1 (by decide) rfl (s_load1 (c' := (C.p false (.sl v4.B.length (v4.B.flatMap e_u8)))) F.ag_22 rfl rfl ?_)))))))
   refine s_len (n := v4.B.length) F.u_22 rfl (.inr ⟨(fun _ _ h => by cases h), ⟨_, rfl⟩⟩) (s_binI (v := (.int .i64 (IntKind.i64.wrap (x1 + (v4.B.length : Int))))) rfl rfl rfl (s_assign (d := (si (IntKind.i64.wrap (x1 + (v4.B.length : Int))))) rfl (AWops.nil (AW.region (s_binI (v := (.int .i64 (IntKind.i64.wrap (x2 + 1)))) rfl rfl rfl (s_move (d := (si (IntKind.i64.wrap (x2 + 1)))) rfl (AWops.nil ?_)))))))
   exact ⟨_, ⟨22, (upd 22 (upd 22 (upd 22 (upd 22 topF 3 (si (IntKind.i64.wrap (x1 + (v4.B.length : Int))))) 9 (D.one (C.own 1 0 p0.L.length 3))) 10 (si (p0.L.length : Int))) 11 (si (IntKind.i64.wrap (x2 + 1)))), [(o_dossierref03_Disk_0 false (C.own 1 0 p0.L.length 3) p0), (or_ e_dossierref03_File p0.L)]⟩, by omega, (wG 2 [0, 1] []), by omega, IntKind.i64.wrap (x1 + (v4.B.length : Int)), IntKind.i64.wrap (x2 + 1), h, rfl⟩
  ·refine AW.cond_no rfl c3 (AW.exit (AW.seq (AW.region ?_)))
   refine s_move (d := (si x1)) rfl (s_assign (d := (si x1)) rfl (AWops.nil (AW.ret ?_)))
   obtain rfl := Option.some.inj h
   exact ⟨_, rfl, (wG 2 [0, 1] [])⟩
def dossierref03_Disk_set_66.f (k : Nat) (p0 : dossierref03_Disk) (a1 : dossierref03_File) : Option dossierref03_Disk := (dossierref03_Disk_place.f k p0 a1.Name).bind fun r1 => if r1.2 = true then ((rd p0.L r1.1).bind fun v3 => some (⟨p0.L.set r1.1.toNat a1, p0.Most, p0.Burns, p0.Off⟩ : dossierref03_Disk)) else (if (decide (0 ≤ 0 ∧ 0 ≤ r1.1 ∧ r1.1 ≤ (p0.L.length : Int))) = true then (if (decide (([] : List dossierref03_File).length + (sub p0.L 0 r1.1).length ≤ 2932031007402)) = true then (if (decide ((sub p0.L 0 r1.1).length + ([a1] : List dossierref03_File).length ≤ 2932031007402)) = true then (if (decide (0 ≤ r1.1 ∧ r1.1 ≤ (p0.L.length : Int) ∧ (p0.L.length : Int) ≤ (p0.L.length : Int))) = true then (if (decide (((sub p0.L 0 r1.1) ++ ([a1] : List dossierref03_File)).length + (sub p0.L r1.1 (p0.L.length : Int)).length ≤ 2932031007402)) = true then (some (⟨((sub p0.L 0 r1.1) ++ ([a1] : List dossierref03_File)) ++ (sub p0.L r1.1 (p0.L.length : Int)), p0.Most, p0.Burns, p0.Off⟩ : dossierref03_Disk)) else none) else none) else none) else none) else none)
theorem dossierref03_Disk_set_66.meets (k : Nat) (p0 : dossierref03_Disk) (a1 : dossierref03_File) (r : dossierref03_Disk) (h : dossierref03_Disk_set_66.f k p0 a1 = some r) : Meets Try.prog 66 [(rf 0 0), (D.agg (c_dossierref03_File a1))] [(o_dossierref03_Disk_0 false (C.own 1 0 p0.L.length 3) p0), (or_ e_dossierref03_File p0.L)] (D.tup []) [(o_dossierref03_Disk_0 false (C.own 2 0 r.L.length 3) r), none, (or_ e_dossierref03_File r.L)] := by
 unfold dossierref03_Disk_set_66.f at h
 refine Meets.of_body (n := 42) Try.func66 rfl rfl (nl rfl) fun x hx => ?_
 replace hx : x.k = 2 := hx
 show AW _ x _ _ ⟨42, fr0 [(rf 0 0), (D.agg (c_dossierref03_File a1))], [(o_dossierref03_Disk_0 false (C.own 1 0 p0.L.length 3) p0), (or_ e_dossierref03_File p0.L)]⟩
 refine AW.weak (st' := ⟨42, (upd 42 (upd 42 topF 0 (rf 0 0)) 1 (D.agg (c_dossierref03_File a1))), [(o_dossierref03_Disk_0 false (C.own 2 0 p0.L.length 3) p0), none, (or_ e_dossierref03_File p0.L)]⟩) (Weak.genL (kk := 2) [0, 1, 1] [] hx rfl (by decide) rfl rfl rfl rfl (le_upd (le_upd (le_top _) (o1 (.ref rfl))) (.t (.agg (ac .sc (ac .same (ac .sc an)))))) (ac (.cells id (ac (.own rfl) (ac .sc (ac .sc (ac .sc an))))) (ac (.none _) (ac (.cells id (all2_row _)) an)))) (AW.seq (AW.region ?_))
 refine s_box (cs := (c_dossierref03_File a1)) rfl (List.cons_ne_nil _ _) rfl (AWops.nil (AW.seq (AW.region ?_)))
 refine s_move (d := (rf 0 0)) rfl (s_fieldRef F.fo_90_0 (by decide) rfl (s_load1 (c' := (ct a1.Name)) F.ag_9 rfl rfl ?_))
 obtain ⟨r1, er1, h⟩ := bnd h
 refine cc [0, 2] [(o_dossierref03_Disk_0 false (C.own 2 0 p0.L.length 3) p0), none, (or_ e_dossierref03_File p0.L), (some (AObj.cells true (c_dossierref03_File a1)))] (D.tup [(si r1.1), (sb r1.2)]) F.ca_71 rfl rfl (ac (.one (.ref rfl)) (ac (.one .sc) an)) (ac (.cells (ac (.own rfl) (ac .sc (ac .sc (ac .sc an))))) (ac (.cells (lend_row _)) an)) (dossierref03_Disk_place.meets _ p0 a1.Name r1 er1) (s_move (d := (D.tup [(si r1.1), (sb r1.2)])) rfl (s_extract (d := (si r1.1)) rfl rfl (s_extract (d := (sb r1.2)) rfl rfl (s_assign (d := (si r1.1)) rfl (s_assign (d := (sb r1.2)) rfl (AWops.nil (AW.seq (AW.seq (AW.region ?_)))))))))
 refine s_move (d := (sb r1.2)) rfl (AWops.nil ?_)
 rcases itH h with ⟨c2, h⟩ | ⟨c2, h⟩
 ·refine AW.cond_yes rfl c2 (AW.seq ?_)
  refine AW.weak (st' := ⟨42, (upd 42 (upd 42 (upd 42 topF 0 (rf 0 0)) 3 (rf 2 0)) 4 (si r1.1)), [(o_dossierref03_Disk_0 false (C.own 3 0 p0.L.length 3) p0), none, (some (AObj.cells true (c_dossierref03_File a1))), (or_ e_dossierref03_File p0.L)]⟩) (wG 2 [0, 1, 3, 2] []) ?_
  obtain ⟨v3, ev3, h⟩ := bnd h
  obtain ⟨pv3, qv3, gv3⟩ := rd_some ev3
  refine AW.draw2 4 [kf 14 (rf 0 0) [0], kf 15 (rf 0 0) [14], kf 16 (rf 0 0) [15], ⟨some 17, (D.one (C.own 3 0 p0.L.length 3)), [16], [0], [], none⟩, kf 18 (si r1.1) [4], ⟨some 19, (D.agg (c_dossierref03_File a1)), [3], [2], [], none⟩, ⟨some 20, (D.one (C.er 3 (0 + r1.1.toNat * 3))), [17, 18], [3], [], none⟩, ⟨none, (D.one C.top), [19, 20], [3], [(3, (some (AObj.cells false (rowC e_dossierref03_File (p0.L.set r1.1.toNat a1)))))], none⟩] ⟨?_, ?_⟩
  ·refine (pA (pA (pE F.fo_52_0 (pE F.ag_50 (pA (pC ?_ (pC ?_ (pC ?_ AllStep.nil'))))))))
   ·intro K rest fr hv htk k
    refine s_loadN (ds := (c_dossierref03_File a1)) F.ag_90 F.sz_90 rfl rfl rfl k
   ·intro K rest fr hv htk k
    refine s_indexOwn (d := (D.one (C.er 3 (0 + r1.1.toNat * 3)))) F.u_50 F.sz_90 rfl rfl pv3 qv3 rfl k
   ·intro K rest fr hv htk k
    refine s_storeE (cs' := rowC e_dossierref03_File (p0.L.set r1.1.toNat a1)) rfl rfl rfl (List.cons_ne_nil _ _) rfl F.sz_90 (by rw [row_len e_dossierref03_File_len]; have := (List.getElem?_eq_some_iff.mp gv3).1; show _ + 3 ≤ _; omega) (row_set (f := e_dossierref03_File) (sz := 3) (o := 0) (ds := (p_dossierref03_File a1)) e_dossierref03_File_len gv3 rfl (nl rfl) rfl) ?_
    exact k
  ·refine AWops.weak (st' := ⟨42, topF, [(o_dossierref03_Disk_0 false (C.own 2 0 p0.L.length 3) p0), none, (some (AObj.cells false (rowC e_dossierref03_File (p0.L.set r1.1.toNat a1))))]⟩) (wG 2 [0, 1, 3] []) (AWops.nil (AW.ret ?_))
   obtain rfl := Option.some.inj h
   exact ⟨_, rfl, (wG 2 [0, 1, 2] [])⟩
 ·refine AW.cond_no rfl c2 (AW.skip ?_)
  refine AW.weak (st' := ⟨42, (upd 42 (upd 42 (upd 42 (upd 42 (upd 42 (upd 42 (upd 42 (upd 42 (upd 42 (upd 42 (upd 42 (upd 42 (upd 42 topF 0 (rf 0 0)) 1 (D.agg (c_dossierref03_File a1))) 3 (rf 2 0)) 4 (si r1.1)) 5 (sb r1.2)) 6 (D.tup [(si r1.1), (sb r1.2)])) 7 (rf 0 0)) 8 (rf 2 0)) 9 (st_ a1.Name)) 10 (D.tup [(si r1.1), (sb r1.2)])) 11 (si r1.1)) 12 (sb r1.2)) 13 (sb r1.2)), [(some (AObj.cells false (c_dossierref03_Disk p0))), none, (some (AObj.cells true (c_dossierref03_File a1)))]⟩) (wg 2 [0, 1, 3] [2] hx (le_upd (le_upd (le_upd (le_upd (le_upd (le_upd (le_upd (le_upd (le_upd (le_upd (le_upd (le_upd (le_upd (le_top _) (o1 (.ref rfl))) (.t (.agg (ac .sc (ac .same (ac .sc an)))))) (o1 (.ref rfl))) (o1 .sc)) (o1 .sc)) (DLe.tup (ac (TLe.one .sc) (ac (TLe.one .sc) an)))) (o1 (.ref rfl))) (o1 (.ref rfl))) (o1 .sc)) (DLe.tup (ac (TLe.one .sc) (ac (TLe.one .sc) an)))) (o1 .sc)) (o1 .sc)) (o1 .sc)) (ac (.cells id (ac (CLe.frz e_dossierref03_File_len rfl rfl rfl) (ac .sc (ac .sc (ac .sc an))))) (ac (.none _) (ac (.cells (fun _ => rfl) (ac .sc (ac .same (ac .sc an)))) an)))) ?_
  refine AW.weak (st' := ⟨42, (upd 42 (upd 42 (upd 42 topF 0 (rf 0 0)) 3 (rf 2 0)) 4 (si r1.1)), [(some (AObj.cells false (c_dossierref03_Disk p0))), none, (some (AObj.cells true (c_dossierref03_File a1)))]⟩) (wG 2 [0, 1, 2] []) ?_
  obtain ⟨c4, h⟩ := gdH h
  have dc4 := of_decide_eq_true c4
  obtain ⟨c5, h⟩ := gdH h
  have dc5 := of_decide_eq_true c5
  obtain ⟨c6, h⟩ := gdH h
  have dc6 := of_decide_eq_true c6
  obtain ⟨c7, h⟩ := gdH h
  have dc7 := of_decide_eq_true c7
  obtain ⟨c8, h⟩ := gdH h
  have dc8 := of_decide_eq_true c8
  refine AW.draw2 8 [kf 21 (rf 0 0) [0], ⟨some 22, (D.one (C.own 3 0 (([] : List dossierref03_File).length) 3)), [], [], [(3, (some (AObj.cells true (rowC e_dossierref03_File ([] : List dossierref03_File)))))], some (3, 1)⟩, kf 23 (rf 0 0) [0], kf 24 (rf 0 0) [23], kf 25 (rf 0 0) [24], ⟨some 26, (D.one (C.p false (.sl p0.L.length (p0.L.flatMap e_dossierref03_File)))), [25], [0], [], none⟩, kf 27 (si r1.1) [4], kf 28 (D.one (C.p false (.sl (sub p0.L 0 r1.1).length ((sub p0.L 0 r1.1).flatMap e_dossierref03_File)))) [26, 27], ⟨some 29, (D.one (C.own 4 0 ((sub p0.L 0 r1.1).length) 3)), [22, 28], [3], [(3, none), (4, (some (AObj.cells true (rowC e_dossierref03_File (sub p0.L 0 r1.1)))))], some (4, 1)⟩, ⟨some 30, (D.agg (c_dossierref03_File a1)), [3], [2], [], none⟩, ⟨some 31, (D.one (C.own 5 0 (([a1] : List dossierref03_File).length) 3)), [30], [], [(5, (some (AObj.cells true (rowC e_dossierref03_File ([a1] : List dossierref03_File)))))], some (5, 1)⟩, ⟨some 32, (D.one (C.own 6 0 (((sub p0.L 0 r1.1) ++ ([a1] : List dossierref03_File)).length) 3)), [29, 31], [4, 5], [(4, none), (6, (some (AObj.cells true (rowC e_dossierref03_File ((sub p0.L 0 r1.1) ++ ([a1] : List dossierref03_File))))))], some (6, 1)⟩, kf 33 (rf 0 0) [0], kf 34 (rf 0 0) [33], kf 35 (rf 0 0) [34], ⟨some 36, (D.one (C.p false (.sl p0.L.length (p0.L.flatMap e_dossierref03_File)))), [35], [0], [], none⟩, kf 37 (si r1.1) [4], kf 38 (D.one (C.p false (.sl (sub p0.L r1.1 (p0.L.length : Int)).length ((sub p0.L r1.1 (p0.L.length : Int)).flatMap e_dossierref03_File)))) [36, 37], ⟨some 39, (D.one (C.own 7 0 ((((sub p0.L 0 r1.1) ++ ([a1] : List dossierref03_File)) ++ (sub p0.L r1.1 (p0.L.length : Int))).length) 3)), [32, 38], [6], [(6, none), (7, (some (AObj.cells true (rowC e_dossierref03_File (((sub p0.L 0 r1.1) ++ ([a1] : List dossierref03_File)) ++ (sub p0.L r1.1 (p0.L.length : Int)))))))], some (7, 1)⟩, kf 40 (rf 0 0) [21], kf 41 (rf 0 0) [40], ⟨none, (D.one C.top), [39, 41], [0], [(0, (o_dossierref03_Disk_0 false (C.own 7 0 ((((sub p0.L 0 r1.1) ++ ([a1] : List dossierref03_File)) ++ (sub p0.L r1.1 (p0.L.length : Int))).length) 3) p0))], none⟩] ⟨?_, ?_⟩
  ·refine (pA (pC ?_ (pA (pA (pE F.fo_52_0 (pE F.ag_50 (pA (pC ?_ (pC ?_ (pC ?_ (pC ?_ (pC ?_ (pA (pA (pE F.fo_52_0 (pE F.ag_50 (pA (pC ?_ (pC ?_ (pA (pE F.fo_52_0 (pC ?_ AllStep.nil'))))))))))))))))))))))
   ·intro K rest fr hv htk k
    refine s_buildSlice (n := 0) (ps := []) (cs := rowC e_dossierref03_File ([] : List dossierref03_File)) F.u_50 F.sz_90 F.z_90 rfl rfl (by decide) (by decide) rfl rfl ?_
    refine AWops.weak (wD 2 (3, 1) 8 [0, 1, 2, 8, 4, 5, 6, 7] [] (htk (3, 1) rfl)) k
   ·intro K rest fr hv htk k
    refine t_sliceImm (a := 0) (b := r1.1) F.u_50 F.sz_90 e_dossierref03_File_len rfl (by omega) (by omega) (by omega) .no (.yes rfl (by omega) rfl) k
   ·intro K rest fr hv htk k
    refine t_append (xs := ([] : List dossierref03_File)) (ys := sub p0.L 0 r1.1) (zs := sub p0.L 0 r1.1) (H' := [(hv 0), (hv 1), (hv 2), none, (hv 4), (hv 5), (hv 6), (hv 7), (some (AObj.cells true (rowC e_dossierref03_File (sub p0.L 0 r1.1))))]) F.u_50 F.in_90 rfl e_dossierref03_File_len (.own rfl rfl) .imm F.u_50 (by omega) (by omega) rfl rfl ?_
    refine AWops.weak (wD 2 (4, 1) 8 [0, 1, 2, 3, 8, 5, 6, 7] [] (htk (4, 1) rfl)) k
   ·intro K rest fr hv htk k
    refine s_loadN (ds := (c_dossierref03_File a1)) F.ag_90 F.sz_90 rfl rfl rfl k
   ·intro K rest fr hv htk k
    refine s_buildSlice (n := 1) (ps := [(0, (D.agg (c_dossierref03_File a1)))]) (cs := rowC e_dossierref03_File ([a1] : List dossierref03_File)) F.u_50 F.sz_90 F.z_90 rfl rfl (by decide) (by decide) rfl rfl ?_
    refine AWops.weak (wD 2 (5, 1) 8 [0, 1, 2, 3, 4, 8, 6, 7] [] (htk (5, 1) rfl)) k
   ·intro K rest fr hv htk k
    refine t_append (xs := sub p0.L 0 r1.1) (ys := ([a1] : List dossierref03_File)) (zs := (sub p0.L 0 r1.1) ++ ([a1] : List dossierref03_File)) (H' := [(hv 0), (hv 1), (hv 2), (hv 3), none, (some (AObj.cells true (rowC e_dossierref03_File ([a1] : List dossierref03_File)))), (hv 6), (hv 7), (some (AObj.cells true (rowC e_dossierref03_File ((sub p0.L 0 r1.1) ++ ([a1] : List dossierref03_File)))))]) F.u_50 F.in_90 rfl e_dossierref03_File_len (.own rfl rfl) (.own rfl rfl) F.u_50 (by omega) (by omega) rfl rfl ?_
    refine AWops.weak (wD 2 (6, 1) 8 [0, 1, 2, 3, 4, 5, 8, 7] [] (htk (6, 1) rfl)) k
   ·intro K rest fr hv htk k
    refine t_sliceImm (a := r1.1) (b := (p0.L.length : Int)) F.u_50 F.sz_90 e_dossierref03_File_len rfl (by omega) (by omega) (by omega) (.yes rfl (by omega) rfl) .no k
   ·intro K rest fr hv htk k
    refine t_append (xs := (sub p0.L 0 r1.1) ++ ([a1] : List dossierref03_File)) (ys := sub p0.L r1.1 (p0.L.length : Int)) (zs := ((sub p0.L 0 r1.1) ++ ([a1] : List dossierref03_File)) ++ (sub p0.L r1.1 (p0.L.length : Int))) (H' := [(hv 0), (hv 1), (hv 2), (hv 3), (hv 4), (hv 5), none, (hv 7), (some (AObj.cells true (rowC e_dossierref03_File (((sub p0.L 0 r1.1) ++ ([a1] : List dossierref03_File)) ++ (sub p0.L r1.1 (p0.L.length : Int))))))]) F.u_50 F.in_90 rfl e_dossierref03_File_len (.own rfl rfl) .imm F.u_50 (by omega) (by omega) rfl rfl ?_
    refine AWops.weak (wD 2 (7, 1) 8 [0, 1, 2, 3, 4, 5, 6, 8] [] (htk (7, 1) rfl)) k
   ·intro K rest fr hv htk k
    refine s_store (cs' := [(C.own 7 0 ((((sub p0.L 0 r1.1) ++ ([a1] : List dossierref03_File)) ++ (sub p0.L r1.1 (p0.L.length : Int))).length) 3), (ci p0.Most), (ci p0.Burns), (cb p0.Off)]) rfl rfl rfl (List.cons_ne_nil _ _) rfl F.sz_50 (nl rfl) rfl k
  ·refine AWops.weak (st' := ⟨42, topF, [(o_dossierref03_Disk_0 false (C.own 2 0 ((((sub p0.L 0 r1.1) ++ ([a1] : List dossierref03_File)) ++ (sub p0.L r1.1 (p0.L.length : Int))).length) 3) p0), none, (some (AObj.cells true (rowC e_dossierref03_File (((sub p0.L 0 r1.1) ++ ([a1] : List dossierref03_File)) ++ (sub p0.L r1.1 (p0.L.length : Int))))))]⟩) (wG 2 [0, 1, 7] []) (AWops.nil ?_)
   obtain rfl := Option.some.inj h
   exact ⟨_, rfl, (wG 2 [0, 1, 2] [])⟩
end Go.Abs.GenZ
